/- Definitions: marks, owned copies. Written by mk7.py. -/
import Derived.Test.YtofbieojmaobfaaGreatAiD1
import Derived.Test.YtofbieojmaobfaaGreatAiM3
set_option linter.unusedVariables false
set_option linter.unusedSimpArgs false
namespace Go.Ai
open Go.Proofs Go.RowKit
set_option maxRecDepth 100000
theorem toIntSF_sat (xs : List Int) (hs : szL szI xs < 1048577) : SatF Tryz.prog 137 [slV (xs.map encI)] (slV (xs.map encI)) := by
 have hl := len_szL szI xs
 obtain ⟨rows, hrows⟩ : ∃ rows, rows = xs.map encI := ⟨_, rfl⟩
 have lr : rows.length = xs.length := by rw [hrows]; simp
 rw [← hrows]
 refine satF_of_code [slV rows] rfl (fun _ h => by cases h) tbOk mixed Tryz.func137 rfl rfl rfl (by decide +kernel) (by decide +kernel) (Nat.le_of_ble_eq_true rfl) ?_
 simp -implicitDefEqProofs (disch := omega) only [go_sem, lr]
 refine ⟨⟨by omega, by omega⟩, fun _ => ?_⟩
 obtain ⟨Z, hZ⟩ : ∃ Z, Z = List.replicate xs.length zInt := ⟨_, rfl⟩
 obtain ⟨Fr, hFr⟩ : ∃ Fr, Fr = rows.map fun q => q.map dC := ⟨_, rfl⟩
 have lZ : Z.length = xs.length := by rw [hZ]; simp
 have lF : Fr.length = Z.length := by rw [hFr, lZ]; simp [lr]
 have iF : ∀ lb r, r ∈ Fr → ∀ a, a ∈ r → inC lb a := fun lb => by rw [hFr]; exact drows_in lb
 have iZ : ∀ lb r, r ∈ Z → ∀ a, a ∈ r → inC lb a := fun lb => by rw [hZ]; exact rep_in (by simp [zInt, inC])
 rw [← hZ]
 refine loopA_rule (ι := Nat) (fun i => mk 22 [(0, slV rows), (3, .one (.own 7 xs.length)), (4, intV i)] [(7, .arr 3 1 (turnR Fr Z i) false)]) (fun i => i ≤ xs.length) (fun i => xs.length - i) 0 (Nat.zero_le _) ?_ tbOk mixed (by decide +kernel) ?_
 ·exact le_mk (by simp [go_sem]) (by simp only [leB, lookB_cons, if_true, inB, turnR_zero, true_and, and_true]; exact iZ _)
 ·intro i hi
  have hlen := turnR_len (i := i) lF (by omega)
  rcases Nat.lt_or_ge i xs.length with hlt | hge
  ·have hi' : i < Z.length := by omega
   have hg : rows.getD i [] = encI xs[i] := by rw [hrows]; exact map_getD hlt
   have eZ : Z[i] = zInt := by simp [hZ]
   have eF : Fr[i]'(by omega) = (encI xs[i]).map dC := by simp [hFr, hrows]
   have hm := szL_mem szI xs _ (List.getElem_mem hlt)
   generalize xs[i] = x at hg eF hm
   have hfin := turnS_turnR lF hi'
   rw [eF] at hfin
   have sl := fun r => turnS_len lF hi' r
   have sg := fun r => turnS_get lF hi' r
   rw [turnR_eq lF hi' eZ]
   simp -implicitDefEqProofs (disch := omega) only [go_sem, hg, hlt, lr, lZ, sl, sg, turnS_set, encI, List.forall_mem_cons, List.not_mem_nil]
   refine ⟨i + 1, hlt, by omega, (le_mk (by simp [go_sem]) ?_)⟩
   simp only [leB, lookB_cons, if_true, inB, true_and, and_true]
   exact ⟨by rw [← hfin] <;> rfl, turnR_in (iF _) (iZ _)⟩
  ·have : i = xs.length := by omega
   subst this
   simp -implicitDefEqProofs (disch := omega) only [go_sem, hlen, lZ, lr, Nat.lt_irrefl]
   rw [turnR_end lF lZ.symm, hFr]
   exact ⟨drows_isO, drows_toC⟩
theorem markIntS_nil (k : Int) : Sat Tryz.prog 22 [slV [], intV k] (intV k) := by
 refine sat_of_code tbOk mixed Tryz.func22 rfl rfl rfl (by decide +kernel) (by decide +kernel) (Nat.le_of_ble_eq_true rfl) ?_
 simp -implicitDefEqProofs (disch := omega) only [go_sem]
 refine loopA_rule (ι := Unit) (fun _ => mk 19 [(0, slV []), (1, intV k), (5, intV 0)] []) (fun _ => True) (fun _ => 0) () trivial ?_ tbOk mixed (by decide +kernel) ?_
 ·exact le_mk (by simp [go_sem]) (by simp [go_sem])
 ·intro _ _
  simp -implicitDefEqProofs (disch := omega) only [go_sem]
  intro h; omega
theorem markIntS_sat (xs : List Int) (hw : wfL wfI xs) (k : Int) (h0 : 0 ≤ k) (h1 : (mkRows (xs.map encI) k).2 ≤ 100000000) : SatM Tryz.prog 22 [.one (.m (.sl (xs.map encI))), intV k] [.one (.m (.sl (mkRows (xs.map encI) k).1)), intV k] (intV (mkRows (xs.map encI) k).2) := by
 have hl := hw.1
 cases hx : xs with
 | nil => simpa [mkRows] using satM_nil (rest := [intV k]) rfl rfl (markIntS_nil k)
 | cons x0 xs0 =>
  rw [← hx]
  simp only [maxLen] at hl
  obtain ⟨rows, hrows⟩ : ∃ rows, rows = xs.map encI := ⟨_, rfl⟩
  have lr : rows.length = xs.length := by rw [hrows]; simp
  rw [← hrows] at h1 ⊢
  refine satM_slice 9001 1 tbOk mixed Tryz.func22 rfl rfl rfl (by decide +kernel) (by decide +kernel) (Nat.le_of_ble_eq_true rfl) rfl rfl (by rw [hrows, hx]; simp) (by rw [hrows]; simp [encI]) (fun e => ?_)
  simp -implicitDefEqProofs (disch := omega) only [go_sem]
  obtain ⟨G, hG⟩ : ∃ G, G = rows.map fun q => q.map mC := ⟨_, rfl⟩
  obtain ⟨Fr, hFr⟩ : ∃ Fr, Fr = (mkRows rows k).1.map fun q => q.map mC := ⟨_, rfl⟩
  have lG : G.length = rows.length := by rw [hG]; simp
  have lF : Fr.length = G.length := by rw [hFr, lG]; simp [mkRows_len]
  have iF : ∀ lb r, r ∈ Fr → ∀ a, a ∈ r → inC lb a := fun lb => by rw [hFr]; exact mrows_in lb
  have iG : ∀ lb r, r ∈ G → ∀ a, a ∈ r → inC lb a := fun lb => by rw [hG]; exact mrows_in lb
  have nF : noD Fr = true := by rw [hFr]; exact mrows_noD
  have nG : noD G = true := by rw [hG]; exact mrows_noD
  rw [← hG]
  refine loopW_rule (ι := Nat) (fun i => mk 19 [(0, .one (.own 9001 rows.length)), (1, intV (kAt rows k i)), (5, intV i)] [(9001, .arr e 1 (turnR Fr G i) false)] [.one (.own 9001 rows.length)]) (fun i => i ≤ rows.length) (fun i => rows.length - i) 0 (Nat.zero_le _) ?_ tbOk mixed (by decide +kernel) ?_
  ·exact le_mk (by simp [go_sem, kAt_zero]) (by simp only [leB, lookB_cons, if_true, inB, turnR_zero, true_and, and_true]; exact iG _)
  ·intro i hi
   have hlen := turnR_len (i := i) lF (by omega)
   rcases Nat.lt_or_ge i rows.length with hlt | hge
   ·have hi' : i < G.length := by omega
    obtain ⟨hm, eM, eK⟩ := mkRows_at rows k i hlt
    have hb1 := kAt_cnt rows k i
    have hb2 := cntRows_get rows i hlt
    have hb3 := mkRows_cnt rows k
    have hb4 := mkCells_cnt rows[i] (kAt rows k i)
    have ex : rows[i] = encI (xs[i]'(by omega)) := by simp [hrows]
    have hw' := hw.2 _ (List.getElem_mem (show i < xs.length by omega))
    generalize xs[i]'(by omega) = x at ex hw'
    rw [ex] at eM eK hb2 hb4
    simp only [encI, mkCells, mkC] at eM eK hb2 hb4
    generalize hK : kAt rows k i = K at eM eK hb1 hb4
    have hKn : 0 ≤ K := by omega
    have eG : G[i] = [iC x] := by simp [hG, ex, encI, mC]
    have eF : Fr[i]'(by omega) = [iC K] := by simp [hFr, eM, mC]
    have hfin := turnS_turnR lF hi'
    rw [eF] at hfin
    have sl := fun r => turnS_len lF hi' r
    have sg := fun r => turnS_get lF hi' r
    rw [turnR_eq lF hi' eG]
    refine ⟨_, Wk.refl _, ?_⟩
    simp -implicitDefEqProofs (disch := omega) only [go_sem, sl, sg, turnS_set, lG, hlt, List.forall_mem_cons, List.not_mem_nil, Tm.args]
    refine ⟨i + 1, hlt, by omega, (le_mk (by simp [go_sem, eK]) ?_)⟩
    simp only [leB, lookB_cons, if_true, inB, true_and, and_true]
    exact ⟨by rw [← hfin] <;> rfl, turnR_in (iF _) (iG _)⟩
   ·have : i = rows.length := by omega
    subst this
    refine ⟨_, Wk.refl _, ?_⟩
    simp -implicitDefEqProofs (disch := omega) only [go_sem, hlen, lG, Nat.lt_irrefl, kAt_all]
    exact turnedRow_mk rfl (by rw [turnR_end lF lG.symm, hFr]) (by rw [mkRows_len]) rfl
theorem toStringSF_sat (xs : List ByteArray) (hs : szL szS xs < 1048577) : SatF Tryz.prog 109 [slV (xs.map encS)] (slV (xs.map encS)) := by
 have hl := len_szL szS xs
 obtain ⟨rows, hrows⟩ : ∃ rows, rows = xs.map encS := ⟨_, rfl⟩
 have lr : rows.length = xs.length := by rw [hrows]; simp
 rw [← hrows]
 refine satF_of_code [slV rows] rfl (fun _ h => by cases h) tbOk mixed Tryz.func109 rfl rfl rfl (by decide +kernel) (by decide +kernel) (Nat.le_of_ble_eq_true rfl) ?_
 simp -implicitDefEqProofs (disch := omega) only [go_sem, lr]
 refine ⟨⟨by omega, by omega⟩, fun _ => ?_⟩
 obtain ⟨Z, hZ⟩ : ∃ Z, Z = List.replicate xs.length zString := ⟨_, rfl⟩
 obtain ⟨Fr, hFr⟩ : ∃ Fr, Fr = rows.map fun q => q.map dC := ⟨_, rfl⟩
 have lZ : Z.length = xs.length := by rw [hZ]; simp
 have lF : Fr.length = Z.length := by rw [hFr, lZ]; simp [lr]
 have iF : ∀ lb r, r ∈ Fr → ∀ a, a ∈ r → inC lb a := fun lb => by rw [hFr]; exact drows_in lb
 have iZ : ∀ lb r, r ∈ Z → ∀ a, a ∈ r → inC lb a := fun lb => by rw [hZ]; exact rep_in (by simp [zString, inC])
 rw [← hZ]
 refine loopA_rule (ι := Nat) (fun i => mk 22 [(0, slV rows), (3, .one (.own 7 xs.length)), (4, intV i)] [(7, .arr 9 1 (turnR Fr Z i) false)]) (fun i => i ≤ xs.length) (fun i => xs.length - i) 0 (Nat.zero_le _) ?_ tbOk mixed (by decide +kernel) ?_
 ·exact le_mk (by simp [go_sem]) (by simp only [leB, lookB_cons, if_true, inB, turnR_zero, true_and, and_true]; exact iZ _)
 ·intro i hi
  have hlen := turnR_len (i := i) lF (by omega)
  rcases Nat.lt_or_ge i xs.length with hlt | hge
  ·have hi' : i < Z.length := by omega
   have hg : rows.getD i [] = encS xs[i] := by rw [hrows]; exact map_getD hlt
   have eZ : Z[i] = zString := by simp [hZ]
   have eF : Fr[i]'(by omega) = (encS xs[i]).map dC := by simp [hFr, hrows]
   have hm := szL_mem szS xs _ (List.getElem_mem hlt)
   generalize xs[i] = x at hg eF hm
   have hfin := turnS_turnR lF hi'
   rw [eF] at hfin
   have sl := fun r => turnS_len lF hi' r
   have sg := fun r => turnS_get lF hi' r
   rw [turnR_eq lF hi' eZ]
   simp -implicitDefEqProofs (disch := omega) only [go_sem, hg, hlt, lr, lZ, sl, sg, turnS_set, encS, List.forall_mem_cons, List.not_mem_nil]
   refine ⟨i + 1, hlt, by omega, (le_mk (by simp [go_sem]) ?_)⟩
   simp only [leB, lookB_cons, if_true, inB, true_and, and_true]
   exact ⟨by rw [← hfin] <;> rfl, turnR_in (iF _) (iZ _)⟩
  ·have : i = xs.length := by omega
   subst this
   simp -implicitDefEqProofs (disch := omega) only [go_sem, hlen, lZ, lr, Nat.lt_irrefl]
   rw [turnR_end lF lZ.symm, hFr]
   exact ⟨drows_isO, drows_toC⟩
theorem markStringS_nil (k : Int) : Sat Tryz.prog 121 [slV [], intV k] (intV k) := by
 refine sat_of_code tbOk mixed Tryz.func121 rfl rfl rfl (by decide +kernel) (by decide +kernel) (Nat.le_of_ble_eq_true rfl) ?_
 simp -implicitDefEqProofs (disch := omega) only [go_sem]
 refine loopA_rule (ι := Unit) (fun _ => mk 20 [(0, slV []), (1, intV k), (5, intV 0)] []) (fun _ => True) (fun _ => 0) () trivial ?_ tbOk mixed (by decide +kernel) ?_
 ·exact le_mk (by simp [go_sem]) (by simp [go_sem])
 ·intro _ _
  simp -implicitDefEqProofs (disch := omega) only [go_sem]
  intro h; omega
theorem markStringS_sat (xs : List ByteArray) (hw : wfL wfS xs) (k : Int) (h0 : 0 ≤ k) (h1 : (mkRows (xs.map encS) k).2 ≤ 100000000) : SatM Tryz.prog 121 [.one (.m (.sl (xs.map encS))), intV k] [.one (.m (.sl (mkRows (xs.map encS) k).1)), intV k] (intV (mkRows (xs.map encS) k).2) := by
 have hl := hw.1
 cases hx : xs with
 | nil => simpa [mkRows] using satM_nil (rest := [intV k]) rfl rfl (markStringS_nil k)
 | cons x0 xs0 =>
  rw [← hx]
  simp only [maxLen] at hl
  obtain ⟨rows, hrows⟩ : ∃ rows, rows = xs.map encS := ⟨_, rfl⟩
  have lr : rows.length = xs.length := by rw [hrows]; simp
  rw [← hrows] at h1 ⊢
  refine satM_slice 9001 1 tbOk mixed Tryz.func121 rfl rfl rfl (by decide +kernel) (by decide +kernel) (Nat.le_of_ble_eq_true rfl) rfl rfl (by rw [hrows, hx]; simp) (by rw [hrows]; simp [encS]) (fun e => ?_)
  simp -implicitDefEqProofs (disch := omega) only [go_sem]
  obtain ⟨G, hG⟩ : ∃ G, G = rows.map fun q => q.map mC := ⟨_, rfl⟩
  obtain ⟨Fr, hFr⟩ : ∃ Fr, Fr = (mkRows rows k).1.map fun q => q.map mC := ⟨_, rfl⟩
  have lG : G.length = rows.length := by rw [hG]; simp
  have lF : Fr.length = G.length := by rw [hFr, lG]; simp [mkRows_len]
  have iF : ∀ lb r, r ∈ Fr → ∀ a, a ∈ r → inC lb a := fun lb => by rw [hFr]; exact mrows_in lb
  have iG : ∀ lb r, r ∈ G → ∀ a, a ∈ r → inC lb a := fun lb => by rw [hG]; exact mrows_in lb
  have nF : noD Fr = true := by rw [hFr]; exact mrows_noD
  have nG : noD G = true := by rw [hG]; exact mrows_noD
  rw [← hG]
  refine loopW_rule (ι := Nat) (fun i => mk 20 [(0, .one (.own 9001 rows.length)), (1, intV (kAt rows k i)), (5, intV i)] [(9001, .arr e 1 (turnR Fr G i) false)] [.one (.own 9001 rows.length)]) (fun i => i ≤ rows.length) (fun i => rows.length - i) 0 (Nat.zero_le _) ?_ tbOk mixed (by decide +kernel) ?_
  ·exact le_mk (by simp [go_sem, kAt_zero]) (by simp only [leB, lookB_cons, if_true, inB, turnR_zero, true_and, and_true]; exact iG _)
  ·intro i hi
   have hlen := turnR_len (i := i) lF (by omega)
   rcases Nat.lt_or_ge i rows.length with hlt | hge
   ·have hi' : i < G.length := by omega
    obtain ⟨hm, eM, eK⟩ := mkRows_at rows k i hlt
    have hb1 := kAt_cnt rows k i
    have hb2 := cntRows_get rows i hlt
    have hb3 := mkRows_cnt rows k
    have hb4 := mkCells_cnt rows[i] (kAt rows k i)
    have ex : rows[i] = encS (xs[i]'(by omega)) := by simp [hrows]
    have hw' := hw.2 _ (List.getElem_mem (show i < xs.length by omega))
    generalize xs[i]'(by omega) = x at ex hw'
    rw [ex] at eM eK hb2 hb4
    simp only [encS, mkCells, mkC] at eM eK hb2 hb4
    generalize hK : kAt rows k i = K at eM eK hb1 hb4
    have hKn : 0 ≤ K := by omega
    have eG : G[i] = [sC x] := by simp [hG, ex, encS, mC]
    have eF : Fr[i]'(by omega) = [sC (mtext K)] := by simp [hFr, eM, mC]
    have hfin := turnS_turnR lF hi'
    rw [eF] at hfin
    have sl := fun r => turnS_len lF hi' r
    have sg := fun r => turnS_get lF hi' r
    rw [turnR_eq lF hi' eG]
    refine ⟨_, Wk.refl _, ?_⟩
    simp -implicitDefEqProofs (disch := omega) only [go_sem, sl, sg, turnS_set, lG, hlt, List.forall_mem_cons, List.not_mem_nil, Tm.args]
    refine CallK.bor (markText_sat K (by omega)) rfl ?_
    simp -implicitDefEqProofs (disch := omega) only [go_sem, sl, sg, turnS_set, lG, hlt, List.forall_mem_cons, List.not_mem_nil, Tm.args]
    refine ⟨i + 1, hlt, by omega, (le_mk (by simp [go_sem, eK]) ?_)⟩
    simp only [leB, lookB_cons, if_true, inB, true_and, and_true]
    exact ⟨by rw [← hfin] <;> rfl, turnR_in (iF _) (iG _)⟩
   ·have : i = rows.length := by omega
    subst this
    refine ⟨_, Wk.refl _, ?_⟩
    simp -implicitDefEqProofs (disch := omega) only [go_sem, hlen, lG, Nat.lt_irrefl, kAt_all]
    exact turnedRow_mk rfl (by rw [turnR_end lF lG.symm, hFr]) (by rw [mkRows_len]) rfl
theorem GGuard.csz (x : GGuard) : cszCells x.enc = x.size := by simp only [GGuard.enc, GGuard.size, cszCells_append, Nat.add_assoc, Tm.csz, cszE_I]
theorem GGuard.nar (x : GGuard) : narCells x.enc := (narCells_append _ _ (narE_I x.kd) (narCells_append _ _ (Tm.nar x.le) (Tm.nar x.ri)))
theorem toGuardF_sat (x : GGuard) (hs : x.size < 1048577) : SatF Tryz.prog 208 [aggV x.enc] (aggV x.enc) := by
 obtain ⟨xkd, ⟨xlek, xlen, xles, xlet⟩, ⟨xrik, xrin, xris, xrit⟩⟩ := x
 simp only [GGuard.size, szI, szS] at hs
 refine satF_of_code [_] rfl (fun _ h => by cases h) tbOk mixed Tryz.func208 rfl rfl rfl (by decide +kernel) (by decide +kernel) (Nat.le_of_ble_eq_true rfl) ?_
 simp -implicitDefEqProofs (disch := omega) only [go_sem, GGuard.enc, Tm.enc, encB, encI, encL, encS, List.cons_append, List.nil_append, List.append_nil]
 refine CallK.own (toTermF_sat (.mk xlek xlen xles xlet) (by omega)) rfl ?_
 simp -implicitDefEqProofs (disch := omega) only [go_sem, GGuard.enc, Tm.enc, encB, encI, encL, encS, List.cons_append, List.nil_append, List.append_nil]
 refine CallK.own (toTermF_sat (.mk xrik xrin xris xrit) (by omega)) rfl ?_
 simp -implicitDefEqProofs (disch := omega) only [go_sem, GGuard.enc, Tm.enc, encB, encI, encL, encS, List.cons_append, List.nil_append, List.append_nil]
theorem toGuardSF_sat (xs : List GGuard) (hs : szL GGuard.size xs < 1048577) : SatF Tryz.prog 167 [slV (xs.map GGuard.enc)] (slV (xs.map GGuard.enc)) := by
 have hl := len_szL GGuard.size xs
 obtain ⟨rows, hrows⟩ : ∃ rows, rows = xs.map GGuard.enc := ⟨_, rfl⟩
 have lr : rows.length = xs.length := by rw [hrows]; simp
 rw [← hrows]
 refine satF_of_code [slV rows] rfl (fun _ h => by cases h) tbOk mixed Tryz.func167 rfl rfl rfl (by decide +kernel) (by decide +kernel) (Nat.le_of_ble_eq_true rfl) ?_
 simp -implicitDefEqProofs (disch := omega) only [go_sem, lr]
 refine ⟨⟨by omega, by omega⟩, fun _ => ?_⟩
 obtain ⟨Z, hZ⟩ : ∃ Z, Z = List.replicate xs.length zGuard := ⟨_, rfl⟩
 obtain ⟨Fr, hFr⟩ : ∃ Fr, Fr = rows.map fun q => q.map dC := ⟨_, rfl⟩
 have lZ : Z.length = xs.length := by rw [hZ]; simp
 have lF : Fr.length = Z.length := by rw [hFr, lZ]; simp [lr]
 have iF : ∀ lb r, r ∈ Fr → ∀ a, a ∈ r → inC lb a := fun lb => by rw [hFr]; exact drows_in lb
 have iZ : ∀ lb r, r ∈ Z → ∀ a, a ∈ r → inC lb a := fun lb => by rw [hZ]; exact rep_in (by simp [zGuard, inC])
 rw [← hZ]
 refine loopA_rule (ι := Nat) (fun i => mk 23 [(0, slV rows), (3, .one (.own 7 xs.length)), (4, intV i)] [(7, .arr 211 9 (turnR Fr Z i) false)]) (fun i => i ≤ xs.length) (fun i => xs.length - i) 0 (Nat.zero_le _) ?_ tbOk mixed (by decide +kernel) ?_
 ·exact le_mk (by simp [go_sem]) (by simp only [leB, lookB_cons, if_true, inB, turnR_zero, true_and, and_true]; exact iZ _)
 ·intro i hi
  have hlen := turnR_len (i := i) lF (by omega)
  rcases Nat.lt_or_ge i xs.length with hlt | hge
  ·have hi' : i < Z.length := by omega
   have hg : rows.getD i [] = GGuard.enc xs[i] := by rw [hrows]; exact map_getD hlt
   have eZ : Z[i] = zGuard := by simp [hZ]
   have eF : Fr[i]'(by omega) = (GGuard.enc xs[i]).map dC := by simp [hFr, hrows]
   have hm := szL_mem GGuard.size xs _ (List.getElem_mem hlt)
   generalize xs[i] = x at hg eF hm
   have hto := toGuardF_sat x (by omega)
   obtain ⟨xkd, ⟨xlek, xlen, xles, xlet⟩, ⟨xrik, xrin, xris, xrit⟩⟩ := x
   have hfin := turnS_turnR lF hi'
   rw [eF] at hfin
   have sl := fun r => turnS_len lF hi' r
   have sg := fun r => turnS_get lF hi' r
   rw [turnR_eq lF hi' eZ]
   simp -implicitDefEqProofs (disch := omega) only [go_sem, hg, hlt, lr, lZ, sl, sg, turnS_set, GGuard.enc, Tm.enc, encB, encI, encL, encS, List.cons_append, List.nil_append, List.append_nil, List.forall_mem_cons, List.not_mem_nil]
   refine CallK.own hto rfl ?_
   simp -implicitDefEqProofs (disch := omega) only [go_sem, hg, hlt, lr, lZ, sl, sg, turnS_set, GGuard.enc, Tm.enc, encB, encI, encL, encS, List.cons_append, List.nil_append, List.append_nil, List.forall_mem_cons, List.not_mem_nil]
   refine ⟨i + 1, hlt, by omega, ((wk_moveS (l := 7) (c := 4) lF hi' rfl rfl rfl rfl).trans ((wk_moveS (l := 7) (c := 8) lF hi' rfl rfl rfl rfl).trans (le_mk (by simp [go_sem]) ?_)))⟩
   simp only [leB, lookB_cons, if_true, inB, true_and, and_true]
   exact ⟨by rw [← hfin] <;> rfl, turnR_in (iF _) (iZ _)⟩
  ·have : i = xs.length := by omega
   subst this
   simp -implicitDefEqProofs (disch := omega) only [go_sem, hlen, lZ, lr, Nat.lt_irrefl]
   rw [turnR_end lF lZ.symm, hFr]
   exact ⟨drows_isO, drows_toC⟩
theorem markGuardS_nil (k : Int) : Sat Tryz.prog 124 [slV [], intV k] (intV k) := by
 refine sat_of_code tbOk mixed Tryz.func124 rfl rfl rfl (by decide +kernel) (by decide +kernel) (Nat.le_of_ble_eq_true rfl) ?_
 simp -implicitDefEqProofs (disch := omega) only [go_sem]
 refine loopA_rule (ι := Unit) (fun _ => mk 86 [(0, slV []), (1, intV k), (5, intV 0)] []) (fun _ => True) (fun _ => 0) () trivial ?_ tbOk mixed (by decide +kernel) ?_
 ·exact le_mk (by simp [go_sem]) (by simp [go_sem])
 ·intro _ _
  simp -implicitDefEqProofs (disch := omega) only [go_sem]
  intro h; omega
theorem markGuardS_sat (xs : List GGuard) (hw : wfL GGuard.wf xs) (k : Int) (h0 : 0 ≤ k) (h1 : (mkRows (xs.map GGuard.enc) k).2 ≤ 100000000) : SatM Tryz.prog 124 [.one (.m (.sl (xs.map GGuard.enc))), intV k] [.one (.m (.sl (mkRows (xs.map GGuard.enc) k).1)), intV k] (intV (mkRows (xs.map GGuard.enc) k).2) := by
 have hl := hw.1
 cases hx : xs with
 | nil => simpa [mkRows] using satM_nil (rest := [intV k]) rfl rfl (markGuardS_nil k)
 | cons x0 xs0 =>
  rw [← hx]
  simp only [maxLen] at hl
  obtain ⟨rows, hrows⟩ : ∃ rows, rows = xs.map GGuard.enc := ⟨_, rfl⟩
  have lr : rows.length = xs.length := by rw [hrows]; simp
  rw [← hrows] at h1 ⊢
  refine satM_slice 9001 9 tbOk mixed Tryz.func124 rfl rfl rfl (by decide +kernel) (by decide +kernel) (Nat.le_of_ble_eq_true rfl) rfl rfl (by rw [hrows, hx]; simp) (by rw [hrows]; simp [GGuard.enc_len]) (fun e => ?_)
  simp -implicitDefEqProofs (disch := omega) only [go_sem]
  obtain ⟨G, hG⟩ : ∃ G, G = rows.map fun q => q.map mC := ⟨_, rfl⟩
  obtain ⟨Fr, hFr⟩ : ∃ Fr, Fr = (mkRows rows k).1.map fun q => q.map mC := ⟨_, rfl⟩
  have lG : G.length = rows.length := by rw [hG]; simp
  have lF : Fr.length = G.length := by rw [hFr, lG]; simp [mkRows_len]
  have iF : ∀ lb r, r ∈ Fr → ∀ a, a ∈ r → inC lb a := fun lb => by rw [hFr]; exact mrows_in lb
  have iG : ∀ lb r, r ∈ G → ∀ a, a ∈ r → inC lb a := fun lb => by rw [hG]; exact mrows_in lb
  have nF : noD Fr = true := by rw [hFr]; exact mrows_noD
  have nG : noD G = true := by rw [hG]; exact mrows_noD
  rw [← hG]
  refine loopW_rule (ι := Nat) (fun i => mk 86 [(0, .one (.own 9001 rows.length)), (1, intV (kAt rows k i)), (5, intV i)] [(9001, .arr e 9 (turnR Fr G i) false)] [.one (.own 9001 rows.length)]) (fun i => i ≤ rows.length) (fun i => rows.length - i) 0 (Nat.zero_le _) ?_ tbOk mixed (by decide +kernel) ?_
  ·exact le_mk (by simp [go_sem, kAt_zero]) (by simp only [leB, lookB_cons, if_true, inB, turnR_zero, true_and, and_true]; exact iG _)
  ·intro i hi
   have hlen := turnR_len (i := i) lF (by omega)
   rcases Nat.lt_or_ge i rows.length with hlt | hge
   ·have hi' : i < G.length := by omega
    obtain ⟨hm, eM, eK⟩ := mkRows_at rows k i hlt
    have hb1 := kAt_cnt rows k i
    have hb2 := cntRows_get rows i hlt
    have hb3 := mkRows_cnt rows k
    have hb4 := mkCells_cnt rows[i] (kAt rows k i)
    have ex : rows[i] = GGuard.enc (xs[i]'(by omega)) := by simp [hrows]
    have hw' := hw.2 _ (List.getElem_mem (show i < xs.length by omega))
    generalize xs[i]'(by omega) = x at ex hw'
    obtain ⟨xkd, ⟨xlek, xlen, xles, xlet⟩, ⟨xrik, xrin, xris, xrit⟩⟩ := x
    simp only [GGuard.wf] at hw'
    rw [ex] at eM eK hb2 hb4
    simp only [GGuard.enc, Tm.enc, encB, encI, encL, encS, List.cons_append, List.nil_append, List.append_nil, mkCells, mkC] at eM eK hb2 hb4
    generalize hK : kAt rows k i = K at eM eK hb1 hb4
    have hKn : 0 ≤ K := by omega
    have hc4 := mkRows_cnt (Tm.encs xlet) ((((K + 1) + 1) + 1) + 1)
    have hc8 := mkRows_cnt (Tm.encs xrit) ((((mkRows (Tm.encs xlet) ((((K + 1) + 1) + 1) + 1)).2 + 1) + 1) + 1)
    have eG : G[i] = [iC xkd, iC xlek, iC xlen, sC xles, .m (.sl (Tm.encs xlet)), iC xrik, iC xrin, sC xris, .m (.sl (Tm.encs xrit))] := by simp [hG, ex, GGuard.enc, Tm.enc, encB, encI, encL, encS, List.cons_append, List.nil_append, List.append_nil, mC]
    have eF : Fr[i]'(by omega) = [iC K, iC (K + 1), iC ((K + 1) + 1), sC (mtext (((K + 1) + 1) + 1)), .m (.sl (mkRows (Tm.encs xlet) ((((K + 1) + 1) + 1) + 1)).1), iC (mkRows (Tm.encs xlet) ((((K + 1) + 1) + 1) + 1)).2, iC ((mkRows (Tm.encs xlet) ((((K + 1) + 1) + 1) + 1)).2 + 1), sC (mtext (((mkRows (Tm.encs xlet) ((((K + 1) + 1) + 1) + 1)).2 + 1) + 1)), .m (.sl (mkRows (Tm.encs xrit) ((((mkRows (Tm.encs xlet) ((((K + 1) + 1) + 1) + 1)).2 + 1) + 1) + 1)).1)] := by simp [hFr, eM, mC]
    have hfin := turnS_turnR lF hi'
    rw [eF] at hfin
    have sl := fun r => turnS_len lF hi' r
    have sg := fun r => turnS_get lF hi' r
    rw [turnR_eq lF hi' eG]
    refine ⟨_, ((wk_takeS (l := 9001) (T := 9104) (c := 4) lF hi' rfl rfl rfl (by exact turnS_noD nF nG rfl)).trans (wk_takeS (l := 9001) (T := 9108) (c := 8) lF hi' rfl rfl rfl (by exact turnS_noD nF nG rfl))), ?_⟩
    simp -implicitDefEqProofs (disch := omega) only [go_sem, sl, sg, turnS_set, lG, hlt, List.forall_mem_cons, List.not_mem_nil, Tm.args]
    refine CallK.bor (markText_sat (((K + 1) + 1) + 1) (by omega)) rfl ?_
    simp -implicitDefEqProofs (disch := omega) only [go_sem, sl, sg, turnS_set, lG, hlt, List.forall_mem_cons, List.not_mem_nil, Tm.args]
    refine CallK.mut (markTermS_tm (.mk xlek xlen xles xlet) hw'.2.1 ((((K + 1) + 1) + 1) + 1) (by omega) (by simp only [Tm.args]; omega)) ?_
    simp -implicitDefEqProofs (disch := omega) only [go_sem, sl, sg, turnS_set, lG, hlt, List.forall_mem_cons, List.not_mem_nil, Tm.args]
    refine CallK.bor (markText_sat (((mkRows (Tm.encs xlet) ((((K + 1) + 1) + 1) + 1)).2 + 1) + 1) (by omega)) rfl ?_
    simp -implicitDefEqProofs (disch := omega) only [go_sem, sl, sg, turnS_set, lG, hlt, List.forall_mem_cons, List.not_mem_nil, Tm.args]
    refine CallK.mut (markTermS_tm (.mk xrik xrin xris xrit) hw'.2.2 ((((mkRows (Tm.encs xlet) ((((K + 1) + 1) + 1) + 1)).2 + 1) + 1) + 1) (by omega) (by simp only [Tm.args]; omega)) ?_
    simp -implicitDefEqProofs (disch := omega) only [go_sem, sl, sg, turnS_set, lG, hlt, List.forall_mem_cons, List.not_mem_nil, Tm.args]
    refine ⟨i + 1, hlt, by omega, ((wk_giveS (l := 9001) (T := 9104) (c := 4) lF hi' rfl rfl rfl).trans ((wk_giveS (l := 9001) (T := 9108) (c := 8) lF hi' rfl rfl rfl).trans (le_mk (by simp [go_sem, eK]) ?_)))⟩
    simp only [leB, lookB_cons, if_true, inB, true_and, and_true]
    exact ⟨by rw [← hfin] <;> rfl, turnR_in (iF _) (iG _)⟩
   ·have : i = rows.length := by omega
    subst this
    refine ⟨_, Wk.refl _, ?_⟩
    simp -implicitDefEqProofs (disch := omega) only [go_sem, hlen, lG, Nat.lt_irrefl, kAt_all]
    exact turnedRow_mk rfl (by rw [turnR_end lF lG.symm, hFr]) (by rw [mkRows_len]) rfl
theorem GRule.csz (x : GRule) : cszCells x.enc = x.size := by simp only [GRule.enc, GRule.size, cszCells_append, Nat.add_assoc, Tm.csz, cszE_S, cszL_of GGuard.csz]
theorem GRule.nar (x : GRule) : narCells x.enc := (narCells_append _ _ (narE_S x.na) (narCells_append _ _ (Tm.nar x.le) (narCells_append _ _ (Tm.nar x.ri) (narL_of (fun y => ⟨by rw [GGuard.enc_len]; omega, GGuard.nar y⟩) x.gu))))
theorem toRuleF_sat (x : GRule) (hs : x.size < 1048577) : SatF Tryz.prog 111 [aggV x.enc] (aggV x.enc) := by
 obtain ⟨xna, ⟨xlek, xlen, xles, xlet⟩, ⟨xrik, xrin, xris, xrit⟩, xgu⟩ := x
 simp only [GRule.size, szI, szS] at hs
 refine satF_of_code [_] rfl (fun _ h => by cases h) tbOk mixed Tryz.func111 rfl rfl rfl (by decide +kernel) (by decide +kernel) (Nat.le_of_ble_eq_true rfl) ?_
 simp -implicitDefEqProofs (disch := omega) only [go_sem, GRule.enc, Tm.enc, encB, encI, encL, encS, List.cons_append, List.nil_append, List.append_nil]
 refine CallK.own (toTermF_sat (.mk xlek xlen xles xlet) (by omega)) rfl ?_
 simp -implicitDefEqProofs (disch := omega) only [go_sem, GRule.enc, Tm.enc, encB, encI, encL, encS, List.cons_append, List.nil_append, List.append_nil]
 refine CallK.own (toTermF_sat (.mk xrik xrin xris xrit) (by omega)) rfl ?_
 simp -implicitDefEqProofs (disch := omega) only [go_sem, GRule.enc, Tm.enc, encB, encI, encL, encS, List.cons_append, List.nil_append, List.append_nil]
 refine CallK.own (toGuardSF_sat xgu (by omega)) rfl ?_
 simp -implicitDefEqProofs (disch := omega) only [go_sem, GRule.enc, Tm.enc, encB, encI, encL, encS, List.cons_append, List.nil_append, List.append_nil]
theorem toRuleSF_sat (xs : List GRule) (hs : szL GRule.size xs < 1048577) : SatF Tryz.prog 53 [slV (xs.map GRule.enc)] (slV (xs.map GRule.enc)) := by
 have hl := len_szL GRule.size xs
 obtain ⟨rows, hrows⟩ : ∃ rows, rows = xs.map GRule.enc := ⟨_, rfl⟩
 have lr : rows.length = xs.length := by rw [hrows]; simp
 rw [← hrows]
 refine satF_of_code [slV rows] rfl (fun _ h => by cases h) tbOk mixed Tryz.func53 rfl rfl rfl (by decide +kernel) (by decide +kernel) (Nat.le_of_ble_eq_true rfl) ?_
 simp -implicitDefEqProofs (disch := omega) only [go_sem, lr]
 refine ⟨⟨by omega, by omega⟩, fun _ => ?_⟩
 obtain ⟨Z, hZ⟩ : ∃ Z, Z = List.replicate xs.length zRule := ⟨_, rfl⟩
 obtain ⟨Fr, hFr⟩ : ∃ Fr, Fr = rows.map fun q => q.map dC := ⟨_, rfl⟩
 have lZ : Z.length = xs.length := by rw [hZ]; simp
 have lF : Fr.length = Z.length := by rw [hFr, lZ]; simp [lr]
 have iF : ∀ lb r, r ∈ Fr → ∀ a, a ∈ r → inC lb a := fun lb => by rw [hFr]; exact drows_in lb
 have iZ : ∀ lb r, r ∈ Z → ∀ a, a ∈ r → inC lb a := fun lb => by rw [hZ]; exact rep_in (by simp [zRule, inC])
 rw [← hZ]
 refine loopA_rule (ι := Nat) (fun i => mk 23 [(0, slV rows), (3, .one (.own 7 xs.length)), (4, intV i)] [(7, .arr 157 10 (turnR Fr Z i) false)]) (fun i => i ≤ xs.length) (fun i => xs.length - i) 0 (Nat.zero_le _) ?_ tbOk mixed (by decide +kernel) ?_
 ·exact le_mk (by simp [go_sem]) (by simp only [leB, lookB_cons, if_true, inB, turnR_zero, true_and, and_true]; exact iZ _)
 ·intro i hi
  have hlen := turnR_len (i := i) lF (by omega)
  rcases Nat.lt_or_ge i xs.length with hlt | hge
  ·have hi' : i < Z.length := by omega
   have hg : rows.getD i [] = GRule.enc xs[i] := by rw [hrows]; exact map_getD hlt
   have eZ : Z[i] = zRule := by simp [hZ]
   have eF : Fr[i]'(by omega) = (GRule.enc xs[i]).map dC := by simp [hFr, hrows]
   have hm := szL_mem GRule.size xs _ (List.getElem_mem hlt)
   generalize xs[i] = x at hg eF hm
   have hto := toRuleF_sat x (by omega)
   obtain ⟨xna, ⟨xlek, xlen, xles, xlet⟩, ⟨xrik, xrin, xris, xrit⟩, xgu⟩ := x
   have hfin := turnS_turnR lF hi'
   rw [eF] at hfin
   have sl := fun r => turnS_len lF hi' r
   have sg := fun r => turnS_get lF hi' r
   rw [turnR_eq lF hi' eZ]
   simp -implicitDefEqProofs (disch := omega) only [go_sem, hg, hlt, lr, lZ, sl, sg, turnS_set, GRule.enc, Tm.enc, encB, encI, encL, encS, List.cons_append, List.nil_append, List.append_nil, List.forall_mem_cons, List.not_mem_nil]
   refine CallK.own hto rfl ?_
   simp -implicitDefEqProofs (disch := omega) only [go_sem, hg, hlt, lr, lZ, sl, sg, turnS_set, GRule.enc, Tm.enc, encB, encI, encL, encS, List.cons_append, List.nil_append, List.append_nil, List.forall_mem_cons, List.not_mem_nil]
   refine ⟨i + 1, hlt, by omega, ((wk_moveS (l := 7) (c := 4) lF hi' rfl rfl rfl rfl).trans ((wk_moveS (l := 7) (c := 8) lF hi' rfl rfl rfl rfl).trans ((wk_moveS (l := 7) (c := 9) lF hi' rfl rfl rfl rfl).trans (le_mk (by simp [go_sem]) ?_))))⟩
   simp only [leB, lookB_cons, if_true, inB, true_and, and_true]
   exact ⟨by rw [← hfin] <;> rfl, turnR_in (iF _) (iZ _)⟩
  ·have : i = xs.length := by omega
   subst this
   simp -implicitDefEqProofs (disch := omega) only [go_sem, hlen, lZ, lr, Nat.lt_irrefl]
   rw [turnR_end lF lZ.symm, hFr]
   exact ⟨drows_isO, drows_toC⟩
theorem markRuleS_nil (k : Int) : Sat Tryz.prog 65 [slV [], intV k] (intV k) := by
 refine sat_of_code tbOk mixed Tryz.func65 rfl rfl rfl (by decide +kernel) (by decide +kernel) (Nat.le_of_ble_eq_true rfl) ?_
 simp -implicitDefEqProofs (disch := omega) only [go_sem]
 refine loopA_rule (ι := Unit) (fun _ => mk 94 [(0, slV []), (1, intV k), (5, intV 0)] []) (fun _ => True) (fun _ => 0) () trivial ?_ tbOk mixed (by decide +kernel) ?_
 ·exact le_mk (by simp [go_sem]) (by simp [go_sem])
 ·intro _ _
  simp -implicitDefEqProofs (disch := omega) only [go_sem]
  intro h; omega
theorem markRuleS_sat (xs : List GRule) (hw : wfL GRule.wf xs) (k : Int) (h0 : 0 ≤ k) (h1 : (mkRows (xs.map GRule.enc) k).2 ≤ 100000000) : SatM Tryz.prog 65 [.one (.m (.sl (xs.map GRule.enc))), intV k] [.one (.m (.sl (mkRows (xs.map GRule.enc) k).1)), intV k] (intV (mkRows (xs.map GRule.enc) k).2) := by
 have hl := hw.1
 cases hx : xs with
 | nil => simpa [mkRows] using satM_nil (rest := [intV k]) rfl rfl (markRuleS_nil k)
 | cons x0 xs0 =>
  rw [← hx]
  simp only [maxLen] at hl
  obtain ⟨rows, hrows⟩ : ∃ rows, rows = xs.map GRule.enc := ⟨_, rfl⟩
  have lr : rows.length = xs.length := by rw [hrows]; simp
  rw [← hrows] at h1 ⊢
  refine satM_slice 9001 10 tbOk mixed Tryz.func65 rfl rfl rfl (by decide +kernel) (by decide +kernel) (Nat.le_of_ble_eq_true rfl) rfl rfl (by rw [hrows, hx]; simp) (by rw [hrows]; simp [GRule.enc_len]) (fun e => ?_)
  simp -implicitDefEqProofs (disch := omega) only [go_sem]
  obtain ⟨G, hG⟩ : ∃ G, G = rows.map fun q => q.map mC := ⟨_, rfl⟩
  obtain ⟨Fr, hFr⟩ : ∃ Fr, Fr = (mkRows rows k).1.map fun q => q.map mC := ⟨_, rfl⟩
  have lG : G.length = rows.length := by rw [hG]; simp
  have lF : Fr.length = G.length := by rw [hFr, lG]; simp [mkRows_len]
  have iF : ∀ lb r, r ∈ Fr → ∀ a, a ∈ r → inC lb a := fun lb => by rw [hFr]; exact mrows_in lb
  have iG : ∀ lb r, r ∈ G → ∀ a, a ∈ r → inC lb a := fun lb => by rw [hG]; exact mrows_in lb
  have nF : noD Fr = true := by rw [hFr]; exact mrows_noD
  have nG : noD G = true := by rw [hG]; exact mrows_noD
  rw [← hG]
  refine loopW_rule (ι := Nat) (fun i => mk 94 [(0, .one (.own 9001 rows.length)), (1, intV (kAt rows k i)), (5, intV i)] [(9001, .arr e 10 (turnR Fr G i) false)] [.one (.own 9001 rows.length)]) (fun i => i ≤ rows.length) (fun i => rows.length - i) 0 (Nat.zero_le _) ?_ tbOk mixed (by decide +kernel) ?_
  ·exact le_mk (by simp [go_sem, kAt_zero]) (by simp only [leB, lookB_cons, if_true, inB, turnR_zero, true_and, and_true]; exact iG _)
  ·intro i hi
   have hlen := turnR_len (i := i) lF (by omega)
   rcases Nat.lt_or_ge i rows.length with hlt | hge
   ·have hi' : i < G.length := by omega
    obtain ⟨hm, eM, eK⟩ := mkRows_at rows k i hlt
    have hb1 := kAt_cnt rows k i
    have hb2 := cntRows_get rows i hlt
    have hb3 := mkRows_cnt rows k
    have hb4 := mkCells_cnt rows[i] (kAt rows k i)
    have ex : rows[i] = GRule.enc (xs[i]'(by omega)) := by simp [hrows]
    have hw' := hw.2 _ (List.getElem_mem (show i < xs.length by omega))
    generalize xs[i]'(by omega) = x at ex hw'
    obtain ⟨xna, ⟨xlek, xlen, xles, xlet⟩, ⟨xrik, xrin, xris, xrit⟩, xgu⟩ := x
    simp only [GRule.wf] at hw'
    rw [ex] at eM eK hb2 hb4
    simp only [GRule.enc, Tm.enc, encB, encI, encL, encS, List.cons_append, List.nil_append, List.append_nil, mkCells, mkC] at eM eK hb2 hb4
    generalize hK : kAt rows k i = K at eM eK hb1 hb4
    have hKn : 0 ≤ K := by omega
    have hc4 := mkRows_cnt (Tm.encs xlet) ((((K + 1) + 1) + 1) + 1)
    have hc8 := mkRows_cnt (Tm.encs xrit) ((((mkRows (Tm.encs xlet) ((((K + 1) + 1) + 1) + 1)).2 + 1) + 1) + 1)
    have hc9 := mkRows_cnt (xgu.map GGuard.enc) (mkRows (Tm.encs xrit) ((((mkRows (Tm.encs xlet) ((((K + 1) + 1) + 1) + 1)).2 + 1) + 1) + 1)).2
    have eG : G[i] = [sC xna, iC xlek, iC xlen, sC xles, .m (.sl (Tm.encs xlet)), iC xrik, iC xrin, sC xris, .m (.sl (Tm.encs xrit)), .m (.sl (xgu.map GGuard.enc))] := by simp [hG, ex, GRule.enc, Tm.enc, encB, encI, encL, encS, List.cons_append, List.nil_append, List.append_nil, mC]
    have eF : Fr[i]'(by omega) = [sC (mtext K), iC (K + 1), iC ((K + 1) + 1), sC (mtext (((K + 1) + 1) + 1)), .m (.sl (mkRows (Tm.encs xlet) ((((K + 1) + 1) + 1) + 1)).1), iC (mkRows (Tm.encs xlet) ((((K + 1) + 1) + 1) + 1)).2, iC ((mkRows (Tm.encs xlet) ((((K + 1) + 1) + 1) + 1)).2 + 1), sC (mtext (((mkRows (Tm.encs xlet) ((((K + 1) + 1) + 1) + 1)).2 + 1) + 1)), .m (.sl (mkRows (Tm.encs xrit) ((((mkRows (Tm.encs xlet) ((((K + 1) + 1) + 1) + 1)).2 + 1) + 1) + 1)).1), .m (.sl (mkRows (xgu.map GGuard.enc) (mkRows (Tm.encs xrit) ((((mkRows (Tm.encs xlet) ((((K + 1) + 1) + 1) + 1)).2 + 1) + 1) + 1)).2).1)] := by simp [hFr, eM, mC]
    have hfin := turnS_turnR lF hi'
    rw [eF] at hfin
    have sl := fun r => turnS_len lF hi' r
    have sg := fun r => turnS_get lF hi' r
    rw [turnR_eq lF hi' eG]
    refine ⟨_, ((wk_takeS (l := 9001) (T := 9104) (c := 4) lF hi' rfl rfl rfl (by exact turnS_noD nF nG rfl)).trans ((wk_takeS (l := 9001) (T := 9108) (c := 8) lF hi' rfl rfl rfl (by exact turnS_noD nF nG rfl)).trans (wk_takeS (l := 9001) (T := 9109) (c := 9) lF hi' rfl rfl rfl (by exact turnS_noD nF nG rfl)))), ?_⟩
    simp -implicitDefEqProofs (disch := omega) only [go_sem, sl, sg, turnS_set, lG, hlt, List.forall_mem_cons, List.not_mem_nil, Tm.args]
    refine CallK.bor (markText_sat K (by omega)) rfl ?_
    simp -implicitDefEqProofs (disch := omega) only [go_sem, sl, sg, turnS_set, lG, hlt, List.forall_mem_cons, List.not_mem_nil, Tm.args]
    refine CallK.bor (markText_sat (((K + 1) + 1) + 1) (by omega)) rfl ?_
    simp -implicitDefEqProofs (disch := omega) only [go_sem, sl, sg, turnS_set, lG, hlt, List.forall_mem_cons, List.not_mem_nil, Tm.args]
    refine CallK.mut (markTermS_tm (.mk xlek xlen xles xlet) hw'.2.1 ((((K + 1) + 1) + 1) + 1) (by omega) (by simp only [Tm.args]; omega)) ?_
    simp -implicitDefEqProofs (disch := omega) only [go_sem, sl, sg, turnS_set, lG, hlt, List.forall_mem_cons, List.not_mem_nil, Tm.args]
    refine CallK.bor (markText_sat (((mkRows (Tm.encs xlet) ((((K + 1) + 1) + 1) + 1)).2 + 1) + 1) (by omega)) rfl ?_
    simp -implicitDefEqProofs (disch := omega) only [go_sem, sl, sg, turnS_set, lG, hlt, List.forall_mem_cons, List.not_mem_nil, Tm.args]
    refine CallK.mut (markTermS_tm (.mk xrik xrin xris xrit) hw'.2.2.1 ((((mkRows (Tm.encs xlet) ((((K + 1) + 1) + 1) + 1)).2 + 1) + 1) + 1) (by omega) (by simp only [Tm.args]; omega)) ?_
    simp -implicitDefEqProofs (disch := omega) only [go_sem, sl, sg, turnS_set, lG, hlt, List.forall_mem_cons, List.not_mem_nil, Tm.args]
    refine CallK.mut (markGuardS_sat xgu hw'.2.2.2 (mkRows (Tm.encs xrit) ((((mkRows (Tm.encs xlet) ((((K + 1) + 1) + 1) + 1)).2 + 1) + 1) + 1)).2 (by omega) (by omega)) ?_
    simp -implicitDefEqProofs (disch := omega) only [go_sem, sl, sg, turnS_set, lG, hlt, List.forall_mem_cons, List.not_mem_nil, Tm.args]
    refine ⟨i + 1, hlt, by omega, ((wk_giveS (l := 9001) (T := 9104) (c := 4) lF hi' rfl rfl rfl).trans ((wk_giveS (l := 9001) (T := 9108) (c := 8) lF hi' rfl rfl rfl).trans ((wk_giveS (l := 9001) (T := 9109) (c := 9) lF hi' rfl rfl rfl).trans (le_mk (by simp [go_sem, eK]) ?_))))⟩
    simp only [leB, lookB_cons, if_true, inB, true_and, and_true]
    exact ⟨by rw [← hfin] <;> rfl, turnR_in (iF _) (iG _)⟩
   ·have : i = rows.length := by omega
    subst this
    refine ⟨_, Wk.refl _, ?_⟩
    simp -implicitDefEqProofs (disch := omega) only [go_sem, hlen, lG, Nat.lt_irrefl, kAt_all]
    exact turnedRow_mk rfl (by rw [turnR_end lF lG.symm, hFr]) (by rw [mkRows_len]) rfl
theorem GOp.csz (x : GOp) : cszCells x.enc = x.size := by simp only [GOp.enc, GOp.size, cszCells_append, Nat.add_assoc, cszE_S, cszL_of cszE_S]
theorem GOp.nar (x : GOp) : narCells x.enc := (narCells_append _ _ (narE_S x.na) (narCells_append _ _ (narL_of (fun y => ⟨by simp [encS], narE_S y⟩) x.ar) (narE_S x.re)))
theorem toOpF_sat (x : GOp) (hs : x.size < 1048577) : SatF Tryz.prog 166 [aggV x.enc] (aggV x.enc) := by
 obtain ⟨xna, xar, xre⟩ := x
 simp only [GOp.size, szI, szS] at hs
 refine satF_of_code [_] rfl (fun _ h => by cases h) tbOk mixed Tryz.func166 rfl rfl rfl (by decide +kernel) (by decide +kernel) (Nat.le_of_ble_eq_true rfl) ?_
 simp -implicitDefEqProofs (disch := omega) only [go_sem, GOp.enc, Tm.enc, encB, encI, encL, encS, List.cons_append, List.nil_append, List.append_nil]
 refine CallK.own (toStringSF_sat xar (by omega)) rfl ?_
 simp -implicitDefEqProofs (disch := omega) only [go_sem, GOp.enc, Tm.enc, encB, encI, encL, encS, List.cons_append, List.nil_append, List.append_nil]
theorem toOpSF_sat (xs : List GOp) (hs : szL GOp.size xs < 1048577) : SatF Tryz.prog 110 [slV (xs.map GOp.enc)] (slV (xs.map GOp.enc)) := by
 have hl := len_szL GOp.size xs
 obtain ⟨rows, hrows⟩ : ∃ rows, rows = xs.map GOp.enc := ⟨_, rfl⟩
 have lr : rows.length = xs.length := by rw [hrows]; simp
 rw [← hrows]
 refine satF_of_code [slV rows] rfl (fun _ h => by cases h) tbOk mixed Tryz.func110 rfl rfl rfl (by decide +kernel) (by decide +kernel) (Nat.le_of_ble_eq_true rfl) ?_
 simp -implicitDefEqProofs (disch := omega) only [go_sem, lr]
 refine ⟨⟨by omega, by omega⟩, fun _ => ?_⟩
 obtain ⟨Z, hZ⟩ : ∃ Z, Z = List.replicate xs.length zOp := ⟨_, rfl⟩
 obtain ⟨Fr, hFr⟩ : ∃ Fr, Fr = rows.map fun q => q.map dC := ⟨_, rfl⟩
 have lZ : Z.length = xs.length := by rw [hZ]; simp
 have lF : Fr.length = Z.length := by rw [hFr, lZ]; simp [lr]
 have iF : ∀ lb r, r ∈ Fr → ∀ a, a ∈ r → inC lb a := fun lb => by rw [hFr]; exact drows_in lb
 have iZ : ∀ lb r, r ∈ Z → ∀ a, a ∈ r → inC lb a := fun lb => by rw [hZ]; exact rep_in (by simp [zOp, inC])
 rw [← hZ]
 refine loopA_rule (ι := Nat) (fun i => mk 23 [(0, slV rows), (3, .one (.own 7 xs.length)), (4, intV i)] [(7, .arr 204 3 (turnR Fr Z i) false)]) (fun i => i ≤ xs.length) (fun i => xs.length - i) 0 (Nat.zero_le _) ?_ tbOk mixed (by decide +kernel) ?_
 ·exact le_mk (by simp [go_sem]) (by simp only [leB, lookB_cons, if_true, inB, turnR_zero, true_and, and_true]; exact iZ _)
 ·intro i hi
  have hlen := turnR_len (i := i) lF (by omega)
  rcases Nat.lt_or_ge i xs.length with hlt | hge
  ·have hi' : i < Z.length := by omega
   have hg : rows.getD i [] = GOp.enc xs[i] := by rw [hrows]; exact map_getD hlt
   have eZ : Z[i] = zOp := by simp [hZ]
   have eF : Fr[i]'(by omega) = (GOp.enc xs[i]).map dC := by simp [hFr, hrows]
   have hm := szL_mem GOp.size xs _ (List.getElem_mem hlt)
   generalize xs[i] = x at hg eF hm
   have hto := toOpF_sat x (by omega)
   obtain ⟨xna, xar, xre⟩ := x
   have hfin := turnS_turnR lF hi'
   rw [eF] at hfin
   have sl := fun r => turnS_len lF hi' r
   have sg := fun r => turnS_get lF hi' r
   rw [turnR_eq lF hi' eZ]
   simp -implicitDefEqProofs (disch := omega) only [go_sem, hg, hlt, lr, lZ, sl, sg, turnS_set, GOp.enc, Tm.enc, encB, encI, encL, encS, List.cons_append, List.nil_append, List.append_nil, List.forall_mem_cons, List.not_mem_nil]
   refine CallK.own hto rfl ?_
   simp -implicitDefEqProofs (disch := omega) only [go_sem, hg, hlt, lr, lZ, sl, sg, turnS_set, GOp.enc, Tm.enc, encB, encI, encL, encS, List.cons_append, List.nil_append, List.append_nil, List.forall_mem_cons, List.not_mem_nil]
   refine ⟨i + 1, hlt, by omega, ((wk_moveS (l := 7) (c := 1) lF hi' rfl rfl rfl rfl).trans (le_mk (by simp [go_sem]) ?_))⟩
   simp only [leB, lookB_cons, if_true, inB, true_and, and_true]
   exact ⟨by rw [← hfin] <;> rfl, turnR_in (iF _) (iZ _)⟩
  ·have : i = xs.length := by omega
   subst this
   simp -implicitDefEqProofs (disch := omega) only [go_sem, hlen, lZ, lr, Nat.lt_irrefl]
   rw [turnR_end lF lZ.symm, hFr]
   exact ⟨drows_isO, drows_toC⟩
theorem markOpS_nil (k : Int) : Sat Tryz.prog 122 [slV [], intV k] (intV k) := by
 refine sat_of_code tbOk mixed Tryz.func122 rfl rfl rfl (by decide +kernel) (by decide +kernel) (Nat.le_of_ble_eq_true rfl) ?_
 simp -implicitDefEqProofs (disch := omega) only [go_sem]
 refine loopA_rule (ι := Unit) (fun _ => mk 36 [(0, slV []), (1, intV k), (5, intV 0)] []) (fun _ => True) (fun _ => 0) () trivial ?_ tbOk mixed (by decide +kernel) ?_
 ·exact le_mk (by simp [go_sem]) (by simp [go_sem])
 ·intro _ _
  simp -implicitDefEqProofs (disch := omega) only [go_sem]
  intro h; omega
theorem markOpS_sat (xs : List GOp) (hw : wfL GOp.wf xs) (k : Int) (h0 : 0 ≤ k) (h1 : (mkRows (xs.map GOp.enc) k).2 ≤ 100000000) : SatM Tryz.prog 122 [.one (.m (.sl (xs.map GOp.enc))), intV k] [.one (.m (.sl (mkRows (xs.map GOp.enc) k).1)), intV k] (intV (mkRows (xs.map GOp.enc) k).2) := by
 have hl := hw.1
 cases hx : xs with
 | nil => simpa [mkRows] using satM_nil (rest := [intV k]) rfl rfl (markOpS_nil k)
 | cons x0 xs0 =>
  rw [← hx]
  simp only [maxLen] at hl
  obtain ⟨rows, hrows⟩ : ∃ rows, rows = xs.map GOp.enc := ⟨_, rfl⟩
  have lr : rows.length = xs.length := by rw [hrows]; simp
  rw [← hrows] at h1 ⊢
  refine satM_slice 9001 3 tbOk mixed Tryz.func122 rfl rfl rfl (by decide +kernel) (by decide +kernel) (Nat.le_of_ble_eq_true rfl) rfl rfl (by rw [hrows, hx]; simp) (by rw [hrows]; simp [GOp.enc_len]) (fun e => ?_)
  simp -implicitDefEqProofs (disch := omega) only [go_sem]
  obtain ⟨G, hG⟩ : ∃ G, G = rows.map fun q => q.map mC := ⟨_, rfl⟩
  obtain ⟨Fr, hFr⟩ : ∃ Fr, Fr = (mkRows rows k).1.map fun q => q.map mC := ⟨_, rfl⟩
  have lG : G.length = rows.length := by rw [hG]; simp
  have lF : Fr.length = G.length := by rw [hFr, lG]; simp [mkRows_len]
  have iF : ∀ lb r, r ∈ Fr → ∀ a, a ∈ r → inC lb a := fun lb => by rw [hFr]; exact mrows_in lb
  have iG : ∀ lb r, r ∈ G → ∀ a, a ∈ r → inC lb a := fun lb => by rw [hG]; exact mrows_in lb
  have nF : noD Fr = true := by rw [hFr]; exact mrows_noD
  have nG : noD G = true := by rw [hG]; exact mrows_noD
  rw [← hG]
  refine loopW_rule (ι := Nat) (fun i => mk 36 [(0, .one (.own 9001 rows.length)), (1, intV (kAt rows k i)), (5, intV i)] [(9001, .arr e 3 (turnR Fr G i) false)] [.one (.own 9001 rows.length)]) (fun i => i ≤ rows.length) (fun i => rows.length - i) 0 (Nat.zero_le _) ?_ tbOk mixed (by decide +kernel) ?_
  ·exact le_mk (by simp [go_sem, kAt_zero]) (by simp only [leB, lookB_cons, if_true, inB, turnR_zero, true_and, and_true]; exact iG _)
  ·intro i hi
   have hlen := turnR_len (i := i) lF (by omega)
   rcases Nat.lt_or_ge i rows.length with hlt | hge
   ·have hi' : i < G.length := by omega
    obtain ⟨hm, eM, eK⟩ := mkRows_at rows k i hlt
    have hb1 := kAt_cnt rows k i
    have hb2 := cntRows_get rows i hlt
    have hb3 := mkRows_cnt rows k
    have hb4 := mkCells_cnt rows[i] (kAt rows k i)
    have ex : rows[i] = GOp.enc (xs[i]'(by omega)) := by simp [hrows]
    have hw' := hw.2 _ (List.getElem_mem (show i < xs.length by omega))
    generalize xs[i]'(by omega) = x at ex hw'
    obtain ⟨xna, xar, xre⟩ := x
    simp only [GOp.wf] at hw'
    rw [ex] at eM eK hb2 hb4
    simp only [GOp.enc, Tm.enc, encB, encI, encL, encS, List.cons_append, List.nil_append, List.append_nil, mkCells, mkC] at eM eK hb2 hb4
    generalize hK : kAt rows k i = K at eM eK hb1 hb4
    have hKn : 0 ≤ K := by omega
    have hc1 := mkRows_cnt (xar.map encS) (K + 1)
    have eG : G[i] = [sC xna, .m (.sl (xar.map encS)), sC xre] := by simp [hG, ex, GOp.enc, Tm.enc, encB, encI, encL, encS, List.cons_append, List.nil_append, List.append_nil, mC]
    have eF : Fr[i]'(by omega) = [sC (mtext K), .m (.sl (mkRows (xar.map encS) (K + 1)).1), sC (mtext (mkRows (xar.map encS) (K + 1)).2)] := by simp [hFr, eM, mC]
    have hfin := turnS_turnR lF hi'
    rw [eF] at hfin
    have sl := fun r => turnS_len lF hi' r
    have sg := fun r => turnS_get lF hi' r
    rw [turnR_eq lF hi' eG]
    refine ⟨_, (wk_takeS (l := 9001) (T := 9101) (c := 1) lF hi' rfl rfl rfl (by exact turnS_noD nF nG rfl)), ?_⟩
    simp -implicitDefEqProofs (disch := omega) only [go_sem, sl, sg, turnS_set, lG, hlt, List.forall_mem_cons, List.not_mem_nil, Tm.args]
    refine CallK.bor (markText_sat K (by omega)) rfl ?_
    simp -implicitDefEqProofs (disch := omega) only [go_sem, sl, sg, turnS_set, lG, hlt, List.forall_mem_cons, List.not_mem_nil, Tm.args]
    refine CallK.mut (markStringS_sat xar hw'.2.1 (K + 1) (by omega) (by omega)) ?_
    simp -implicitDefEqProofs (disch := omega) only [go_sem, sl, sg, turnS_set, lG, hlt, List.forall_mem_cons, List.not_mem_nil, Tm.args]
    refine CallK.bor (markText_sat (mkRows (xar.map encS) (K + 1)).2 (by omega)) rfl ?_
    simp -implicitDefEqProofs (disch := omega) only [go_sem, sl, sg, turnS_set, lG, hlt, List.forall_mem_cons, List.not_mem_nil, Tm.args]
    refine ⟨i + 1, hlt, by omega, ((wk_giveS (l := 9001) (T := 9101) (c := 1) lF hi' rfl rfl rfl).trans (le_mk (by simp [go_sem, eK]) ?_))⟩
    simp only [leB, lookB_cons, if_true, inB, true_and, and_true]
    exact ⟨by rw [← hfin] <;> rfl, turnR_in (iF _) (iG _)⟩
   ·have : i = rows.length := by omega
    subst this
    refine ⟨_, Wk.refl _, ?_⟩
    simp -implicitDefEqProofs (disch := omega) only [go_sem, hlen, lG, Nat.lt_irrefl, kAt_all]
    exact turnedRow_mk rfl (by rw [turnR_end lF lG.symm, hFr]) (by rw [mkRows_len]) rfl
theorem GStrict.csz (x : GStrict) : cszCells x.enc = x.size := by simp only [GStrict.enc, GStrict.size, cszCells_append, Nat.add_assoc, cszE_I, cszE_S]
theorem GStrict.nar (x : GStrict) : narCells x.enc := (narCells_append _ _ (narE_S x.op) (narE_I x.ar))
theorem toStrictF_sat (x : GStrict) (hs : x.size < 1048577) : SatF Tryz.prog 112 [aggV x.enc] (aggV x.enc) := by
 obtain ⟨xop, xar⟩ := x
 simp only [GStrict.size, szI, szS] at hs
 refine satF_of_code [_] rfl (fun _ h => by cases h) tbOk mixed Tryz.func112 rfl rfl rfl (by decide +kernel) (by decide +kernel) (Nat.le_of_ble_eq_true rfl) ?_
 simp -implicitDefEqProofs (disch := omega) only [go_sem, GStrict.enc, Tm.enc, encB, encI, encL, encS, List.cons_append, List.nil_append, List.append_nil]
theorem toStrictSF_sat (xs : List GStrict) (hs : szL GStrict.size xs < 1048577) : SatF Tryz.prog 54 [slV (xs.map GStrict.enc)] (slV (xs.map GStrict.enc)) := by
 have hl := len_szL GStrict.size xs
 obtain ⟨rows, hrows⟩ : ∃ rows, rows = xs.map GStrict.enc := ⟨_, rfl⟩
 have lr : rows.length = xs.length := by rw [hrows]; simp
 rw [← hrows]
 refine satF_of_code [slV rows] rfl (fun _ h => by cases h) tbOk mixed Tryz.func54 rfl rfl rfl (by decide +kernel) (by decide +kernel) (Nat.le_of_ble_eq_true rfl) ?_
 simp -implicitDefEqProofs (disch := omega) only [go_sem, lr]
 refine ⟨⟨by omega, by omega⟩, fun _ => ?_⟩
 obtain ⟨Z, hZ⟩ : ∃ Z, Z = List.replicate xs.length zStrict := ⟨_, rfl⟩
 obtain ⟨Fr, hFr⟩ : ∃ Fr, Fr = rows.map fun q => q.map dC := ⟨_, rfl⟩
 have lZ : Z.length = xs.length := by rw [hZ]; simp
 have lF : Fr.length = Z.length := by rw [hFr, lZ]; simp [lr]
 have iF : ∀ lb r, r ∈ Fr → ∀ a, a ∈ r → inC lb a := fun lb => by rw [hFr]; exact drows_in lb
 have iZ : ∀ lb r, r ∈ Z → ∀ a, a ∈ r → inC lb a := fun lb => by rw [hZ]; exact rep_in (by simp [zStrict, inC])
 rw [← hZ]
 refine loopA_rule (ι := Nat) (fun i => mk 23 [(0, slV rows), (3, .one (.own 7 xs.length)), (4, intV i)] [(7, .arr 159 2 (turnR Fr Z i) false)]) (fun i => i ≤ xs.length) (fun i => xs.length - i) 0 (Nat.zero_le _) ?_ tbOk mixed (by decide +kernel) ?_
 ·exact le_mk (by simp [go_sem]) (by simp only [leB, lookB_cons, if_true, inB, turnR_zero, true_and, and_true]; exact iZ _)
 ·intro i hi
  have hlen := turnR_len (i := i) lF (by omega)
  rcases Nat.lt_or_ge i xs.length with hlt | hge
  ·have hi' : i < Z.length := by omega
   have hg : rows.getD i [] = GStrict.enc xs[i] := by rw [hrows]; exact map_getD hlt
   have eZ : Z[i] = zStrict := by simp [hZ]
   have eF : Fr[i]'(by omega) = (GStrict.enc xs[i]).map dC := by simp [hFr, hrows]
   have hm := szL_mem GStrict.size xs _ (List.getElem_mem hlt)
   generalize xs[i] = x at hg eF hm
   have hto := toStrictF_sat x (by omega)
   obtain ⟨xop, xar⟩ := x
   have hfin := turnS_turnR lF hi'
   rw [eF] at hfin
   have sl := fun r => turnS_len lF hi' r
   have sg := fun r => turnS_get lF hi' r
   rw [turnR_eq lF hi' eZ]
   simp -implicitDefEqProofs (disch := omega) only [go_sem, hg, hlt, lr, lZ, sl, sg, turnS_set, GStrict.enc, Tm.enc, encB, encI, encL, encS, List.cons_append, List.nil_append, List.append_nil, List.forall_mem_cons, List.not_mem_nil]
   refine CallK.own hto rfl ?_
   simp -implicitDefEqProofs (disch := omega) only [go_sem, hg, hlt, lr, lZ, sl, sg, turnS_set, GStrict.enc, Tm.enc, encB, encI, encL, encS, List.cons_append, List.nil_append, List.append_nil, List.forall_mem_cons, List.not_mem_nil]
   refine ⟨i + 1, hlt, by omega, (le_mk (by simp [go_sem]) ?_)⟩
   simp only [leB, lookB_cons, if_true, inB, true_and, and_true]
   exact ⟨by rw [← hfin] <;> rfl, turnR_in (iF _) (iZ _)⟩
  ·have : i = xs.length := by omega
   subst this
   simp -implicitDefEqProofs (disch := omega) only [go_sem, hlen, lZ, lr, Nat.lt_irrefl]
   rw [turnR_end lF lZ.symm, hFr]
   exact ⟨drows_isO, drows_toC⟩
theorem markStrictS_nil (k : Int) : Sat Tryz.prog 66 [slV [], intV k] (intV k) := by
 refine sat_of_code tbOk mixed Tryz.func66 rfl rfl rfl (by decide +kernel) (by decide +kernel) (Nat.le_of_ble_eq_true rfl) ?_
 simp -implicitDefEqProofs (disch := omega) only [go_sem]
 refine loopA_rule (ι := Unit) (fun _ => mk 28 [(0, slV []), (1, intV k), (5, intV 0)] []) (fun _ => True) (fun _ => 0) () trivial ?_ tbOk mixed (by decide +kernel) ?_
 ·exact le_mk (by simp [go_sem]) (by simp [go_sem])
 ·intro _ _
  simp -implicitDefEqProofs (disch := omega) only [go_sem]
  intro h; omega
theorem markStrictS_sat (xs : List GStrict) (hw : wfL GStrict.wf xs) (k : Int) (h0 : 0 ≤ k) (h1 : (mkRows (xs.map GStrict.enc) k).2 ≤ 100000000) : SatM Tryz.prog 66 [.one (.m (.sl (xs.map GStrict.enc))), intV k] [.one (.m (.sl (mkRows (xs.map GStrict.enc) k).1)), intV k] (intV (mkRows (xs.map GStrict.enc) k).2) := by
 have hl := hw.1
 cases hx : xs with
 | nil => simpa [mkRows] using satM_nil (rest := [intV k]) rfl rfl (markStrictS_nil k)
 | cons x0 xs0 =>
  rw [← hx]
  simp only [maxLen] at hl
  obtain ⟨rows, hrows⟩ : ∃ rows, rows = xs.map GStrict.enc := ⟨_, rfl⟩
  have lr : rows.length = xs.length := by rw [hrows]; simp
  rw [← hrows] at h1 ⊢
  refine satM_slice 9001 2 tbOk mixed Tryz.func66 rfl rfl rfl (by decide +kernel) (by decide +kernel) (Nat.le_of_ble_eq_true rfl) rfl rfl (by rw [hrows, hx]; simp) (by rw [hrows]; simp [GStrict.enc_len]) (fun e => ?_)
  simp -implicitDefEqProofs (disch := omega) only [go_sem]
  obtain ⟨G, hG⟩ : ∃ G, G = rows.map fun q => q.map mC := ⟨_, rfl⟩
  obtain ⟨Fr, hFr⟩ : ∃ Fr, Fr = (mkRows rows k).1.map fun q => q.map mC := ⟨_, rfl⟩
  have lG : G.length = rows.length := by rw [hG]; simp
  have lF : Fr.length = G.length := by rw [hFr, lG]; simp [mkRows_len]
  have iF : ∀ lb r, r ∈ Fr → ∀ a, a ∈ r → inC lb a := fun lb => by rw [hFr]; exact mrows_in lb
  have iG : ∀ lb r, r ∈ G → ∀ a, a ∈ r → inC lb a := fun lb => by rw [hG]; exact mrows_in lb
  have nF : noD Fr = true := by rw [hFr]; exact mrows_noD
  have nG : noD G = true := by rw [hG]; exact mrows_noD
  rw [← hG]
  refine loopW_rule (ι := Nat) (fun i => mk 28 [(0, .one (.own 9001 rows.length)), (1, intV (kAt rows k i)), (5, intV i)] [(9001, .arr e 2 (turnR Fr G i) false)] [.one (.own 9001 rows.length)]) (fun i => i ≤ rows.length) (fun i => rows.length - i) 0 (Nat.zero_le _) ?_ tbOk mixed (by decide +kernel) ?_
  ·exact le_mk (by simp [go_sem, kAt_zero]) (by simp only [leB, lookB_cons, if_true, inB, turnR_zero, true_and, and_true]; exact iG _)
  ·intro i hi
   have hlen := turnR_len (i := i) lF (by omega)
   rcases Nat.lt_or_ge i rows.length with hlt | hge
   ·have hi' : i < G.length := by omega
    obtain ⟨hm, eM, eK⟩ := mkRows_at rows k i hlt
    have hb1 := kAt_cnt rows k i
    have hb2 := cntRows_get rows i hlt
    have hb3 := mkRows_cnt rows k
    have hb4 := mkCells_cnt rows[i] (kAt rows k i)
    have ex : rows[i] = GStrict.enc (xs[i]'(by omega)) := by simp [hrows]
    have hw' := hw.2 _ (List.getElem_mem (show i < xs.length by omega))
    generalize xs[i]'(by omega) = x at ex hw'
    obtain ⟨xop, xar⟩ := x
    simp only [GStrict.wf] at hw'
    rw [ex] at eM eK hb2 hb4
    simp only [GStrict.enc, Tm.enc, encB, encI, encL, encS, List.cons_append, List.nil_append, List.append_nil, mkCells, mkC] at eM eK hb2 hb4
    generalize hK : kAt rows k i = K at eM eK hb1 hb4
    have hKn : 0 ≤ K := by omega
    have eG : G[i] = [sC xop, iC xar] := by simp [hG, ex, GStrict.enc, Tm.enc, encB, encI, encL, encS, List.cons_append, List.nil_append, List.append_nil, mC]
    have eF : Fr[i]'(by omega) = [sC (mtext K), iC (K + 1)] := by simp [hFr, eM, mC]
    have hfin := turnS_turnR lF hi'
    rw [eF] at hfin
    have sl := fun r => turnS_len lF hi' r
    have sg := fun r => turnS_get lF hi' r
    rw [turnR_eq lF hi' eG]
    refine ⟨_, Wk.refl _, ?_⟩
    simp -implicitDefEqProofs (disch := omega) only [go_sem, sl, sg, turnS_set, lG, hlt, List.forall_mem_cons, List.not_mem_nil, Tm.args]
    refine CallK.bor (markText_sat K (by omega)) rfl ?_
    simp -implicitDefEqProofs (disch := omega) only [go_sem, sl, sg, turnS_set, lG, hlt, List.forall_mem_cons, List.not_mem_nil, Tm.args]
    refine ⟨i + 1, hlt, by omega, (le_mk (by simp [go_sem, eK]) ?_)⟩
    simp only [leB, lookB_cons, if_true, inB, true_and, and_true]
    exact ⟨by rw [← hfin] <;> rfl, turnR_in (iF _) (iG _)⟩
   ·have : i = rows.length := by omega
    subst this
    refine ⟨_, Wk.refl _, ?_⟩
    simp -implicitDefEqProofs (disch := omega) only [go_sem, hlen, lG, Nat.lt_irrefl, kAt_all]
    exact turnedRow_mk rfl (by rw [turnR_end lF lG.symm, hFr]) (by rw [mkRows_len]) rfl
theorem GSignature.csz (x : GSignature) : cszCells x.enc = x.size := by simp only [GSignature.enc, GSignature.size, cszCells_append, Nat.add_assoc, cszL_of GOp.csz, cszL_of cszE_S]
theorem GSignature.nar (x : GSignature) : narCells x.enc := (narCells_append _ _ (narL_of (fun y => ⟨by simp [encS], narE_S y⟩) x.so) (narL_of (fun y => ⟨by rw [GOp.enc_len]; omega, GOp.nar y⟩) x.op))
theorem toSignatureF_sat (x : GSignature) (hs : x.size < 1048577) : SatF Tryz.prog 52 [aggV x.enc] (aggV x.enc) := by
 obtain ⟨xso, xop⟩ := x
 simp only [GSignature.size, szI, szS] at hs
 refine satF_of_code [_] rfl (fun _ h => by cases h) tbOk mixed Tryz.func52 rfl rfl rfl (by decide +kernel) (by decide +kernel) (Nat.le_of_ble_eq_true rfl) ?_
 simp -implicitDefEqProofs (disch := omega) only [go_sem, GSignature.enc, Tm.enc, encB, encI, encL, encS, List.cons_append, List.nil_append, List.append_nil]
 refine CallK.own (toStringSF_sat xso (by omega)) rfl ?_
 simp -implicitDefEqProofs (disch := omega) only [go_sem, GSignature.enc, Tm.enc, encB, encI, encL, encS, List.cons_append, List.nil_append, List.append_nil]
 refine CallK.own (toOpSF_sat xop (by omega)) rfl ?_
 simp -implicitDefEqProofs (disch := omega) only [go_sem, GSignature.enc, Tm.enc, encB, encI, encL, encS, List.cons_append, List.nil_append, List.append_nil]
theorem markSignature_sat (xso : List ByteArray) (xop : List GOp) (hw : (⟨xso, xop⟩ : GSignature).wf) (k : Int) (h0 : 0 ≤ k) (h1 : (mkRows (xop.map GOp.enc) (mkRows (xso.map encS) k).2).2 ≤ 100000000) : SatM Tryz.prog 64 [.agg [.m (.sl (xso.map encS)), .m (.sl (xop.map GOp.enc))], intV k] [.agg [.m (.sl (mkRows (xso.map encS) k).1), .m (.sl (mkRows (xop.map GOp.enc) (mkRows (xso.map encS) k).2).1)], intV k] (intV (mkRows (xop.map GOp.enc) (mkRows (xso.map encS) k).2).2) := by
 simp only [GSignature.wf] at hw
 have hc0 := mkRows_cnt (xso.map encS) k
 have hc1 := mkRows_cnt (xop.map GOp.enc) (mkRows (xso.map encS) k).2
 refine satM_of_code 9000 tbOk mixed Tryz.func64 rfl rfl rfl (by decide +kernel) (by decide +kernel) (Nat.le_of_ble_eq_true rfl) rfl rfl rfl ?_
 simp -implicitDefEqProofs (disch := omega) only [go_sem]
 refine CallK.mut (markStringS_sat xso hw.1 k (by omega) (by omega)) ?_
 simp -implicitDefEqProofs (disch := omega) only [go_sem, Tm.args]
 refine CallK.mut (markOpS_sat xop hw.2 (mkRows (xso.map encS) k).2 (by omega) (by omega)) ?_
 simp -implicitDefEqProofs (disch := omega) only [go_sem, Tm.args]
theorem GDefinition.csz (x : GDefinition) : cszCells x.enc = x.size := by simp only [GDefinition.enc, GDefinition.size, cszCells_append, Nat.add_assoc, GSignature.csz, cszL_of GRule.csz, cszL_of GStrict.csz]
theorem GDefinition.nar (x : GDefinition) : narCells x.enc := (narCells_append _ _ (GSignature.nar x.si) (narCells_append _ _ (narL_of (fun y => ⟨by rw [GRule.enc_len]; omega, GRule.nar y⟩) x.ru) (narL_of (fun y => ⟨by rw [GStrict.enc_len]; omega, GStrict.nar y⟩) x.st)))
theorem toDefinitionF_sat (x : GDefinition) (hs : x.size < 1048577) : SatF Tryz.prog 12 [aggV x.enc] (aggV x.enc) := by
 obtain ⟨⟨xsiso, xsiop⟩, xru, xst⟩ := x
 simp only [GDefinition.size, szI, szS] at hs
 refine satF_of_code [_] rfl (fun _ h => by cases h) tbOk mixed Tryz.func12 rfl rfl rfl (by decide +kernel) (by decide +kernel) (Nat.le_of_ble_eq_true rfl) ?_
 simp -implicitDefEqProofs (disch := omega) only [go_sem, GDefinition.enc, GSignature.enc, List.append_nil, List.cons_append, List.nil_append, Tm.enc, encB, encI, encL, encS, List.cons_append, List.nil_append, List.append_nil]
 refine CallK.own (toSignatureF_sat ⟨xsiso, xsiop⟩ (by omega)) rfl ?_
 simp -implicitDefEqProofs (disch := omega) only [go_sem, GDefinition.enc, GSignature.enc, List.append_nil, List.cons_append, List.nil_append, Tm.enc, encB, encI, encL, encS, List.cons_append, List.nil_append, List.append_nil]
 refine CallK.own (toRuleSF_sat xru (by omega)) rfl ?_
 simp -implicitDefEqProofs (disch := omega) only [go_sem, GDefinition.enc, GSignature.enc, List.append_nil, List.cons_append, List.nil_append, Tm.enc, encB, encI, encL, encS, List.cons_append, List.nil_append, List.append_nil]
 refine CallK.own (toStrictSF_sat xst (by omega)) rfl ?_
 simp -implicitDefEqProofs (disch := omega) only [go_sem, GDefinition.enc, GSignature.enc, List.append_nil, List.cons_append, List.nil_append, Tm.enc, encB, encI, encL, encS, List.cons_append, List.nil_append, List.append_nil]
theorem markDefinition_sat (xsiso : List ByteArray) (xsiop : List GOp) (xru : List GRule) (xst : List GStrict) (hw : (⟨⟨xsiso, xsiop⟩, xru, xst⟩ : GDefinition).wf) (k : Int) (h0 : 0 ≤ k) (h1 : (mkRows (xst.map GStrict.enc) (mkRows (xru.map GRule.enc) (mkRows (xsiop.map GOp.enc) (mkRows (xsiso.map encS) k).2).2).2).2 ≤ 100000000) : SatM Tryz.prog 20 [.agg [.m (.sl (xsiso.map encS)), .m (.sl (xsiop.map GOp.enc)), .m (.sl (xru.map GRule.enc)), .m (.sl (xst.map GStrict.enc))], intV k] [.agg [.m (.sl (mkRows (xsiso.map encS) k).1), .m (.sl (mkRows (xsiop.map GOp.enc) (mkRows (xsiso.map encS) k).2).1), .m (.sl (mkRows (xru.map GRule.enc) (mkRows (xsiop.map GOp.enc) (mkRows (xsiso.map encS) k).2).2).1), .m (.sl (mkRows (xst.map GStrict.enc) (mkRows (xru.map GRule.enc) (mkRows (xsiop.map GOp.enc) (mkRows (xsiso.map encS) k).2).2).2).1)], intV k] (intV (mkRows (xst.map GStrict.enc) (mkRows (xru.map GRule.enc) (mkRows (xsiop.map GOp.enc) (mkRows (xsiso.map encS) k).2).2).2).2) := by
 simp only [GDefinition.wf, GSignature.wf] at hw
 have hc0 := mkRows_cnt (xsiso.map encS) k
 have hc1 := mkRows_cnt (xsiop.map GOp.enc) (mkRows (xsiso.map encS) k).2
 have hc2 := mkRows_cnt (xru.map GRule.enc) (mkRows (xsiop.map GOp.enc) (mkRows (xsiso.map encS) k).2).2
 have hc3 := mkRows_cnt (xst.map GStrict.enc) (mkRows (xru.map GRule.enc) (mkRows (xsiop.map GOp.enc) (mkRows (xsiso.map encS) k).2).2).2
 refine satM_of_code 9000 tbOk mixed Tryz.func20 rfl rfl rfl (by decide +kernel) (by decide +kernel) (Nat.le_of_ble_eq_true rfl) rfl rfl rfl ?_
 simp -implicitDefEqProofs (disch := omega) only [go_sem]
 refine CallK.mut (markSignature_sat xsiso xsiop hw.1 k (by omega) (by omega)) ?_
 simp -implicitDefEqProofs (disch := omega) only [go_sem, Tm.args]
 refine CallK.mut (markRuleS_sat xru hw.2.1 (mkRows (xsiop.map GOp.enc) (mkRows (xsiso.map encS) k).2).2 (by omega) (by omega)) ?_
 simp -implicitDefEqProofs (disch := omega) only [go_sem, Tm.args]
 refine CallK.mut (markStrictS_sat xst hw.2.2 (mkRows (xru.map GRule.enc) (mkRows (xsiop.map GOp.enc) (mkRows (xsiso.map encS) k).2).2).2 (by omega) (by omega)) ?_
 simp -implicitDefEqProofs (disch := omega) only [go_sem, Tm.args]
end Go.Ai
