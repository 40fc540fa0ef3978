/- Definitions: marks, owned copies. Written by mk7.py. -/
import Derived.Test.YtkcfegkfbijedaaGreatDoorAiD1
import Derived.Test.YtkcfegkfbijedaaGreatDoorAiM3
namespace Go.Ai
set_option linter.unusedVariables false
set_option linter.unusedSimpArgs false
open Go.Proofs Go.RowKit
set_option maxRecDepth 100000

theorem toIntSF_sat (xs : List Int) (hs : szL szI xs < 1048577) : SatF Tryz.prog 80 [slV (xs.map encI)] (slV (xs.map encI)) := by
  have hl := len_szL szI xs
  obtain ⟨rows, hrows⟩ : ∃ rows, rows = xs.map encI := ⟨_, rfl⟩
  have lr : rows.length = xs.length := by rw [hrows]; simp
  rw [← hrows]
  refine satF_of_code [slV rows] rfl (fun _ h => by cases h) tbOk mixed Tryz.func80 rfl rfl rfl (by decide +kernel) (by decide +kernel) (Nat.le_of_ble_eq_true rfl) ?_
  simp -implicitDefEqProofs (disch := omega) only [go_sem, lr]
  refine ⟨⟨by omega, by omega⟩, fun _ => ?_⟩
  obtain ⟨Z, hZ⟩ : ∃ Z, Z = List.replicate xs.length zInt := ⟨_, rfl⟩
  obtain ⟨Fr, hFr⟩ : ∃ Fr, Fr = rows.map fun q => q.map dC := ⟨_, rfl⟩
  have lZ : Z.length = xs.length := by rw [hZ]; simp
  have lF : Fr.length = Z.length := by rw [hFr, lZ]; simp [lr]
  have iF : ∀ lb r, r ∈ Fr → ∀ a, a ∈ r → inC lb a := fun lb => by rw [hFr]; exact drows_in lb
  have iZ : ∀ lb r, r ∈ Z → ∀ a, a ∈ r → inC lb a := fun lb => by rw [hZ]; exact rep_in (by simp [zInt, inC])
  rw [← hZ]
  refine loopA_rule (ι := Nat) (fun i => mk 22 [(0, slV rows), (3, .one (.own 7 xs.length)), (4, intV i)] [(7, .arr 3 1 (turnR Fr Z i) false)]) (fun i => i ≤ xs.length) (fun i => xs.length - i) 0 (Nat.zero_le _) ?_ tbOk mixed (by decide +kernel) ?_
  · exact le_mk (by simp [go_sem]) (by simp only [leB, lookB_cons, if_true, inB, turnR_zero, true_and, and_true]; exact iZ _)
  · intro i hi
    have hlen := turnR_len (i := i) lF (by omega)
    rcases Nat.lt_or_ge i xs.length with hlt | hge
    · have hi' : i < Z.length := by omega
      have hg : rows.getD i [] = encI xs[i] := by rw [hrows]; exact map_getD hlt
      have eZ : Z[i] = zInt := by simp [hZ]
      have eF : Fr[i]'(by omega) = (encI xs[i]).map dC := by simp [hFr, hrows]
      have hm := szL_mem szI xs _ (List.getElem_mem hlt)
      generalize xs[i] = x at hg eF hm
      have hfin := turnS_turnR lF hi'
      rw [eF] at hfin
      have sl := fun r => turnS_len lF hi' r
      have sg := fun r => turnS_get lF hi' r
      rw [turnR_eq lF hi' eZ]
      simp -implicitDefEqProofs (disch := omega) only [go_sem, hg, hlt, lr, lZ, sl, sg, turnS_set, encI, List.forall_mem_cons, List.not_mem_nil]
      refine ⟨i + 1, hlt, by omega, (le_mk (by simp [go_sem]) ?_)⟩
      simp only [leB, lookB_cons, if_true, inB, true_and, and_true]
      exact ⟨by rw [← hfin] <;> rfl, turnR_in (iF _) (iZ _)⟩
    · have : i = xs.length := by omega
      subst this
      simp -implicitDefEqProofs (disch := omega) only [go_sem, hlen, lZ, lr, Nat.lt_irrefl]
      rw [turnR_end lF lZ.symm, hFr]
      exact ⟨drows_isO, drows_toC⟩

theorem toStringSF_sat (xs : List ByteArray) (hs : szL szS xs < 1048577) : SatF Tryz.prog 46 [slV (xs.map encS)] (slV (xs.map encS)) := by
  have hl := len_szL szS xs
  obtain ⟨rows, hrows⟩ : ∃ rows, rows = xs.map encS := ⟨_, rfl⟩
  have lr : rows.length = xs.length := by rw [hrows]; simp
  rw [← hrows]
  refine satF_of_code [slV rows] rfl (fun _ h => by cases h) tbOk mixed Tryz.func46 rfl rfl rfl (by decide +kernel) (by decide +kernel) (Nat.le_of_ble_eq_true rfl) ?_
  simp -implicitDefEqProofs (disch := omega) only [go_sem, lr]
  refine ⟨⟨by omega, by omega⟩, fun _ => ?_⟩
  obtain ⟨Z, hZ⟩ : ∃ Z, Z = List.replicate xs.length zString := ⟨_, rfl⟩
  obtain ⟨Fr, hFr⟩ : ∃ Fr, Fr = rows.map fun q => q.map dC := ⟨_, rfl⟩
  have lZ : Z.length = xs.length := by rw [hZ]; simp
  have lF : Fr.length = Z.length := by rw [hFr, lZ]; simp [lr]
  have iF : ∀ lb r, r ∈ Fr → ∀ a, a ∈ r → inC lb a := fun lb => by rw [hFr]; exact drows_in lb
  have iZ : ∀ lb r, r ∈ Z → ∀ a, a ∈ r → inC lb a := fun lb => by rw [hZ]; exact rep_in (by simp [zString, inC])
  rw [← hZ]
  refine loopA_rule (ι := Nat) (fun i => mk 22 [(0, slV rows), (3, .one (.own 7 xs.length)), (4, intV i)] [(7, .arr 9 1 (turnR Fr Z i) false)]) (fun i => i ≤ xs.length) (fun i => xs.length - i) 0 (Nat.zero_le _) ?_ tbOk mixed (by decide +kernel) ?_
  · exact le_mk (by simp [go_sem]) (by simp only [leB, lookB_cons, if_true, inB, turnR_zero, true_and, and_true]; exact iZ _)
  · intro i hi
    have hlen := turnR_len (i := i) lF (by omega)
    rcases Nat.lt_or_ge i xs.length with hlt | hge
    · have hi' : i < Z.length := by omega
      have hg : rows.getD i [] = encS xs[i] := by rw [hrows]; exact map_getD hlt
      have eZ : Z[i] = zString := by simp [hZ]
      have eF : Fr[i]'(by omega) = (encS xs[i]).map dC := by simp [hFr, hrows]
      have hm := szL_mem szS xs _ (List.getElem_mem hlt)
      generalize xs[i] = x at hg eF hm
      have hfin := turnS_turnR lF hi'
      rw [eF] at hfin
      have sl := fun r => turnS_len lF hi' r
      have sg := fun r => turnS_get lF hi' r
      rw [turnR_eq lF hi' eZ]
      simp -implicitDefEqProofs (disch := omega) only [go_sem, hg, hlt, lr, lZ, sl, sg, turnS_set, encS, List.forall_mem_cons, List.not_mem_nil]
      refine ⟨i + 1, hlt, by omega, (le_mk (by simp [go_sem]) ?_)⟩
      simp only [leB, lookB_cons, if_true, inB, true_and, and_true]
      exact ⟨by rw [← hfin] <;> rfl, turnR_in (iF _) (iZ _)⟩
    · have : i = xs.length := by omega
      subst this
      simp -implicitDefEqProofs (disch := omega) only [go_sem, hlen, lZ, lr, Nat.lt_irrefl]
      rw [turnR_end lF lZ.symm, hFr]
      exact ⟨drows_isO, drows_toC⟩

theorem GGuard.csz (x : GGuard) : cszCells x.enc = x.size := by simp only [GGuard.enc, GGuard.size, cszCells_append, Nat.add_assoc, Tm.csz, cszE_I]
theorem GGuard.nar (x : GGuard) : narCells x.enc := (narCells_append _ _ (narE_I x.kd) (narCells_append _ _ (Tm.nar x.le) (Tm.nar x.ri)))

theorem toGuardF_sat (x : GGuard) (hs : x.size < 1048577) : SatF Tryz.prog 110 [aggV x.enc] (aggV x.enc) := by
  obtain ⟨xkd, ⟨xlek, xlen, xles, xlet⟩, ⟨xrik, xrin, xris, xrit⟩⟩ := x
  simp only [GGuard.size, szI, szS] at hs
  refine satF_of_code [_] rfl (fun _ h => by cases h) tbOk mixed Tryz.func110 rfl rfl rfl (by decide +kernel) (by decide +kernel) (Nat.le_of_ble_eq_true rfl) ?_
  simp -implicitDefEqProofs (disch := omega) only [go_sem, GGuard.enc, Tm.enc, encB, encI, encL, encS, List.cons_append, List.nil_append, List.append_nil]
  refine CallK.own (toTermF_sat (.mk xlek xlen xles xlet) (by omega)) rfl ?_
  simp -implicitDefEqProofs (disch := omega) only [go_sem, GGuard.enc, Tm.enc, encB, encI, encL, encS, List.cons_append, List.nil_append, List.append_nil]
  refine CallK.own (toTermF_sat (.mk xrik xrin xris xrit) (by omega)) rfl ?_
  simp -implicitDefEqProofs (disch := omega) only [go_sem, GGuard.enc, Tm.enc, encB, encI, encL, encS, List.cons_append, List.nil_append, List.append_nil]

theorem toGuardSF_sat (xs : List GGuard) (hs : szL GGuard.size xs < 1048577) : SatF Tryz.prog 79 [slV (xs.map GGuard.enc)] (slV (xs.map GGuard.enc)) := by
  have hl := len_szL GGuard.size xs
  obtain ⟨rows, hrows⟩ : ∃ rows, rows = xs.map GGuard.enc := ⟨_, rfl⟩
  have lr : rows.length = xs.length := by rw [hrows]; simp
  rw [← hrows]
  refine satF_of_code [slV rows] rfl (fun _ h => by cases h) tbOk mixed Tryz.func79 rfl rfl rfl (by decide +kernel) (by decide +kernel) (Nat.le_of_ble_eq_true rfl) ?_
  simp -implicitDefEqProofs (disch := omega) only [go_sem, lr]
  refine ⟨⟨by omega, by omega⟩, fun _ => ?_⟩
  obtain ⟨Z, hZ⟩ : ∃ Z, Z = List.replicate xs.length zGuard := ⟨_, rfl⟩
  obtain ⟨Fr, hFr⟩ : ∃ Fr, Fr = rows.map fun q => q.map dC := ⟨_, rfl⟩
  have lZ : Z.length = xs.length := by rw [hZ]; simp
  have lF : Fr.length = Z.length := by rw [hFr, lZ]; simp [lr]
  have iF : ∀ lb r, r ∈ Fr → ∀ a, a ∈ r → inC lb a := fun lb => by rw [hFr]; exact drows_in lb
  have iZ : ∀ lb r, r ∈ Z → ∀ a, a ∈ r → inC lb a := fun lb => by rw [hZ]; exact rep_in (by simp [zGuard, inC])
  rw [← hZ]
  refine loopA_rule (ι := Nat) (fun i => mk 23 [(0, slV rows), (3, .one (.own 7 xs.length)), (4, intV i)] [(7, .arr 130 9 (turnR Fr Z i) false)]) (fun i => i ≤ xs.length) (fun i => xs.length - i) 0 (Nat.zero_le _) ?_ tbOk mixed (by decide +kernel) ?_
  · exact le_mk (by simp [go_sem]) (by simp only [leB, lookB_cons, if_true, inB, turnR_zero, true_and, and_true]; exact iZ _)
  · intro i hi
    have hlen := turnR_len (i := i) lF (by omega)
    rcases Nat.lt_or_ge i xs.length with hlt | hge
    · have hi' : i < Z.length := by omega
      have hg : rows.getD i [] = GGuard.enc xs[i] := by rw [hrows]; exact map_getD hlt
      have eZ : Z[i] = zGuard := by simp [hZ]
      have eF : Fr[i]'(by omega) = (GGuard.enc xs[i]).map dC := by simp [hFr, hrows]
      have hm := szL_mem GGuard.size xs _ (List.getElem_mem hlt)
      generalize xs[i] = x at hg eF hm
      have hto := toGuardF_sat x (by omega)
      obtain ⟨xkd, ⟨xlek, xlen, xles, xlet⟩, ⟨xrik, xrin, xris, xrit⟩⟩ := x
      have hfin := turnS_turnR lF hi'
      rw [eF] at hfin
      have sl := fun r => turnS_len lF hi' r
      have sg := fun r => turnS_get lF hi' r
      rw [turnR_eq lF hi' eZ]
      simp -implicitDefEqProofs (disch := omega) only [go_sem, hg, hlt, lr, lZ, sl, sg, turnS_set, GGuard.enc, Tm.enc, encB, encI, encL, encS, List.cons_append, List.nil_append, List.append_nil, List.forall_mem_cons, List.not_mem_nil]
      refine CallK.own hto rfl ?_
      simp -implicitDefEqProofs (disch := omega) only [go_sem, hg, hlt, lr, lZ, sl, sg, turnS_set, GGuard.enc, Tm.enc, encB, encI, encL, encS, List.cons_append, List.nil_append, List.append_nil, List.forall_mem_cons, List.not_mem_nil]
      refine ⟨i + 1, hlt, by omega, ((wk_moveS (l := 7) (c := 4) lF hi' rfl rfl rfl rfl).trans ((wk_moveS (l := 7) (c := 8) lF hi' rfl rfl rfl rfl).trans (le_mk (by simp [go_sem]) ?_)))⟩
      simp only [leB, lookB_cons, if_true, inB, true_and, and_true]
      exact ⟨by rw [← hfin] <;> rfl, turnR_in (iF _) (iZ _)⟩
    · have : i = xs.length := by omega
      subst this
      simp -implicitDefEqProofs (disch := omega) only [go_sem, hlen, lZ, lr, Nat.lt_irrefl]
      rw [turnR_end lF lZ.symm, hFr]
      exact ⟨drows_isO, drows_toC⟩

theorem GRule.csz (x : GRule) : cszCells x.enc = x.size := by simp only [GRule.enc, GRule.size, cszCells_append, Nat.add_assoc, Tm.csz, cszE_S, cszL_of GGuard.csz]
theorem GRule.nar (x : GRule) : narCells x.enc := (narCells_append _ _ (narE_S x.na) (narCells_append _ _ (Tm.nar x.le) (narCells_append _ _ (Tm.nar x.ri) (narL_of (fun y => ⟨by rw [GGuard.enc_len]; omega, GGuard.nar y⟩) x.gu))))

theorem toRuleF_sat (x : GRule) (hs : x.size < 1048577) : SatF Tryz.prog 48 [aggV x.enc] (aggV x.enc) := by
  obtain ⟨xna, ⟨xlek, xlen, xles, xlet⟩, ⟨xrik, xrin, xris, xrit⟩, xgu⟩ := x
  simp only [GRule.size, szI, szS] at hs
  refine satF_of_code [_] rfl (fun _ h => by cases h) tbOk mixed Tryz.func48 rfl rfl rfl (by decide +kernel) (by decide +kernel) (Nat.le_of_ble_eq_true rfl) ?_
  simp -implicitDefEqProofs (disch := omega) only [go_sem, GRule.enc, Tm.enc, encB, encI, encL, encS, List.cons_append, List.nil_append, List.append_nil]
  refine CallK.own (toTermF_sat (.mk xlek xlen xles xlet) (by omega)) rfl ?_
  simp -implicitDefEqProofs (disch := omega) only [go_sem, GRule.enc, Tm.enc, encB, encI, encL, encS, List.cons_append, List.nil_append, List.append_nil]
  refine CallK.own (toTermF_sat (.mk xrik xrin xris xrit) (by omega)) rfl ?_
  simp -implicitDefEqProofs (disch := omega) only [go_sem, GRule.enc, Tm.enc, encB, encI, encL, encS, List.cons_append, List.nil_append, List.append_nil]
  refine CallK.own (toGuardSF_sat xgu (by omega)) rfl ?_
  simp -implicitDefEqProofs (disch := omega) only [go_sem, GRule.enc, Tm.enc, encB, encI, encL, encS, List.cons_append, List.nil_append, List.append_nil]

theorem toRuleSF_sat (xs : List GRule) (hs : szL GRule.size xs < 1048577) : SatF Tryz.prog 23 [slV (xs.map GRule.enc)] (slV (xs.map GRule.enc)) := by
  have hl := len_szL GRule.size xs
  obtain ⟨rows, hrows⟩ : ∃ rows, rows = xs.map GRule.enc := ⟨_, rfl⟩
  have lr : rows.length = xs.length := by rw [hrows]; simp
  rw [← hrows]
  refine satF_of_code [slV rows] rfl (fun _ h => by cases h) tbOk mixed Tryz.func23 rfl rfl rfl (by decide +kernel) (by decide +kernel) (Nat.le_of_ble_eq_true rfl) ?_
  simp -implicitDefEqProofs (disch := omega) only [go_sem, lr]
  refine ⟨⟨by omega, by omega⟩, fun _ => ?_⟩
  obtain ⟨Z, hZ⟩ : ∃ Z, Z = List.replicate xs.length zRule := ⟨_, rfl⟩
  obtain ⟨Fr, hFr⟩ : ∃ Fr, Fr = rows.map fun q => q.map dC := ⟨_, rfl⟩
  have lZ : Z.length = xs.length := by rw [hZ]; simp
  have lF : Fr.length = Z.length := by rw [hFr, lZ]; simp [lr]
  have iF : ∀ lb r, r ∈ Fr → ∀ a, a ∈ r → inC lb a := fun lb => by rw [hFr]; exact drows_in lb
  have iZ : ∀ lb r, r ∈ Z → ∀ a, a ∈ r → inC lb a := fun lb => by rw [hZ]; exact rep_in (by simp [zRule, inC])
  rw [← hZ]
  refine loopA_rule (ι := Nat) (fun i => mk 23 [(0, slV rows), (3, .one (.own 7 xs.length)), (4, intV i)] [(7, .arr 101 10 (turnR Fr Z i) false)]) (fun i => i ≤ xs.length) (fun i => xs.length - i) 0 (Nat.zero_le _) ?_ tbOk mixed (by decide +kernel) ?_
  · exact le_mk (by simp [go_sem]) (by simp only [leB, lookB_cons, if_true, inB, turnR_zero, true_and, and_true]; exact iZ _)
  · intro i hi
    have hlen := turnR_len (i := i) lF (by omega)
    rcases Nat.lt_or_ge i xs.length with hlt | hge
    · have hi' : i < Z.length := by omega
      have hg : rows.getD i [] = GRule.enc xs[i] := by rw [hrows]; exact map_getD hlt
      have eZ : Z[i] = zRule := by simp [hZ]
      have eF : Fr[i]'(by omega) = (GRule.enc xs[i]).map dC := by simp [hFr, hrows]
      have hm := szL_mem GRule.size xs _ (List.getElem_mem hlt)
      generalize xs[i] = x at hg eF hm
      have hto := toRuleF_sat x (by omega)
      obtain ⟨xna, ⟨xlek, xlen, xles, xlet⟩, ⟨xrik, xrin, xris, xrit⟩, xgu⟩ := x
      have hfin := turnS_turnR lF hi'
      rw [eF] at hfin
      have sl := fun r => turnS_len lF hi' r
      have sg := fun r => turnS_get lF hi' r
      rw [turnR_eq lF hi' eZ]
      simp -implicitDefEqProofs (disch := omega) only [go_sem, hg, hlt, lr, lZ, sl, sg, turnS_set, GRule.enc, Tm.enc, encB, encI, encL, encS, List.cons_append, List.nil_append, List.append_nil, List.forall_mem_cons, List.not_mem_nil]
      refine CallK.own hto rfl ?_
      simp -implicitDefEqProofs (disch := omega) only [go_sem, hg, hlt, lr, lZ, sl, sg, turnS_set, GRule.enc, Tm.enc, encB, encI, encL, encS, List.cons_append, List.nil_append, List.append_nil, List.forall_mem_cons, List.not_mem_nil]
      refine ⟨i + 1, hlt, by omega, ((wk_moveS (l := 7) (c := 4) lF hi' rfl rfl rfl rfl).trans ((wk_moveS (l := 7) (c := 8) lF hi' rfl rfl rfl rfl).trans ((wk_moveS (l := 7) (c := 9) lF hi' rfl rfl rfl rfl).trans (le_mk (by simp [go_sem]) ?_))))⟩
      simp only [leB, lookB_cons, if_true, inB, true_and, and_true]
      exact ⟨by rw [← hfin] <;> rfl, turnR_in (iF _) (iZ _)⟩
    · have : i = xs.length := by omega
      subst this
      simp -implicitDefEqProofs (disch := omega) only [go_sem, hlen, lZ, lr, Nat.lt_irrefl]
      rw [turnR_end lF lZ.symm, hFr]
      exact ⟨drows_isO, drows_toC⟩

theorem GOp.csz (x : GOp) : cszCells x.enc = x.size := by simp only [GOp.enc, GOp.size, cszCells_append, Nat.add_assoc, cszE_S, cszL_of cszE_S]
theorem GOp.nar (x : GOp) : narCells x.enc := (narCells_append _ _ (narE_S x.na) (narCells_append _ _ (narL_of (fun y => ⟨by simp [encS], narE_S y⟩) x.ar) (narE_S x.re)))

theorem toOpF_sat (x : GOp) (hs : x.size < 1048577) : SatF Tryz.prog 78 [aggV x.enc] (aggV x.enc) := by
  obtain ⟨xna, xar, xre⟩ := x
  simp only [GOp.size, szI, szS] at hs
  refine satF_of_code [_] rfl (fun _ h => by cases h) tbOk mixed Tryz.func78 rfl rfl rfl (by decide +kernel) (by decide +kernel) (Nat.le_of_ble_eq_true rfl) ?_
  simp -implicitDefEqProofs (disch := omega) only [go_sem, GOp.enc, Tm.enc, encB, encI, encL, encS, List.cons_append, List.nil_append, List.append_nil]
  refine CallK.own (toStringSF_sat xar (by omega)) rfl ?_
  simp -implicitDefEqProofs (disch := omega) only [go_sem, GOp.enc, Tm.enc, encB, encI, encL, encS, List.cons_append, List.nil_append, List.append_nil]

theorem toOpSF_sat (xs : List GOp) (hs : szL GOp.size xs < 1048577) : SatF Tryz.prog 47 [slV (xs.map GOp.enc)] (slV (xs.map GOp.enc)) := by
  have hl := len_szL GOp.size xs
  obtain ⟨rows, hrows⟩ : ∃ rows, rows = xs.map GOp.enc := ⟨_, rfl⟩
  have lr : rows.length = xs.length := by rw [hrows]; simp
  rw [← hrows]
  refine satF_of_code [slV rows] rfl (fun _ h => by cases h) tbOk mixed Tryz.func47 rfl rfl rfl (by decide +kernel) (by decide +kernel) (Nat.le_of_ble_eq_true rfl) ?_
  simp -implicitDefEqProofs (disch := omega) only [go_sem, lr]
  refine ⟨⟨by omega, by omega⟩, fun _ => ?_⟩
  obtain ⟨Z, hZ⟩ : ∃ Z, Z = List.replicate xs.length zOp := ⟨_, rfl⟩
  obtain ⟨Fr, hFr⟩ : ∃ Fr, Fr = rows.map fun q => q.map dC := ⟨_, rfl⟩
  have lZ : Z.length = xs.length := by rw [hZ]; simp
  have lF : Fr.length = Z.length := by rw [hFr, lZ]; simp [lr]
  have iF : ∀ lb r, r ∈ Fr → ∀ a, a ∈ r → inC lb a := fun lb => by rw [hFr]; exact drows_in lb
  have iZ : ∀ lb r, r ∈ Z → ∀ a, a ∈ r → inC lb a := fun lb => by rw [hZ]; exact rep_in (by simp [zOp, inC])
  rw [← hZ]
  refine loopA_rule (ι := Nat) (fun i => mk 23 [(0, slV rows), (3, .one (.own 7 xs.length)), (4, intV i)] [(7, .arr 136 3 (turnR Fr Z i) false)]) (fun i => i ≤ xs.length) (fun i => xs.length - i) 0 (Nat.zero_le _) ?_ tbOk mixed (by decide +kernel) ?_
  · exact le_mk (by simp [go_sem]) (by simp only [leB, lookB_cons, if_true, inB, turnR_zero, true_and, and_true]; exact iZ _)
  · intro i hi
    have hlen := turnR_len (i := i) lF (by omega)
    rcases Nat.lt_or_ge i xs.length with hlt | hge
    · have hi' : i < Z.length := by omega
      have hg : rows.getD i [] = GOp.enc xs[i] := by rw [hrows]; exact map_getD hlt
      have eZ : Z[i] = zOp := by simp [hZ]
      have eF : Fr[i]'(by omega) = (GOp.enc xs[i]).map dC := by simp [hFr, hrows]
      have hm := szL_mem GOp.size xs _ (List.getElem_mem hlt)
      generalize xs[i] = x at hg eF hm
      have hto := toOpF_sat x (by omega)
      obtain ⟨xna, xar, xre⟩ := x
      have hfin := turnS_turnR lF hi'
      rw [eF] at hfin
      have sl := fun r => turnS_len lF hi' r
      have sg := fun r => turnS_get lF hi' r
      rw [turnR_eq lF hi' eZ]
      simp -implicitDefEqProofs (disch := omega) only [go_sem, hg, hlt, lr, lZ, sl, sg, turnS_set, GOp.enc, Tm.enc, encB, encI, encL, encS, List.cons_append, List.nil_append, List.append_nil, List.forall_mem_cons, List.not_mem_nil]
      refine CallK.own hto rfl ?_
      simp -implicitDefEqProofs (disch := omega) only [go_sem, hg, hlt, lr, lZ, sl, sg, turnS_set, GOp.enc, Tm.enc, encB, encI, encL, encS, List.cons_append, List.nil_append, List.append_nil, List.forall_mem_cons, List.not_mem_nil]
      refine ⟨i + 1, hlt, by omega, ((wk_moveS (l := 7) (c := 1) lF hi' rfl rfl rfl rfl).trans (le_mk (by simp [go_sem]) ?_))⟩
      simp only [leB, lookB_cons, if_true, inB, true_and, and_true]
      exact ⟨by rw [← hfin] <;> rfl, turnR_in (iF _) (iZ _)⟩
    · have : i = xs.length := by omega
      subst this
      simp -implicitDefEqProofs (disch := omega) only [go_sem, hlen, lZ, lr, Nat.lt_irrefl]
      rw [turnR_end lF lZ.symm, hFr]
      exact ⟨drows_isO, drows_toC⟩

theorem GStrict.csz (x : GStrict) : cszCells x.enc = x.size := by simp only [GStrict.enc, GStrict.size, cszCells_append, Nat.add_assoc, cszE_I, cszE_S]
theorem GStrict.nar (x : GStrict) : narCells x.enc := (narCells_append _ _ (narE_S x.op) (narE_I x.ar))

theorem toStrictF_sat (x : GStrict) (hs : x.size < 1048577) : SatF Tryz.prog 49 [aggV x.enc] (aggV x.enc) := by
  obtain ⟨xop, xar⟩ := x
  simp only [GStrict.size, szI, szS] at hs
  refine satF_of_code [_] rfl (fun _ h => by cases h) tbOk mixed Tryz.func49 rfl rfl rfl (by decide +kernel) (by decide +kernel) (Nat.le_of_ble_eq_true rfl) ?_
  simp -implicitDefEqProofs (disch := omega) only [go_sem, GStrict.enc, Tm.enc, encB, encI, encL, encS, List.cons_append, List.nil_append, List.append_nil]

theorem toStrictSF_sat (xs : List GStrict) (hs : szL GStrict.size xs < 1048577) : SatF Tryz.prog 24 [slV (xs.map GStrict.enc)] (slV (xs.map GStrict.enc)) := by
  have hl := len_szL GStrict.size xs
  obtain ⟨rows, hrows⟩ : ∃ rows, rows = xs.map GStrict.enc := ⟨_, rfl⟩
  have lr : rows.length = xs.length := by rw [hrows]; simp
  rw [← hrows]
  refine satF_of_code [slV rows] rfl (fun _ h => by cases h) tbOk mixed Tryz.func24 rfl rfl rfl (by decide +kernel) (by decide +kernel) (Nat.le_of_ble_eq_true rfl) ?_
  simp -implicitDefEqProofs (disch := omega) only [go_sem, lr]
  refine ⟨⟨by omega, by omega⟩, fun _ => ?_⟩
  obtain ⟨Z, hZ⟩ : ∃ Z, Z = List.replicate xs.length zStrict := ⟨_, rfl⟩
  obtain ⟨Fr, hFr⟩ : ∃ Fr, Fr = rows.map fun q => q.map dC := ⟨_, rfl⟩
  have lZ : Z.length = xs.length := by rw [hZ]; simp
  have lF : Fr.length = Z.length := by rw [hFr, lZ]; simp [lr]
  have iF : ∀ lb r, r ∈ Fr → ∀ a, a ∈ r → inC lb a := fun lb => by rw [hFr]; exact drows_in lb
  have iZ : ∀ lb r, r ∈ Z → ∀ a, a ∈ r → inC lb a := fun lb => by rw [hZ]; exact rep_in (by simp [zStrict, inC])
  rw [← hZ]
  refine loopA_rule (ι := Nat) (fun i => mk 23 [(0, slV rows), (3, .one (.own 7 xs.length)), (4, intV i)] [(7, .arr 107 2 (turnR Fr Z i) false)]) (fun i => i ≤ xs.length) (fun i => xs.length - i) 0 (Nat.zero_le _) ?_ tbOk mixed (by decide +kernel) ?_
  · exact le_mk (by simp [go_sem]) (by simp only [leB, lookB_cons, if_true, inB, turnR_zero, true_and, and_true]; exact iZ _)
  · intro i hi
    have hlen := turnR_len (i := i) lF (by omega)
    rcases Nat.lt_or_ge i xs.length with hlt | hge
    · have hi' : i < Z.length := by omega
      have hg : rows.getD i [] = GStrict.enc xs[i] := by rw [hrows]; exact map_getD hlt
      have eZ : Z[i] = zStrict := by simp [hZ]
      have eF : Fr[i]'(by omega) = (GStrict.enc xs[i]).map dC := by simp [hFr, hrows]
      have hm := szL_mem GStrict.size xs _ (List.getElem_mem hlt)
      generalize xs[i] = x at hg eF hm
      have hto := toStrictF_sat x (by omega)
      obtain ⟨xop, xar⟩ := x
      have hfin := turnS_turnR lF hi'
      rw [eF] at hfin
      have sl := fun r => turnS_len lF hi' r
      have sg := fun r => turnS_get lF hi' r
      rw [turnR_eq lF hi' eZ]
      simp -implicitDefEqProofs (disch := omega) only [go_sem, hg, hlt, lr, lZ, sl, sg, turnS_set, GStrict.enc, Tm.enc, encB, encI, encL, encS, List.cons_append, List.nil_append, List.append_nil, List.forall_mem_cons, List.not_mem_nil]
      refine CallK.own hto rfl ?_
      simp -implicitDefEqProofs (disch := omega) only [go_sem, hg, hlt, lr, lZ, sl, sg, turnS_set, GStrict.enc, Tm.enc, encB, encI, encL, encS, List.cons_append, List.nil_append, List.append_nil, List.forall_mem_cons, List.not_mem_nil]
      refine ⟨i + 1, hlt, by omega, (le_mk (by simp [go_sem]) ?_)⟩
      simp only [leB, lookB_cons, if_true, inB, true_and, and_true]
      exact ⟨by rw [← hfin] <;> rfl, turnR_in (iF _) (iZ _)⟩
    · have : i = xs.length := by omega
      subst this
      simp -implicitDefEqProofs (disch := omega) only [go_sem, hlen, lZ, lr, Nat.lt_irrefl]
      rw [turnR_end lF lZ.symm, hFr]
      exact ⟨drows_isO, drows_toC⟩

theorem GSignature.csz (x : GSignature) : cszCells x.enc = x.size := by simp only [GSignature.enc, GSignature.size, cszCells_append, Nat.add_assoc, cszL_of GOp.csz, cszL_of cszE_S]
theorem GSignature.nar (x : GSignature) : narCells x.enc := (narCells_append _ _ (narL_of (fun y => ⟨by simp [encS], narE_S y⟩) x.so) (narL_of (fun y => ⟨by rw [GOp.enc_len]; omega, GOp.nar y⟩) x.op))

theorem toSignatureF_sat (x : GSignature) (hs : x.size < 1048577) : SatF Tryz.prog 22 [aggV x.enc] (aggV x.enc) := by
  obtain ⟨xso, xop⟩ := x
  simp only [GSignature.size, szI, szS] at hs
  refine satF_of_code [_] rfl (fun _ h => by cases h) tbOk mixed Tryz.func22 rfl rfl rfl (by decide +kernel) (by decide +kernel) (Nat.le_of_ble_eq_true rfl) ?_
  simp -implicitDefEqProofs (disch := omega) only [go_sem, GSignature.enc, Tm.enc, encB, encI, encL, encS, List.cons_append, List.nil_append, List.append_nil]
  refine CallK.own (toStringSF_sat xso (by omega)) rfl ?_
  simp -implicitDefEqProofs (disch := omega) only [go_sem, GSignature.enc, Tm.enc, encB, encI, encL, encS, List.cons_append, List.nil_append, List.append_nil]
  refine CallK.own (toOpSF_sat xop (by omega)) rfl ?_
  simp -implicitDefEqProofs (disch := omega) only [go_sem, GSignature.enc, Tm.enc, encB, encI, encL, encS, List.cons_append, List.nil_append, List.append_nil]

theorem GDefinition.csz (x : GDefinition) : cszCells x.enc = x.size := by simp only [GDefinition.enc, GDefinition.size, cszCells_append, Nat.add_assoc, GSignature.csz, cszL_of GRule.csz, cszL_of GStrict.csz]
theorem GDefinition.nar (x : GDefinition) : narCells x.enc := (narCells_append _ _ (GSignature.nar x.si) (narCells_append _ _ (narL_of (fun y => ⟨by rw [GRule.enc_len]; omega, GRule.nar y⟩) x.ru) (narL_of (fun y => ⟨by rw [GStrict.enc_len]; omega, GStrict.nar y⟩) x.st)))

theorem toDefinitionF_sat (x : GDefinition) (hs : x.size < 1048577) : SatF Tryz.prog 8 [aggV x.enc] (aggV x.enc) := by
  obtain ⟨⟨xsiso, xsiop⟩, xru, xst⟩ := x
  simp only [GDefinition.size, szI, szS] at hs
  refine satF_of_code [_] rfl (fun _ h => by cases h) tbOk mixed Tryz.func8 rfl rfl rfl (by decide +kernel) (by decide +kernel) (Nat.le_of_ble_eq_true rfl) ?_
  simp -implicitDefEqProofs (disch := omega) only [go_sem, GDefinition.enc, GSignature.enc, List.append_nil, List.cons_append, List.nil_append, Tm.enc, encB, encI, encL, encS, List.cons_append, List.nil_append, List.append_nil]
  refine CallK.own (toSignatureF_sat ⟨xsiso, xsiop⟩ (by omega)) rfl ?_
  simp -implicitDefEqProofs (disch := omega) only [go_sem, GDefinition.enc, GSignature.enc, List.append_nil, List.cons_append, List.nil_append, Tm.enc, encB, encI, encL, encS, List.cons_append, List.nil_append, List.append_nil]
  refine CallK.own (toRuleSF_sat xru (by omega)) rfl ?_
  simp -implicitDefEqProofs (disch := omega) only [go_sem, GDefinition.enc, GSignature.enc, List.append_nil, List.cons_append, List.nil_append, Tm.enc, encB, encI, encL, encS, List.cons_append, List.nil_append, List.append_nil]
  refine CallK.own (toStrictSF_sat xst (by omega)) rfl ?_
  simp -implicitDefEqProofs (disch := omega) only [go_sem, GDefinition.enc, GSignature.enc, List.append_nil, List.cons_append, List.nil_append, Tm.enc, encB, encI, encL, encS, List.cons_append, List.nil_append, List.append_nil]

end Go.Ai
