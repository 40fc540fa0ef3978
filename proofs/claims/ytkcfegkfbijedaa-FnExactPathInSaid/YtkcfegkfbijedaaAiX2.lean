/- State spaces: sizes, copies, equality, marks. Written by mk26.py. -/
import Derived.Test.YtkcfegkfbijedaaAiN1
import Derived.Test.YtkcfegkfbijedaaAiI5
namespace Go.Ai
set_option linter.unusedVariables false
set_option linter.unusedSimpArgs false
open Go.Proofs Go.RowKit
set_option maxRecDepth 100000

theorem szIntS_sat (xs : List Int) (hw : wfL wfI xs) (b : Int) (h0 : 0 ≤ b) (h1 : b < 1048577) : Sat Try.prog 40 [slV (xs.map encI), intV b] (intV (szR (szL szI xs) b)) := by
  have hl := hw.1
  simp only [maxLen] at hl
  refine sat_of_code tbOk mixed Try.func40 rfl rfl rfl (by decide +kernel) (by decide +kernel) (Nat.le_of_ble_eq_true rfl) ?_
  simp -implicitDefEqProofs (disch := omega) only [go_sem]
  have := szL_int xs
  grind [szR]

theorem tmsV_map (xs : List Tm) : tmsV xs = slV (xs.map Tm.enc) := by rw [← encs_map]
theorem szTermSL_sat (xs : List Tm) (hw : wfL Tm.wf xs) (b : Int) (h0 : 0 ≤ b) (h1 : b < 1048577) : Sat Try.prog 13 [slV (xs.map Tm.enc), intV b] (intV (szR (szL Tm.size xs) b)) := by
  have := szTermS_sat xs (wfs_wfL xs hw) hw.1 b h0 h1
  rwa [tmsV_map, sizes_szL] at this
theorem toTermSL_sat (xs : List Tm) (hs : szL Tm.size xs < 1048577) : Sat Try.prog 16 [slV (xs.map Tm.enc)] (slV (xs.map Tm.enc)) := by
  have := toTermS_sat xs (by rw [sizes_szL]; exact hs)
  rwa [tmsV_map] at this
theorem eqTermSL_sat (xs : List Tm) (hw : wfL Tm.wf xs) (ys : List Tm) : Sat Try.prog 23 [slV (xs.map Tm.enc), slV (ys.map Tm.enc)] (boolV (eqL Tm.eqb xs ys)) := by
  have := eqTermS_1 xs ys hw.1 (fun t ht u => eqTerm_sat t (hw.2 t ht) u)
  rwa [tmsV_map, tmsV_map, eqbs_eqL] at this
structure GRedex where
  ru : Int
  ps : List Int
def GRedex.enc (x : GRedex) : List C := encI x.ru ++ (encL encI x.ps)
def GRedex.size (x : GRedex) : Nat := szI x.ru + (szL szI) x.ps
def GRedex.wf (x : GRedex) : Prop := wfI x.ru ∧ (wfL wfI) x.ps
def GRedex.eqb (x y : GRedex) : Bool := eqI x.ru y.ru && ((eqL eqI) x.ps y.ps)
theorem GRedex.enc_len (x : GRedex) : x.enc.length = 2 := by simp [GRedex.enc, encI, encS, encB, encL, Go.Ai.enc_len]
theorem GRedex.enc_take (x : GRedex) : x.enc.take 2 = x.enc := List.take_of_length_le (by rw [GRedex.enc_len]; exact Nat.le_refl _)
theorem GRedex.encm_take (x : GRedex) : (x.enc.map AC.c).take 2 = x.enc.map AC.c := List.take_of_length_le (by rw [List.length_map, GRedex.enc_len]; exact Nat.le_refl _)
attribute [go_sem] GRedex.enc_len GRedex.enc_take GRedex.encm_take
theorem GRedex.eqb_refl (x : GRedex) : x.eqb x = true := by simp only [GRedex.eqb, eqI_refl x.ru, (eqL_refl eqI_refl) x.ps, Bool.and_self]

theorem szRedex_sat (x : GRedex) (hw : x.wf) (b : Int) (h0 : 0 ≤ b) (h1 : b < 1048577) : Sat Try.prog 38 [aggV x.enc, intV b] (intV (szR x.size b)) := by
  obtain ⟨r, hr⟩ : ∃ r, r = szR x.size b := ⟨_, rfl⟩
  rw [← hr]
  obtain ⟨xru, xps⟩ := x
  simp only [GRedex.wf, wfI, wfS, wfB, maxLen] at hw
  simp only [GRedex.size, szI, szS, szB] at hr
  refine sat_of_code tbOk mixed Try.func38 rfl rfl rfl (by decide +kernel) (by decide +kernel) (Nat.le_of_ble_eq_true rfl) ?_
  simp -implicitDefEqProofs (disch := omega) only [go_sem, GRedex.enc, Tm.enc, encB, encI, encL, encS, List.cons_append, List.nil_append, List.append_nil]
  have hb0 : -1 ≤ szR ((szL szI) xps) b ∧ szR ((szL szI) xps) b ≤ 1048576 := by grind [szR]
  refine CallK.mk (szIntS_sat xps hw.2 b (by grind [szR]) (by grind [szR])) ?_
  simp -implicitDefEqProofs (disch := omega) only [go_sem, GRedex.enc, Tm.enc, encB, encI, encL, encS, List.cons_append, List.nil_append, List.append_nil]
  grind [szR]

theorem toRedex_sat (x : GRedex) (hs : x.size < 1048577) : Sat Try.prog 39 [aggV x.enc] (aggV x.enc) := by
  obtain ⟨xru, xps⟩ := x
  simp only [GRedex.size, szI, szS, szB] at hs
  refine sat_of_code tbOk mixed Try.func39 rfl rfl rfl (by decide +kernel) (by decide +kernel) (Nat.le_of_ble_eq_true rfl) ?_
  simp -implicitDefEqProofs (disch := omega) only [go_sem, GRedex.enc, Tm.enc, encB, encI, encL, encS, List.cons_append, List.nil_append, List.append_nil]
  refine CallK.mk (toIntS_sat xps (by omega)) ?_
  simp -implicitDefEqProofs (disch := omega) only [go_sem, GRedex.enc, Tm.enc, encB, encI, encL, encS, List.cons_append, List.nil_append, List.append_nil]
  rfl

theorem eqRedex_sat (x : GRedex) (hw : x.wf) (y : GRedex) : Sat Try.prog 22 [aggV x.enc, aggV y.enc] (boolV (x.eqb y)) := by
  obtain ⟨r, hr⟩ : ∃ r, r = x.eqb y := ⟨_, rfl⟩
  rw [← hr]
  obtain ⟨xru, xps⟩ := x
  obtain ⟨yru, yps⟩ := y
  simp only [GRedex.wf] at hw
  simp only [GRedex.eqb, eqI, eqS, eqB] at hr
  refine sat_of_code tbOk mixed Try.func22 rfl rfl rfl (by decide +kernel) (by decide +kernel) (Nat.le_of_ble_eq_true rfl) ?_
  simp -implicitDefEqProofs (disch := omega) only [go_sem, GRedex.enc, Tm.enc, encB, encI, encL, encS, List.cons_append, List.nil_append, List.append_nil]
  refine ⟨fun h0 => by grind, fun h0 => ?_⟩
  refine CallK.mk (eqIntS_sat xps hw.2 yps) ?_
  simp -implicitDefEqProofs (disch := omega) only [go_sem, GRedex.enc, Tm.enc, encB, encI, encL, encS, List.cons_append, List.nil_append, List.append_nil]
  grind

structure GMove where
  fr : Int
  tg : Int
  re : GRedex
def GMove.enc (x : GMove) : List C := encI x.fr ++ (encI x.tg ++ (GRedex.enc x.re))
def GMove.size (x : GMove) : Nat := szI x.fr + szI x.tg + GRedex.size x.re
def GMove.wf (x : GMove) : Prop := wfI x.fr ∧ wfI x.tg ∧ GRedex.wf x.re
def GMove.eqb (x y : GMove) : Bool := eqI x.fr y.fr && (eqI x.tg y.tg && (GRedex.eqb x.re y.re))
theorem GMove.enc_len (x : GMove) : x.enc.length = 4 := by simp [GMove.enc, encI, encS, encB, encL, Go.Ai.enc_len, GRedex.enc_len]
theorem GMove.enc_take (x : GMove) : x.enc.take 4 = x.enc := List.take_of_length_le (by rw [GMove.enc_len]; exact Nat.le_refl _)
theorem GMove.encm_take (x : GMove) : (x.enc.map AC.c).take 4 = x.enc.map AC.c := List.take_of_length_le (by rw [List.length_map, GMove.enc_len]; exact Nat.le_refl _)
attribute [go_sem] GMove.enc_len GMove.enc_take GMove.encm_take
theorem GMove.eqb_refl (x : GMove) : x.eqb x = true := by simp only [GMove.eqb, eqI_refl x.fr, eqI_refl x.tg, GRedex.eqb_refl x.re, Bool.and_self]

theorem szMove_sat (x : GMove) (hw : x.wf) (b : Int) (h0 : 0 ≤ b) (h1 : b < 1048577) : Sat Try.prog 30 [aggV x.enc, intV b] (intV (szR x.size b)) := by
  obtain ⟨r, hr⟩ : ∃ r, r = szR x.size b := ⟨_, rfl⟩
  rw [← hr]
  obtain ⟨xfr, xtg, ⟨xreru, xreps⟩⟩ := x
  simp only [GMove.wf, GRedex.wf, wfI, wfS, wfB, maxLen] at hw
  simp only [GMove.size, szI, szS, szB] at hr
  refine sat_of_code tbOk mixed Try.func30 rfl rfl rfl (by decide +kernel) (by decide +kernel) (Nat.le_of_ble_eq_true rfl) ?_
  simp -implicitDefEqProofs (disch := omega) only [go_sem, GMove.enc, GRedex.enc, List.append_nil, List.cons_append, List.nil_append, Tm.enc, encB, encI, encL, encS, List.cons_append, List.nil_append, List.append_nil]
  have hb0 : -1 ≤ szR (GRedex.size ⟨xreru, xreps⟩) b ∧ szR (GRedex.size ⟨xreru, xreps⟩) b ≤ 1048576 := by grind [szR]
  refine CallK.mk (szRedex_sat ⟨xreru, xreps⟩ hw.2.2 b (by grind [szR]) (by grind [szR])) ?_
  simp -implicitDefEqProofs (disch := omega) only [go_sem, GMove.enc, GRedex.enc, List.append_nil, List.cons_append, List.nil_append, Tm.enc, encB, encI, encL, encS, List.cons_append, List.nil_append, List.append_nil]
  grind [szR]

theorem toMove_sat (x : GMove) (hs : x.size < 1048577) : Sat Try.prog 32 [aggV x.enc] (aggV x.enc) := by
  obtain ⟨xfr, xtg, ⟨xreru, xreps⟩⟩ := x
  simp only [GMove.size, szI, szS, szB] at hs
  refine sat_of_code tbOk mixed Try.func32 rfl rfl rfl (by decide +kernel) (by decide +kernel) (Nat.le_of_ble_eq_true rfl) ?_
  simp -implicitDefEqProofs (disch := omega) only [go_sem, GMove.enc, GRedex.enc, List.append_nil, List.cons_append, List.nil_append, Tm.enc, encB, encI, encL, encS, List.cons_append, List.nil_append, List.append_nil]
  refine CallK.mk (toRedex_sat ⟨xreru, xreps⟩ (by omega)) ?_
  simp -implicitDefEqProofs (disch := omega) only [go_sem, GMove.enc, GRedex.enc, List.append_nil, List.cons_append, List.nil_append, Tm.enc, encB, encI, encL, encS, List.cons_append, List.nil_append, List.append_nil]
  rfl

theorem eqMove_sat (x : GMove) (hw : x.wf) (y : GMove) : Sat Try.prog 36 [aggV x.enc, aggV y.enc] (boolV (x.eqb y)) := by
  obtain ⟨r, hr⟩ : ∃ r, r = x.eqb y := ⟨_, rfl⟩
  rw [← hr]
  obtain ⟨xfr, xtg, ⟨xreru, xreps⟩⟩ := x
  obtain ⟨yfr, ytg, ⟨yreru, yreps⟩⟩ := y
  simp only [GMove.wf] at hw
  simp only [GMove.eqb, eqI, eqS, eqB] at hr
  refine sat_of_code tbOk mixed Try.func36 rfl rfl rfl (by decide +kernel) (by decide +kernel) (Nat.le_of_ble_eq_true rfl) ?_
  simp -implicitDefEqProofs (disch := omega) only [go_sem, GMove.enc, GRedex.enc, List.append_nil, List.cons_append, List.nil_append, Tm.enc, encB, encI, encL, encS, List.cons_append, List.nil_append, List.append_nil]
  refine ⟨fun h0 => by grind, fun h0 => ?_⟩
  refine ⟨fun h1 => by grind, fun h1 => ?_⟩
  refine CallK.mk (eqRedex_sat ⟨xreru, xreps⟩ hw.2.2 ⟨yreru, yreps⟩) ?_
  simp -implicitDefEqProofs (disch := omega) only [go_sem, GMove.enc, GRedex.enc, List.append_nil, List.cons_append, List.nil_append, Tm.enc, encB, encI, encL, encS, List.cons_append, List.nil_append, List.append_nil]
  grind

theorem szMoveS_sat (xs : List GMove) (hw : wfL GMove.wf xs) (b : Int) (h0 : 0 ≤ b) (h1 : b < 1048577) : Sat Try.prog 14 [slV (xs.map GMove.enc), intV b] (intV (szR (szL GMove.size xs) b)) := by
  have hl := hw.1
  simp only [maxLen] at hl
  refine sat_of_code tbOk mixed Try.func14 rfl rfl rfl (by decide +kernel) (by decide +kernel) (Nat.le_of_ble_eq_true rfl) ?_
  simp -implicitDefEqProofs (disch := omega) only [go_sem]
  refine ⟨fun h => ?_, fun h => ?_⟩
  · have := len_szL GMove.size xs
    grind [szR]
  · refine loopA_rule (ι := Nat × Int) (fun i => mk 27 [(0, slV (xs.map GMove.enc)), (5, intV i.1), (1, intV i.2)] []) (fun i => i.1 ≤ xs.length ∧ i.2 - ((szL GMove.size (xs.drop i.1) : Int) - (xs.length - i.1)) = b - szL GMove.size xs ∧ 0 ≤ i.2 ∧ i.2 < 1048577) (fun i => xs.length - i.1) (0, b - xs.length) ?_ ?_ tbOk mixed (by decide +kernel) ?_
    · simp; omega
    · exact le_mk (by simp [go_sem]) (by simp [go_sem])
    · rintro ⟨i, c⟩ ⟨hi, hc, hc0, hc1⟩
      simp only at hi hc hc0 hc1
      rcases Nat.lt_or_ge i xs.length with hlt | hge
      · have hg := map_getD (ec := GMove.enc) hlt
        have hz := szL_drop GMove.size xs i hlt
        have hz2 := len_szL GMove.size (xs.drop (i + 1))
        simp only [List.length_drop] at hz2
        have hx := hw.2 _ (List.getElem_mem hlt)
        generalize xs[i] = x at hg hz hx
        simp -implicitDefEqProofs (disch := omega) only [go_sem, hg, hlt]
        refine CallK.mk (szMove_sat x hx c hc0 (by omega)) ?_
        simp -implicitDefEqProofs (disch := omega) only [go_sem]
        refine ⟨fun h => ?_, fun h => ⟨(i + 1, szR (GMove.size x) c), ⟨hlt, ?_⟩, ?_, le_mk (by simp [go_sem]) (by simp [go_sem])⟩⟩
        · grind [szR]
        · grind [szR]
        · simp only; omega
      · simp -implicitDefEqProofs (disch := omega) only [go_sem, Nat.not_lt.2 hge]
        rw [List.drop_of_length_le hge] at hc
        simp only [szL] at hc
        grind [szR]

abbrev zMove : List AC := [iC 0, iC 0, iC 0, .nil]
theorem toMoveS_sat (xs : List GMove) (hs : szL GMove.size xs < 1048577) : Sat Try.prog 17 [slV (xs.map GMove.enc)] (slV (xs.map GMove.enc)) := by
  have hl := len_szL GMove.size xs
  refine sat_of_code tbOk mixed Try.func17 rfl rfl rfl (by decide +kernel) (by decide +kernel) (Nat.le_of_ble_eq_true rfl) ?_
  simp -implicitDefEqProofs (disch := omega) only [go_sem]
  refine ⟨⟨by omega, by omega⟩, fun _ => ?_⟩
  refine loopA_rule (ι := Nat) (fun i => mk 23 [(0, slV (xs.map GMove.enc)), (3, .one (.own 7 xs.length)), (4, intV i)] [(7, .arr 47 4 (rowsAt GMove.enc zMove xs i) false)]) (fun i => i ≤ xs.length) (fun i => xs.length - i) 0 (Nat.zero_le _) ?_ tbOk mixed (by decide +kernel) ?_
  · exact le_mk (by simp [go_sem]) (by simp [go_sem, rowsAt_zero, List.mem_replicate])
  · intro i hi
    have hlen := rowsAt_len (ec := GMove.enc) (z := zMove) hi
    rcases Nat.lt_or_ge i xs.length with hlt | hge
    · have hg := map_getD (ec := GMove.enc) hlt
      have hr := rowsAt_get (ec := GMove.enc) (z := zMove) hlt
      have hset := rowsAt_set (ec := GMove.enc) (z := zMove) hlt
      have hm := szL_mem GMove.size xs _ (List.getElem_mem hlt)
      simp -implicitDefEqProofs (disch := omega) only [go_sem, hg, hlt, hlen]
      refine CallK.mk (toMove_sat _ (by omega)) ?_
      simp -implicitDefEqProofs (disch := omega) only [go_sem, hlen, hlt, List.length_map, hr, hset]
      refine ⟨by simp [zMove, unD], fun _ => ⟨i + 1, hlt, by omega, le_mk (by simp [go_sem]) ?_⟩⟩
      simp only [leB, lookB_cons, if_true, inB, true_and, and_true]
      exact rowsAt_inC (by simp [zMove, inC])
    · have : i = xs.length := by omega
      subst this
      have hv := rowsAt_view (ec := GMove.enc) (z := zMove) (Nat.le_refl xs.length)
      simp -implicitDefEqProofs (disch := omega) only [go_sem, hlen, hv, Nat.lt_irrefl]
      exact rowsAt_isV (Nat.le_refl _)

theorem eqMoveS_sat (xs : List GMove) (hw : wfL GMove.wf xs) (ys : List GMove) : Sat Try.prog 24 [slV (xs.map GMove.enc), slV (ys.map GMove.enc)] (boolV (eqL GMove.eqb xs ys)) := by
  have hl := hw.1
  simp only [maxLen] at hl
  refine sat_of_code tbOk mixed Try.func24 rfl rfl rfl (by decide +kernel) (by decide +kernel) (Nat.le_of_ble_eq_true rfl) ?_
  simp -implicitDefEqProofs (disch := omega) only [go_sem]
  refine ⟨fun h4 => ?_, fun h4 => ?_⟩
  · rw [eqL_len GMove.eqb xs ys (by omega)]
  · have hll : xs.length = ys.length := by simp at h4; omega
    refine loopA_rule (ι := Nat) (fun i => mk 27 [(0, slV (xs.map GMove.enc)), (1, slV (ys.map GMove.enc)), (5, intV i)] [])
      (fun i => i ≤ xs.length ∧ eqL GMove.eqb (xs.drop i) (ys.drop i) = eqL GMove.eqb xs ys) (fun i => xs.length - i) 0 ⟨Nat.zero_le _, by simp⟩ ?_ tbOk mixed (by decide +kernel) ?_
    · exact le_mk (by simp [go_sem]) (by simp [go_sem])
    · rintro i ⟨hi, he⟩
      rcases Nat.lt_or_ge i xs.length with hlt | hge
      · have hlt' : i < ys.length := by omega
        have hg := map_getD (ec := GMove.enc) hlt
        have hg' := map_getD (ec := GMove.enc) hlt'
        rw [eqL_drop GMove.eqb xs ys i hlt hlt'] at he
        have hx := hw.2 _ (List.getElem_mem hlt)
        generalize xs[i] = x at hg he hx
        generalize ys[i] = y at hg' he
        simp -implicitDefEqProofs (disch := omega) only [go_sem, hg, hg', hlt, hlt']
        refine CallK.mk (eqMove_sat x hx y) ?_
        simp -implicitDefEqProofs (disch := omega) only [go_sem]
        refine ⟨fun h => ?_, fun h => ⟨i + 1, ⟨hlt, ?_⟩, by omega, le_mk (by simp [go_sem]) (by simp [go_sem])⟩⟩
        · rw [h] at he; simpa using he
        · rw [h] at he; simpa using he
      · have e1 : xs.drop i = [] := List.drop_of_length_le hge
        have e2 : ys.drop i = [] := List.drop_of_length_le (by omega)
        rw [e1, e2] at he
        simp -implicitDefEqProofs (disch := omega) only [go_sem, Nat.not_lt.2 hge]
        rw [← he]; rfl

structure GSpace where
  te : List Tm
  mo : List GMove
  fu : Bool
def GSpace.enc (x : GSpace) : List C := encL Tm.enc x.te ++ (encL GMove.enc x.mo ++ (encB x.fu))
def GSpace.size (x : GSpace) : Nat := (szL Tm.size) x.te + (szL GMove.size) x.mo + szB x.fu
def GSpace.wf (x : GSpace) : Prop := (wfL Tm.wf) x.te ∧ (wfL GMove.wf) x.mo ∧ wfB x.fu
def GSpace.eqb (x y : GSpace) : Bool := (eqL Tm.eqb) x.te y.te && ((eqL GMove.eqb) x.mo y.mo && (eqB x.fu y.fu))
theorem GSpace.enc_len (x : GSpace) : x.enc.length = 3 := by simp [GSpace.enc, encI, encS, encB, encL, Go.Ai.enc_len]
theorem GSpace.enc_take (x : GSpace) : x.enc.take 3 = x.enc := List.take_of_length_le (by rw [GSpace.enc_len]; exact Nat.le_refl _)
theorem GSpace.encm_take (x : GSpace) : (x.enc.map AC.c).take 3 = x.enc.map AC.c := List.take_of_length_le (by rw [List.length_map, GSpace.enc_len]; exact Nat.le_refl _)
attribute [go_sem] GSpace.enc_len GSpace.enc_take GSpace.encm_take
theorem GSpace.eqb_refl (x : GSpace) : x.eqb x = true := by simp only [GSpace.eqb, (eqL_refl Tm.eqb_refl) x.te, (eqL_refl GMove.eqb_refl) x.mo, eqB_refl x.fu, Bool.and_self]

theorem szSpace_sat (x : GSpace) (hw : x.wf) (b : Int) (h0 : 0 ≤ b) (h1 : b < 1048577) : Sat Try.prog 4 [aggV x.enc, intV b] (intV (szR x.size b)) := by
  obtain ⟨r, hr⟩ : ∃ r, r = szR x.size b := ⟨_, rfl⟩
  rw [← hr]
  obtain ⟨xte, xmo, xfu⟩ := x
  simp only [GSpace.wf, wfI, wfS, wfB, maxLen] at hw
  simp only [GSpace.size, szI, szS, szB] at hr
  refine sat_of_code tbOk mixed Try.func4 rfl rfl rfl (by decide +kernel) (by decide +kernel) (Nat.le_of_ble_eq_true rfl) ?_
  simp -implicitDefEqProofs (disch := omega) only [go_sem, GSpace.enc, Tm.enc, encB, encI, encL, encS, List.cons_append, List.nil_append, List.append_nil]
  have hb0 : -1 ≤ szR ((szL Tm.size) xte) b ∧ szR ((szL Tm.size) xte) b ≤ 1048576 := by grind [szR]
  refine CallK.mk (szTermSL_sat xte hw.1 b (by grind [szR]) (by grind [szR])) ?_
  simp -implicitDefEqProofs (disch := omega) only [go_sem, GSpace.enc, Tm.enc, encB, encI, encL, encS, List.cons_append, List.nil_append, List.append_nil]
  refine ⟨fun h0 => by grind [szR], fun h0 => ?_⟩
  have hb1 : -1 ≤ szR ((szL GMove.size) xmo) (szR ((szL Tm.size) xte) b) ∧ szR ((szL GMove.size) xmo) (szR ((szL Tm.size) xte) b) ≤ 1048576 := by grind [szR]
  refine CallK.mk (szMoveS_sat xmo hw.2.1 (szR ((szL Tm.size) xte) b) (by grind [szR]) (by grind [szR])) ?_
  simp -implicitDefEqProofs (disch := omega) only [go_sem, GSpace.enc, Tm.enc, encB, encI, encL, encS, List.cons_append, List.nil_append, List.append_nil]
  grind [szR]

theorem toSpace_sat (x : GSpace) (hs : x.size < 1048577) : Sat Try.prog 6 [aggV x.enc] (aggV x.enc) := by
  obtain ⟨xte, xmo, xfu⟩ := x
  simp only [GSpace.size, szI, szS, szB] at hs
  refine sat_of_code tbOk mixed Try.func6 rfl rfl rfl (by decide +kernel) (by decide +kernel) (Nat.le_of_ble_eq_true rfl) ?_
  simp -implicitDefEqProofs (disch := omega) only [go_sem, GSpace.enc, Tm.enc, encB, encI, encL, encS, List.cons_append, List.nil_append, List.append_nil]
  refine CallK.mk (toTermSL_sat xte (by omega)) ?_
  simp -implicitDefEqProofs (disch := omega) only [go_sem, GSpace.enc, Tm.enc, encB, encI, encL, encS, List.cons_append, List.nil_append, List.append_nil]
  refine CallK.mk (toMoveS_sat xmo (by omega)) ?_
  simp -implicitDefEqProofs (disch := omega) only [go_sem, GSpace.enc, Tm.enc, encB, encI, encL, encS, List.cons_append, List.nil_append, List.append_nil]
  rfl

theorem eqSpace_sat (x : GSpace) (hw : x.wf) (y : GSpace) : Sat Try.prog 9 [aggV x.enc, aggV y.enc] (boolV (x.eqb y)) := by
  obtain ⟨r, hr⟩ : ∃ r, r = x.eqb y := ⟨_, rfl⟩
  rw [← hr]
  obtain ⟨xte, xmo, xfu⟩ := x
  obtain ⟨yte, ymo, yfu⟩ := y
  simp only [GSpace.wf] at hw
  simp only [GSpace.eqb, eqI, eqS, eqB] at hr
  refine sat_of_code tbOk mixed Try.func9 rfl rfl rfl (by decide +kernel) (by decide +kernel) (Nat.le_of_ble_eq_true rfl) ?_
  simp -implicitDefEqProofs (disch := omega) only [go_sem, GSpace.enc, Tm.enc, encB, encI, encL, encS, List.cons_append, List.nil_append, List.append_nil]
  refine CallK.mk (eqTermSL_sat xte hw.1 yte) ?_
  simp -implicitDefEqProofs (disch := omega) only [go_sem, GSpace.enc, Tm.enc, encB, encI, encL, encS, List.cons_append, List.nil_append, List.append_nil]
  refine ⟨fun h0 => by grind, fun h0 => ?_⟩
  refine CallK.mk (eqMoveS_sat xmo hw.2.1 ymo) ?_
  simp -implicitDefEqProofs (disch := omega) only [go_sem, GSpace.enc, Tm.enc, encB, encI, encL, encS, List.cons_append, List.nil_append, List.append_nil]
  refine ⟨fun h1 => by grind, fun h1 => ?_⟩
  grind

end Go.Ai
/- State spaces: marks. Written by mk26.py. -/
namespace Go.Ai
set_option linter.unusedVariables false
set_option linter.unusedSimpArgs false
open Go.Proofs Go.RowKit
set_option maxRecDepth 100000

theorem toTermSFL_sat (xs : List Tm) (hs : szL Tm.size xs < 1048577) : SatF Try.prog 16 [slV (xs.map Tm.enc)] (slV (xs.map Tm.enc)) := by
  have := toTermSF_sat xs (by rw [sizes_szL]; exact hs)
  rwa [tmsV_map] at this
theorem GRedex.csz (x : GRedex) : cszCells x.enc = x.size := by simp only [GRedex.enc, GRedex.size, cszCells_append, Nat.add_assoc, cszE_I, cszL_of cszE_I]
theorem GRedex.nar (x : GRedex) : narCells x.enc := (narCells_append _ _ (narE_I x.ru) (narL_of (fun y => ⟨by simp [encI], narE_I y⟩) x.ps))

theorem toRedexF_sat (x : GRedex) (hs : x.size < 1048577) : SatF Try.prog 39 [aggV x.enc] (aggV x.enc) := by
  obtain ⟨xru, xps⟩ := x
  simp only [GRedex.size, szI, szS, szB] at hs
  refine satF_of_code [_] rfl (fun _ h => by cases h) tbOk mixed Try.func39 rfl rfl rfl (by decide +kernel) (by decide +kernel) (Nat.le_of_ble_eq_true rfl) ?_
  simp -implicitDefEqProofs (disch := omega) only [go_sem, GRedex.enc, Tm.enc, encB, encI, encL, encS, List.cons_append, List.nil_append, List.append_nil]
  refine CallK.own (toIntSF_sat xps (by omega)) rfl ?_
  simp -implicitDefEqProofs (disch := omega) only [go_sem, GRedex.enc, Tm.enc, encB, encI, encL, encS, List.cons_append, List.nil_append, List.append_nil]

theorem GMove.csz (x : GMove) : cszCells x.enc = x.size := by simp only [GMove.enc, GMove.size, cszCells_append, Nat.add_assoc, GRedex.csz, cszE_I]
theorem GMove.nar (x : GMove) : narCells x.enc := (narCells_append _ _ (narE_I x.fr) (narCells_append _ _ (narE_I x.tg) (GRedex.nar x.re)))

theorem toMoveF_sat (x : GMove) (hs : x.size < 1048577) : SatF Try.prog 32 [aggV x.enc] (aggV x.enc) := by
  obtain ⟨xfr, xtg, ⟨xreru, xreps⟩⟩ := x
  simp only [GMove.size, szI, szS, szB] at hs
  refine satF_of_code [_] rfl (fun _ h => by cases h) tbOk mixed Try.func32 rfl rfl rfl (by decide +kernel) (by decide +kernel) (Nat.le_of_ble_eq_true rfl) ?_
  simp -implicitDefEqProofs (disch := omega) only [go_sem, GMove.enc, GRedex.enc, List.append_nil, List.cons_append, List.nil_append, Tm.enc, encB, encI, encL, encS, List.cons_append, List.nil_append, List.append_nil]
  refine CallK.own (toRedexF_sat ⟨xreru, xreps⟩ (by omega)) rfl ?_
  simp -implicitDefEqProofs (disch := omega) only [go_sem, GMove.enc, GRedex.enc, List.append_nil, List.cons_append, List.nil_append, Tm.enc, encB, encI, encL, encS, List.cons_append, List.nil_append, List.append_nil]

theorem toMoveSF_sat (xs : List GMove) (hs : szL GMove.size xs < 1048577) : SatF Try.prog 17 [slV (xs.map GMove.enc)] (slV (xs.map GMove.enc)) := by
  have hl := len_szL GMove.size xs
  obtain ⟨rows, hrows⟩ : ∃ rows, rows = xs.map GMove.enc := ⟨_, rfl⟩
  have lr : rows.length = xs.length := by rw [hrows]; simp
  rw [← hrows]
  refine satF_of_code [slV rows] rfl (fun _ h => by cases h) tbOk mixed Try.func17 rfl rfl rfl (by decide +kernel) (by decide +kernel) (Nat.le_of_ble_eq_true rfl) ?_
  simp -implicitDefEqProofs (disch := omega) only [go_sem, lr]
  refine ⟨⟨by omega, by omega⟩, fun _ => ?_⟩
  obtain ⟨Z, hZ⟩ : ∃ Z, Z = List.replicate xs.length zMove := ⟨_, rfl⟩
  obtain ⟨Fr, hFr⟩ : ∃ Fr, Fr = rows.map fun q => q.map dC := ⟨_, rfl⟩
  have lZ : Z.length = xs.length := by rw [hZ]; simp
  have lF : Fr.length = Z.length := by rw [hFr, lZ]; simp [lr]
  have iF : ∀ lb r, r ∈ Fr → ∀ a, a ∈ r → inC lb a := fun lb => by rw [hFr]; exact drows_in lb
  have iZ : ∀ lb r, r ∈ Z → ∀ a, a ∈ r → inC lb a := fun lb => by rw [hZ]; exact rep_in (by simp [zMove, inC])
  rw [← hZ]
  refine loopA_rule (ι := Nat) (fun i => mk 23 [(0, slV rows), (3, .one (.own 7 xs.length)), (4, intV i)] [(7, .arr 47 4 (turnR Fr Z i) false)]) (fun i => i ≤ xs.length) (fun i => xs.length - i) 0 (Nat.zero_le _) ?_ tbOk mixed (by decide +kernel) ?_
  · exact le_mk (by simp [go_sem]) (by simp only [leB, lookB_cons, if_true, inB, turnR_zero, true_and, and_true]; exact iZ _)
  · intro i hi
    have hlen := turnR_len (i := i) lF (by omega)
    rcases Nat.lt_or_ge i xs.length with hlt | hge
    · have hi' : i < Z.length := by omega
      have hg : rows.getD i [] = GMove.enc xs[i] := by rw [hrows]; exact map_getD hlt
      have eZ : Z[i] = zMove := by simp [hZ]
      have eF : Fr[i]'(by omega) = (GMove.enc xs[i]).map dC := by simp [hFr, hrows]
      have hm := szL_mem GMove.size xs _ (List.getElem_mem hlt)
      generalize xs[i] = x at hg eF hm
      have hto := toMoveF_sat x (by omega)
      obtain ⟨xfr, xtg, ⟨xreru, xreps⟩⟩ := x
      have hfin := turnS_turnR lF hi'
      rw [eF] at hfin
      have sl := fun r => turnS_len lF hi' r
      have sg := fun r => turnS_get lF hi' r
      rw [turnR_eq lF hi' eZ]
      simp -implicitDefEqProofs (disch := omega) only [go_sem, hg, hlt, lr, lZ, sl, sg, turnS_set, GMove.enc, GRedex.enc, List.append_nil, List.cons_append, List.nil_append, Tm.enc, encB, encI, encL, encS, List.cons_append, List.nil_append, List.append_nil, List.forall_mem_cons, List.not_mem_nil]
      refine CallK.own hto rfl ?_
      simp -implicitDefEqProofs (disch := omega) only [go_sem, hg, hlt, lr, lZ, sl, sg, turnS_set, GMove.enc, GRedex.enc, List.append_nil, List.cons_append, List.nil_append, Tm.enc, encB, encI, encL, encS, List.cons_append, List.nil_append, List.append_nil, List.forall_mem_cons, List.not_mem_nil]
      refine ⟨i + 1, hlt, by omega, ((wk_moveS (l := 7) (c := 3) lF hi' rfl rfl rfl rfl).trans (le_mk (by simp [go_sem]) ?_))⟩
      simp only [leB, lookB_cons, if_true, inB, true_and, and_true]
      exact ⟨by rw [← hfin] <;> rfl, turnR_in (iF _) (iZ _)⟩
    · have : i = xs.length := by omega
      subst this
      simp -implicitDefEqProofs (disch := omega) only [go_sem, hlen, lZ, lr, Nat.lt_irrefl]
      rw [turnR_end lF lZ.symm, hFr]
      exact ⟨drows_isO, drows_toC⟩

theorem markMoveS_nil (k : Int) : Sat Try.prog 26 [slV [], intV k] (intV k) := by
  refine sat_of_code tbOk mixed Try.func26 rfl rfl rfl (by decide +kernel) (by decide +kernel) (Nat.le_of_ble_eq_true rfl) ?_
  simp -implicitDefEqProofs (disch := omega) only [go_sem]
  refine loopA_rule (ι := Unit) (fun _ => mk 43 [(0, slV []), (1, intV k), (5, intV 0)] []) (fun _ => True) (fun _ => 0) () trivial ?_ tbOk mixed (by decide +kernel) ?_
  · exact le_mk (by simp [go_sem]) (by simp [go_sem])
  · intro _ _
    simp -implicitDefEqProofs (disch := omega) only [go_sem]
    intro h; omega
theorem markMoveS_sat (xs : List GMove) (hw : wfL GMove.wf xs) (k : Int) (h0 : 0 ≤ k) (h1 : (mkRows (xs.map GMove.enc) k).2 ≤ 100000000) : SatM Try.prog 26 [.one (.m (.sl (xs.map GMove.enc))), intV k] [.one (.m (.sl (mkRows (xs.map GMove.enc) k).1)), intV k] (intV (mkRows (xs.map GMove.enc) k).2) := by
  have hl := hw.1
  cases hx : xs with
  | nil => simpa [mkRows] using satM_nil (rest := [intV k]) rfl rfl (markMoveS_nil k)
  | cons x0 xs0 =>
    rw [← hx]
    simp only [maxLen] at hl
    obtain ⟨rows, hrows⟩ : ∃ rows, rows = xs.map GMove.enc := ⟨_, rfl⟩
    have lr : rows.length = xs.length := by rw [hrows]; simp
    rw [← hrows] at h1 ⊢
    refine satM_slice 9001 4 tbOk mixed Try.func26 rfl rfl rfl (by decide +kernel) (by decide +kernel) (Nat.le_of_ble_eq_true rfl) rfl rfl (by rw [hrows, hx]; simp) (by rw [hrows]; simp [GMove.enc_len]) (fun e => ?_)
    simp -implicitDefEqProofs (disch := omega) only [go_sem]
    obtain ⟨G, hG⟩ : ∃ G, G = rows.map fun q => q.map mC := ⟨_, rfl⟩
    obtain ⟨Fr, hFr⟩ : ∃ Fr, Fr = (mkRows rows k).1.map fun q => q.map mC := ⟨_, rfl⟩
    have lG : G.length = rows.length := by rw [hG]; simp
    have lF : Fr.length = G.length := by rw [hFr, lG]; simp [mkRows_len]
    have iF : ∀ lb r, r ∈ Fr → ∀ a, a ∈ r → inC lb a := fun lb => by rw [hFr]; exact mrows_in lb
    have iG : ∀ lb r, r ∈ G → ∀ a, a ∈ r → inC lb a := fun lb => by rw [hG]; exact mrows_in lb
    have nF : noD Fr = true := by rw [hFr]; exact mrows_noD
    have nG : noD G = true := by rw [hG]; exact mrows_noD
    rw [← hG]
    refine loopW_rule (ι := Nat) (fun i => mk 43 [(0, .one (.own 9001 rows.length)), (1, intV (kAt rows k i)), (5, intV i)] [(9001, .arr e 4 (turnR Fr G i) false)] [.one (.own 9001 rows.length)]) (fun i => i ≤ rows.length) (fun i => rows.length - i) 0 (Nat.zero_le _) ?_ tbOk mixed (by decide +kernel) ?_
    · exact le_mk (by simp [go_sem, kAt_zero]) (by simp only [leB, lookB_cons, if_true, inB, turnR_zero, true_and, and_true]; exact iG _)
    · intro i hi
      have hlen := turnR_len (i := i) lF (by omega)
      rcases Nat.lt_or_ge i rows.length with hlt | hge
      · have hi' : i < G.length := by omega
        obtain ⟨hm, eM, eK⟩ := mkRows_at rows k i hlt
        have hb1 := kAt_cnt rows k i
        have hb2 := cntRows_get rows i hlt
        have hb3 := mkRows_cnt rows k
        have hb4 := mkCells_cnt rows[i] (kAt rows k i)
        have ex : rows[i] = GMove.enc (xs[i]'(by omega)) := by simp [hrows]
        have hw' := hw.2 _ (List.getElem_mem (show i < xs.length by omega))
        generalize xs[i]'(by omega) = x at ex hw'
        obtain ⟨xfr, xtg, ⟨xreru, xreps⟩⟩ := x
        simp only [GMove.wf, GRedex.wf] at hw'
        rw [ex] at eM eK hb2 hb4
        simp only [GMove.enc, GRedex.enc, List.append_nil, List.cons_append, List.nil_append, Tm.enc, encB, encI, encL, encS, List.cons_append, List.nil_append, List.append_nil, mkCells, mkC] at eM eK hb2 hb4
        generalize hK : kAt rows k i = K at eM eK hb1 hb4
        have hKn : 0 ≤ K := by omega
        have hc3 := mkRows_cnt (xreps.map encI) (((K + 1) + 1) + 1)
        have eG : G[i] = [iC xfr, iC xtg, iC xreru, .m (.sl (xreps.map encI))] := by simp [hG, ex, GMove.enc, GRedex.enc, List.append_nil, List.cons_append, List.nil_append, Tm.enc, encB, encI, encL, encS, List.cons_append, List.nil_append, List.append_nil, mC]
        have eF : Fr[i]'(by omega) = [iC K, iC (K + 1), iC ((K + 1) + 1), .m (.sl (mkRows (xreps.map encI) (((K + 1) + 1) + 1)).1)] := by simp [hFr, eM, mC]
        have hfin := turnS_turnR lF hi'
        rw [eF] at hfin
        have sl := fun r => turnS_len lF hi' r
        have sg := fun r => turnS_get lF hi' r
        rw [turnR_eq lF hi' eG]
        refine ⟨_, (wk_takeS (l := 9001) (T := 9103) (c := 3) lF hi' rfl rfl rfl (by exact turnS_noD nF nG rfl)), ?_⟩
        simp -implicitDefEqProofs (disch := omega) only [go_sem, sl, sg, turnS_set, lG, hlt, List.forall_mem_cons, List.not_mem_nil, Tm.args]
        refine CallK.mut (markIntS_sat xreps hw'.2.2.2 (((K + 1) + 1) + 1) (by omega) (by omega)) ?_
        simp -implicitDefEqProofs (disch := omega) only [go_sem, sl, sg, turnS_set, lG, hlt, List.forall_mem_cons, List.not_mem_nil, Tm.args]
        refine ⟨i + 1, hlt, by omega, ((wk_giveS (l := 9001) (T := 9103) (c := 3) lF hi' rfl rfl rfl).trans (le_mk (by simp [go_sem, eK]) ?_))⟩
        simp only [leB, lookB_cons, if_true, inB, true_and, and_true]
        exact ⟨by rw [← hfin] <;> rfl, turnR_in (iF _) (iG _)⟩
      · have : i = rows.length := by omega
        subst this
        refine ⟨_, Wk.refl _, ?_⟩
        simp -implicitDefEqProofs (disch := omega) only [go_sem, hlen, lG, Nat.lt_irrefl, kAt_all]
        exact turnedRow_mk rfl (by rw [turnR_end lF lG.symm, hFr]) (by rw [mkRows_len]) rfl

theorem GSpace.csz (x : GSpace) : cszCells x.enc = x.size := by simp only [GSpace.enc, GSpace.size, cszCells_append, Nat.add_assoc, cszE_B, cszL_of GMove.csz, cszL_of Tm.csz]
theorem GSpace.nar (x : GSpace) : narCells x.enc := (narCells_append _ _ (narL_of (fun y => ⟨by rw [Go.Ai.enc_len]; omega, Tm.nar y⟩) x.te) (narCells_append _ _ (narL_of (fun y => ⟨by rw [GMove.enc_len]; omega, GMove.nar y⟩) x.mo) (narE_B x.fu)))

theorem toSpaceF_sat (x : GSpace) (hs : x.size < 1048577) : SatF Try.prog 6 [aggV x.enc] (aggV x.enc) := by
  obtain ⟨xte, xmo, xfu⟩ := x
  simp only [GSpace.size, szI, szS, szB] at hs
  refine satF_of_code [_] rfl (fun _ h => by cases h) tbOk mixed Try.func6 rfl rfl rfl (by decide +kernel) (by decide +kernel) (Nat.le_of_ble_eq_true rfl) ?_
  simp -implicitDefEqProofs (disch := omega) only [go_sem, GSpace.enc, Tm.enc, encB, encI, encL, encS, List.cons_append, List.nil_append, List.append_nil]
  refine CallK.own (toTermSFL_sat xte (by omega)) rfl ?_
  simp -implicitDefEqProofs (disch := omega) only [go_sem, GSpace.enc, Tm.enc, encB, encI, encL, encS, List.cons_append, List.nil_append, List.append_nil]
  refine CallK.own (toMoveSF_sat xmo (by omega)) rfl ?_
  simp -implicitDefEqProofs (disch := omega) only [go_sem, GSpace.enc, Tm.enc, encB, encI, encL, encS, List.cons_append, List.nil_append, List.append_nil]

theorem markSpace_sat (xte : List Tm) (xmo : List GMove) (xfu : Bool) (hw : (⟨xte, xmo, xfu⟩ : GSpace).wf) (k : Int) (h0 : 0 ≤ k) (h1 : (mkRows (xmo.map GMove.enc) (mkRows (xte.map Tm.enc) k).2).2 ≤ 100000000) : SatM Try.prog 10 [.agg [.m (.sl (xte.map Tm.enc)), .m (.sl (xmo.map GMove.enc)), .c (.v (.bool xfu))], intV k] [.agg [.m (.sl (mkRows (xte.map Tm.enc) k).1), .m (.sl (mkRows (xmo.map GMove.enc) (mkRows (xte.map Tm.enc) k).2).1), .c (.v (.bool xfu))], intV k] (intV (mkRows (xmo.map GMove.enc) (mkRows (xte.map Tm.enc) k).2).2) := by
  simp only [GSpace.wf] at hw
  have hc0 := mkRows_cnt (xte.map Tm.enc) k
  have hc1 := mkRows_cnt (xmo.map GMove.enc) (mkRows (xte.map Tm.enc) k).2
  refine satM_of_code 9000 tbOk mixed Try.func10 rfl rfl rfl (by decide +kernel) (by decide +kernel) (Nat.le_of_ble_eq_true rfl) rfl rfl rfl ?_
  simp -implicitDefEqProofs (disch := omega) only [go_sem]
  refine CallK.mut (markTermS_sat xte hw.1 k (by omega) (by omega)) ?_
  simp -implicitDefEqProofs (disch := omega) only [go_sem, Tm.args]
  refine CallK.mut (markMoveS_sat xmo hw.2.1 (mkRows (xte.map Tm.enc) k).2 (by omega) (by omega)) ?_
  simp -implicitDefEqProofs (disch := omega) only [go_sem, Tm.args]

end Go.Ai
