/- Texts of terms, guards and rules: FormatTerm, FormatGuard, FormatRule. -/
import Derived.Test.YtkcfegkfbijedaaDoorAiFR2
namespace Go.Ai
set_option linter.unusedVariables false
set_option linter.unusedSimpArgs false
open Go.Proofs
set_option maxRecDepth 100000

def textT (t : Tm) : ByteArray := if t.valid then t.text else sE
theorem textT_size (t : Tm) : (textT t).size ≤ 840 := by
  unfold textT
  split
  · rename_i h
    simp only [Tm.valid, Bool.and_eq_true, decide_eq_true_eq] at h
    have := (text_size t h.2).1; omega
  · decide
theorem textT_emp (t : Tm) : eqS (textT t) sE = !t.valid := by
  unfold textT
  cases h : t.valid
  · exact eqS_refl _
  · simp only [if_true, Bool.not_true]
    rw [eqS_ne]
    intro e
    simp only [Tm.valid, Bool.and_eq_true, decide_eq_true_eq] at h
    have := (text_size t h.2).2
    rw [e] at this
    exact absurd this (by decide)
theorem implFormatTerm_sat (t : Tm) (h : t.size < 1048577) : Sat Tryd.prog 62 [tmV t] (strV (textT t)) := by
  have hv := implValid_sat t (by omega)
  have hx := implText_sat t
  obtain ⟨r, hr⟩ : ∃ r, r = textT t := ⟨_, rfl⟩
  rw [← hr]
  unfold textT at hr
  obtain ⟨b, hb⟩ : ∃ b, b = t.valid := ⟨_, rfl⟩
  rw [← hb] at hv hr
  refine sat_of_code tbOk mixed Tryd.func62 rfl rfl rfl (by decide +kernel) (by decide +kernel) (Nat.le_of_ble_eq_true rfl) ?_
  simp -implicitDefEqProofs (disch := omega) only [go_sem]
  refine CallK.mk hv ?_
  simp -implicitDefEqProofs (disch := omega) only [go_sem]
  refine ⟨fun h1 => by rw [hr, h1]; rfl, fun h1 => ?_⟩
  have h2 := hb.symm.trans h1
  simp only [Tm.valid, Bool.and_eq_true, decide_eq_true_eq] at h2
  refine CallK.mk (hx h2.2 h2.1.1 h) ?_
  simp -implicitDefEqProofs (disch := omega) only [go_sem]
  rw [hr, h1]; rfl
theorem specFormatTerm_sat (t : Tm) (h : t.size < 1048577) : Sat Tryd.prog 44 [tmV t] (strV (textT t)) := by
  have hv := specValid_sat t (by omega)
  have hx := specText_sat t
  obtain ⟨r, hr⟩ : ∃ r, r = textT t := ⟨_, rfl⟩
  rw [← hr]
  unfold textT at hr
  obtain ⟨b, hb⟩ : ∃ b, b = t.valid := ⟨_, rfl⟩
  rw [← hb] at hv hr
  refine sat_of_code tbOk mixed Tryd.func44 rfl rfl rfl (by decide +kernel) (by decide +kernel) (Nat.le_of_ble_eq_true rfl) ?_
  simp -implicitDefEqProofs (disch := omega) only [go_sem]
  refine CallK.mk hv ?_
  simp -implicitDefEqProofs (disch := omega) only [go_sem]
  refine ⟨fun h1 => by rw [hr, h1]; rfl, fun h1 => ?_⟩
  have h2 := hb.symm.trans h1
  simp only [Tm.valid, Bool.and_eq_true, decide_eq_true_eq] at h2
  refine CallK.mk (hx h2.2 h2.1.1 h) ?_
  simp -implicitDefEqProofs (disch := omega) only [go_sem]
  rw [hr, h1]; rfl
def signF (k : Int) : ByteArray := if k = 1 then ⟨#[32, 61, 61, 32]⟩ else if k = 2 then ⟨#[32, 33, 61, 32]⟩ else if k = 3 then ⟨#[32, 60, 32]⟩ else sE
theorem signF_size (k : Int) : (signF k).size ≤ 4 := by
  unfold signF
  split
  · decide
  · split
    · decide
    · split <;> decide
theorem signF_emp (k : Int) : eqS (signF k) sE = !guardK k := by
  unfold signF guardK
  split
  · subst_vars; rw [(eqS_ne _ _).2 (by decide)]; rfl
  · split
    · subst_vars; rw [(eqS_ne _ _).2 (by decide)]; rfl
    · split
      · subst_vars; rw [(eqS_ne _ _).2 (by decide)]; rfl
      · rw [eqS_refl]
        have : ¬ (1 ≤ k ∧ k ≤ 3) := by omega
        symm
        simp only [Bool.not_eq_true', Bool.and_eq_false_iff, decide_eq_false_iff_not]
        omega
theorem specSignF_sat (k : Int) : Sat Tryd.prog 60 [intV k] (strV (signF k)) := by
  by_cases hk : 1 ≤ k ∧ k ≤ 3
  · have h3 : k = 1 ∨ k = 2 ∨ k = 3 := by omega
    rcases h3 with rfl | rfl | rfl
    all_goals
      refine sat_of_code tbOk mixed Tryd.func60 rfl rfl rfl (by decide +kernel) (by decide +kernel) (Nat.le_of_ble_eq_true rfl) ?_
      simp -implicitDefEqProofs (disch := omega) only [go_sem]
      refine CallK.mk (l1In_sat _ 1 3) ?_
      simp -implicitDefEqProofs (disch := omega) only [go_sem, Int.reduceToNat, Int.reduceLE, Int.reduceLT, decide_true, Bool.and_self, Int.cast_ofNat_Int]
      rfl
  · have hb := l1In_sat k 1 3
    have hf : (decide (1 ≤ k) && decide (k ≤ 3)) = false := by
      simp only [Bool.and_eq_false_iff, decide_eq_false_iff_not]; omega
    rw [hf] at hb
    refine sat_of_code tbOk mixed Tryd.func60 rfl rfl rfl (by decide +kernel) (by decide +kernel) (Nat.le_of_ble_eq_true rfl) ?_
    simp -implicitDefEqProofs (disch := omega) only [go_sem]
    refine CallK.mk hb ?_
    simp -implicitDefEqProofs (disch := omega) only [go_sem]
    unfold signF
    rw [if_neg (by omega), if_neg (by omega), if_neg (by omega)]
theorem implGuardKindF_sat (k : Int) : Sat Tryd.prog 75 [intV k] (boolV (guardK k)) := by
  refine sat_of_code tbOk mixed Tryd.func75 rfl rfl rfl (by decide +kernel) (by decide +kernel) (Nat.le_of_ble_eq_true rfl) ?_
  simp -implicitDefEqProofs (disch := omega) only [go_sem]
  unfold guardK
  grind
theorem implBetween_sat (k : Int) (hk : guardK k = true) : Sat Tryd.prog 76 [intV k] (strV (signF k)) := by
  simp only [guardK, Bool.and_eq_true, decide_eq_true_eq] at hk
  have h3 : k = 1 ∨ k = 2 ∨ k = 3 := by omega
  rcases h3 with rfl | rfl | rfl
  all_goals
    refine sat_of_code tbOk mixed Tryd.func76 rfl rfl rfl (by decide +kernel) (by decide +kernel) (Nat.le_of_ble_eq_true rfl) ?_
    simp -implicitDefEqProofs (disch := omega) only [go_sem, Int.reduceSub, Int.reduceToNat, Int.reduceLE, Int.reduceLT, decide_true, Bool.and_self, Int.cast_ofNat_Int]
    rfl
def textG (g : GGuard) : ByteArray := if guardK g.kd && (g.le.valid && g.ri.valid) then textT g.le ++ signF g.kd ++ textT g.ri else sE
theorem textG_size (g : GGuard) : (textG g).size ≤ 1684 := by
  have h1 := textT_size g.le
  have h2 := textT_size g.ri
  have h3 := signF_size g.kd
  unfold textG
  split
  · rw [ByteArray.size_append, ByteArray.size_append]; omega
  · decide
theorem implFormatGuard_sat (g : GGuard) (h : g.size < 1048577) : Sat Tryd.prog 63 [aggV g.enc] (strV (textG g)) := by
  obtain ⟨kd, le, ri⟩ := g
  simp only [GGuard.size] at h
  have hk := implGuardKindF_sat kd
  have hl := implValid_sat le (by omega)
  have hr := implValid_sat ri (by omega)
  have hlt := implFormatTerm_sat le (by omega)
  have hrt := implFormatTerm_sat ri (by omega)
  have hb := implBetween_sat kd
  have sl := textT_size le
  have sr := textT_size ri
  have sk := signF_size kd
  obtain ⟨r, hr0⟩ : ∃ r, r = textG ⟨kd, le, ri⟩ := ⟨_, rfl⟩
  rw [← hr0]
  unfold textG at hr0
  simp only at hr0
  generalize guardK kd = b1 at *
  generalize le.valid = b2 at *
  generalize ri.valid = b3 at *
  generalize textT le = tl at *
  generalize textT ri = tr at *
  generalize signF kd = sn at *
  obtain ⟨lk, ln, ls, lt⟩ := le
  obtain ⟨rk, rn, rs, rt⟩ := ri
  refine sat_of_code tbOk mixed Tryd.func63 rfl rfl rfl (by decide +kernel) (by decide +kernel) (Nat.le_of_ble_eq_true rfl) ?_
  simp -implicitDefEqProofs (disch := omega) only [go_sem, GGuard.enc, Tm.enc, encI, List.cons_append, List.nil_append]
  refine CallK.mk hk ?_
  simp -implicitDefEqProofs (disch := omega) only [go_sem, List.cons_append, List.nil_append]
  refine ⟨fun k1 => CallK.mk hl ?_, fun k1 => by rw [hr0, k1]; rfl⟩
  simp -implicitDefEqProofs (disch := omega) only [go_sem, List.cons_append, List.nil_append]
  refine ⟨fun k2 => CallK.mk hr ?_, fun k2 => by rw [hr0, k2, Bool.false_and, Bool.and_false]; rfl⟩
  simp -implicitDefEqProofs (disch := omega) only [go_sem, List.cons_append, List.nil_append]
  refine ⟨fun k3 => by rw [hr0, k3, Bool.and_false, Bool.and_false]; rfl, fun k3 => CallK.mk hlt ?_⟩
  simp -implicitDefEqProofs (disch := omega) only [go_sem, List.cons_append, List.nil_append]
  refine CallK.mk (hb k1) ?_
  simp -implicitDefEqProofs (disch := omega) only [go_sem, List.cons_append, List.nil_append]
  refine ⟨by omega, fun _ => CallK.mk hrt ?_⟩
  simp -implicitDefEqProofs (disch := omega) only [go_sem]
  refine ⟨by omega, fun _ => by rw [hr0, k1, k2, k3]; rfl⟩
theorem specFormatGuard_sat (g : GGuard) (h : g.size < 1048577) : Sat Tryd.prog 45 [aggV g.enc] (strV (textG g)) := by
  obtain ⟨kd, le, ri⟩ := g
  simp only [GGuard.size] at h
  have hk := specSignF_sat kd
  have hlt := specFormatTerm_sat le (by omega)
  have hrt := specFormatTerm_sat ri (by omega)
  have sl := textT_size le
  have sr := textT_size ri
  have sk := signF_size kd
  have el := textT_emp le
  have er := textT_emp ri
  have ek := signF_emp kd
  obtain ⟨r, hr0⟩ : ∃ r, r = textG ⟨kd, le, ri⟩ := ⟨_, rfl⟩
  rw [← hr0]
  unfold textG at hr0
  simp only at hr0
  generalize guardK kd = b1 at *
  generalize le.valid = b2 at *
  generalize ri.valid = b3 at *
  generalize textT le = tl at *
  generalize textT ri = tr at *
  generalize signF kd = sn at *
  obtain ⟨lk, ln, ls, lt⟩ := le
  obtain ⟨rk, rn, rs, rt⟩ := ri
  refine sat_of_code tbOk mixed Tryd.func45 rfl rfl rfl (by decide +kernel) (by decide +kernel) (Nat.le_of_ble_eq_true rfl) ?_
  simp -implicitDefEqProofs (disch := omega) only [go_sem, GGuard.enc, Tm.enc, encI, List.cons_append, List.nil_append]
  refine CallK.mk hlt ?_
  simp -implicitDefEqProofs (disch := omega) only [go_sem, GGuard.enc, Tm.enc, encI, List.cons_append, List.nil_append]
  refine CallK.mk hrt ?_
  simp -implicitDefEqProofs (disch := omega) only [go_sem, GGuard.enc, Tm.enc, encI, List.cons_append, List.nil_append]
  refine CallK.mk hk ?_
  simp -implicitDefEqProofs (disch := omega) only [go_sem]
  have d : sE.toList = (⟨#[]⟩ : ByteArray).toList := rfl
  refine ⟨fun k1 => ⟨fun k2 => ⟨fun k3 => ?_, fun k3 => ⟨by omega, fun _ => ⟨by omega, fun _ => ?_⟩⟩⟩, fun k2 => ?_⟩, fun k1 => ?_⟩
  · have : b1 = false := by rw [eqS, d, k3, beq_self_eq_true] at ek; simpa using ek.symm
    rw [hr0, this]; rfl
  · have e1 : b1 = true := by rw [eqS, d, k3] at ek; simpa using ek.symm
    have e2 : b2 = true := by rw [eqS, d, k1] at el; simpa using el.symm
    have e3 : b3 = true := by rw [eqS, d, k2] at er; simpa using er.symm
    rw [hr0, e1, e2, e3]; rfl
  · have : b3 = false := by rw [eqS, d, k2, beq_self_eq_true] at er; simpa using er.symm
    rw [hr0, this, Bool.and_false, Bool.and_false]; rfl
  · have : b2 = false := by rw [eqS, d, k1, beq_self_eq_true] at el; simpa using el.symm
    rw [hr0, this, Bool.false_and, Bool.and_false]; rfl
abbrev sIf : ByteArray := ⟨#[32, 105, 102, 32]⟩
abbrev sAnd : ByteArray := ⟨#[32, 38, 32]⟩
def atG (gs : List GGuard) (i : Nat) : ByteArray := ((gs[i]?).map textG).getD sE
def outG (o : ByteArray) (gs : List GGuard) : Nat → ByteArray
  | 0 => o
  | i + 1 => outG o gs i ++ (if i = 0 then sIf else sAnd) ++ atG gs i
theorem atG_size (gs : List GGuard) (i : Nat) : (atG gs i).size ≤ 1684 := by
  unfold atG
  cases gs[i]? with
  | none => decide
  | some g => exact textG_size g
theorem outG_size (o : ByteArray) (gs : List GGuard) (i : Nat) : (outG o gs i).size ≤ o.size + 1688 * i := by
  induction i with
  | zero => simp [outG]
  | succ i ih =>
    have := atG_size gs i
    have h2 : (if i = 0 then sIf else sAnd).size ≤ 4 := by split <;> decide
    rw [outG, ByteArray.size_append, ByteArray.size_append]; omega
theorem outG_app (p o : ByteArray) (gs : List GGuard) (i : Nat) : p ++ outG o gs i = outG (p ++ o) gs i := by
  induction i with
  | zero => rfl
  | succ i ih => rw [outG, outG, ← ih]; simp only [ByteArray.append_assoc]
abbrev sArrow : ByteArray := ⟨#[32, 61, 62, 32]⟩
abbrev sRule : ByteArray := ⟨#[114, 117, 108, 101, 32]⟩
abbrev sColon : ByteArray := ⟨#[58, 32]⟩
def textR (x : GRule) : ByteArray := outG (sRule ++ x.na ++ sColon ++ textT x.le ++ sArrow ++ textT x.ri) x.gu x.gu.length
theorem f4a : (#[32, 105, 102, 32] : Array UInt8).size = 4 := rfl
theorem f3 : (#[32, 38, 32] : Array UInt8).size = 3 := rfl
theorem f4b : (#[32, 61, 62, 32] : Array UInt8).size = 4 := rfl
theorem f5 : (#[114, 117, 108, 101, 32] : Array UInt8).size = 5 := rfl
theorem f2 : (#[58, 32] : Array UInt8).size = 2 := rfl
theorem implSides_sat (le ri : Tm) (gs : List GGuard) (h1 : le.size < 1048577) (h2 : ri.size < 1048577) (h3 : szL GGuard.size gs < 1048577) : Sat Tryd.prog 47 [tmV le, tmV ri, slV (gs.map GGuard.enc)] (strV (outG (textT le ++ sArrow ++ textT ri) gs gs.length)) := by
  have hlt := implFormatTerm_sat le h1
  have hrt := implFormatTerm_sat ri h2
  have sl := textT_size le
  have sr := textT_size ri
  have hlen := len_szL GGuard.size gs
  generalize textT le = tl at *
  generalize textT ri = tr at *
  refine sat_of_code tbOk mixed Tryd.func47 rfl rfl rfl (by decide +kernel) (by decide +kernel) (Nat.le_of_ble_eq_true rfl) ?_
  simp -implicitDefEqProofs (disch := omega) only [go_sem]
  refine CallK.mk hlt ?_
  simp -implicitDefEqProofs (disch := omega) only [go_sem]
  refine ⟨by rw [f4b]; omega, fun _ => CallK.mk hrt ?_⟩
  simp -implicitDefEqProofs (disch := omega) only [go_sem]
  refine ⟨by rw [f4b]; omega, fun _ => ?_⟩
  have os := outG_size (tl ++ sArrow ++ tr) gs
  have hq : (tl ++ sArrow ++ tr).size ≤ 2000 := by rw [ByteArray.size_append, ByteArray.size_append]; have : sArrow.size = 4 := rfl; omega
  refine loopA_rule (ι := Nat) (fun i => mk 35 [(16, slV (gs.map GGuard.enc)), (17, intV gs.length), (18, intV i), (7, strV (outG (tl ++ sArrow ++ tr) gs i))] [])
    (fun i => i ≤ gs.length) (fun i => gs.length - i) 0 (Nat.zero_le _) ?_ tbOk mixed (by decide +kernel) ?_
  · exact le_mk (by simp [go_sem, outG]) (by simp [go_sem])
  · intro i hi
    have osi := os i
    rcases Nat.lt_or_ge i gs.length with hlt | hge
    · have hgd := map_getD (ec := GGuard.enc) hlt
      have hms := szL_mem GGuard.size gs _ (List.getElem_mem hlt)
      have hst : outG (tl ++ sArrow ++ tr) gs (i + 1) = outG (tl ++ sArrow ++ tr) gs i ++ (if i = 0 then sIf else sAnd) ++ textG gs[i] := by
        rw [outG, atG, List.getElem?_eq_getElem hlt]; rfl
      have hih := implFormatGuard_sat gs[i] (by omega)
      have hgz := textG_size gs[i]
      generalize textG gs[i] = tg at *
      generalize gs[i] = g at *
      generalize outG (tl ++ sArrow ++ tr) gs i = o at *
      simp -implicitDefEqProofs (disch := omega) only [go_sem, hgd, hlt]
      refine ⟨fun h0 => ⟨by rw [f4a]; omega, fun _ => CallK.mk hih ?_⟩, fun h0 => ⟨by rw [f3]; omega, fun _ => CallK.mk hih ?_⟩⟩
      · have h0 : i = 0 := by omega
        rw [if_pos h0] at hst
        simp -implicitDefEqProofs (disch := omega) only [go_sem]
        refine ⟨by rw [f4a]; omega, fun _ => ⟨i + 1, by omega, by omega, ?_⟩⟩
        rw [hst]
        exact le_mk (by simp [go_sem]) (by simp [go_sem])
      · have h0 : ¬ i = 0 := by have : ¬ (i : Int) = 0 := by simpa using h0
                                omega
        rw [if_neg h0] at hst
        simp -implicitDefEqProofs (disch := omega) only [go_sem]
        refine ⟨by rw [f3]; omega, fun _ => ⟨i + 1, by omega, by omega, ?_⟩⟩
        rw [hst]
        exact le_mk (by simp [go_sem]) (by simp [go_sem])
    · have : i = gs.length := by omega
      subst this
      simp -implicitDefEqProofs (disch := omega) only [go_sem, Nat.lt_irrefl]
theorem implFormatRule_sat (x : GRule) (h : x.size < 1048577) : Sat Tryd.prog 25 [aggV x.enc] (strV (textR x)) := by
  obtain ⟨na, le, ri, gu⟩ := x
  simp only [GRule.size, szS] at h
  have hsd := implSides_sat le ri gu (by omega) (by omega) (by omega)
  have hlen := len_szL GGuard.size gu
  have sl := textT_size le
  have sr := textT_size ri
  have os := outG_size (textT le ++ sArrow ++ textT ri) gu gu.length
  have hq : (textT le ++ sArrow ++ textT ri).size ≤ 2000 := by rw [ByteArray.size_append, ByteArray.size_append]; have : sArrow.size = 4 := rfl; omega
  obtain ⟨r, hr0⟩ : ∃ r, r = textR ⟨na, le, ri, gu⟩ := ⟨_, rfl⟩
  rw [← hr0]
  unfold textR at hr0
  have hap := outG_app (sRule ++ na ++ sColon) (textT le ++ sArrow ++ textT ri) gu gu.length
  simp only [← ByteArray.append_assoc] at hap
  simp only at hr0
  rw [← hap] at hr0
  generalize outG (textT le ++ sArrow ++ textT ri) gu gu.length = o at *
  obtain ⟨lk, ln, ls, lt⟩ := le
  obtain ⟨rk, rn, rs, rt⟩ := ri
  refine sat_of_code tbOk mixed Tryd.func25 rfl rfl rfl (by decide +kernel) (by decide +kernel) (Nat.le_of_ble_eq_true rfl) ?_
  simp -implicitDefEqProofs (disch := omega) only [go_sem, GRule.enc, Tm.enc, encS, encL, List.cons_append, List.nil_append]
  refine ⟨by rw [f5]; omega, fun _ => ⟨by rw [f5, f2]; omega, fun _ => CallK.mk hsd ?_⟩⟩
  simp -implicitDefEqProofs (disch := omega) only [go_sem]
  refine ⟨by rw [f5, f2]; omega, fun _ => ?_⟩
  rw [hr0]
theorem specFormatRule_sat (x : GRule) (h : x.size < 1048577) : Sat Tryd.prog 23 [aggV x.enc] (strV (textR x)) := by
  obtain ⟨na, le, ri, gs⟩ := x
  simp only [GRule.size, szS] at h
  have hlen := len_szL GGuard.size gs
  have hlt := specFormatTerm_sat le (by omega)
  have hrt := specFormatTerm_sat ri (by omega)
  have sl := textT_size le
  have sr := textT_size ri
  obtain ⟨r, hr0⟩ : ∃ r, r = textR ⟨na, le, ri, gs⟩ := ⟨_, rfl⟩
  rw [← hr0]
  unfold textR at hr0
  simp only at hr0
  generalize textT le = tl at *
  generalize textT ri = tr at *
  obtain ⟨lk, ln, ls, lt⟩ := le
  obtain ⟨rk, rn, rs, rt⟩ := ri
  refine sat_of_code tbOk mixed Tryd.func23 rfl rfl rfl (by decide +kernel) (by decide +kernel) (Nat.le_of_ble_eq_true rfl) ?_
  simp -implicitDefEqProofs (disch := omega) only [go_sem, GRule.enc, Tm.enc, encS, encL, List.cons_append, List.nil_append]
  refine ⟨by rw [f5]; omega, fun _ => ⟨by rw [f5, f2]; omega, fun _ => CallK.mk hlt ?_⟩⟩
  simp -implicitDefEqProofs (disch := omega) only [go_sem, List.cons_append, List.nil_append]
  refine ⟨by rw [f5, f2]; omega, fun _ => ⟨by rw [f5, f2, f4b]; omega, fun _ => CallK.mk hrt ?_⟩⟩
  simp -implicitDefEqProofs (disch := omega) only [go_sem, List.cons_append, List.nil_append]
  refine ⟨by rw [f5, f2, f4b]; omega, fun _ => ?_⟩
  have os := outG_size (sRule ++ na ++ sColon ++ tl ++ sArrow ++ tr) gs
  have hq : (sRule ++ na ++ sColon ++ tl ++ sArrow ++ tr).size ≤ 1100000 := by
    simp only [ByteArray.size_append]
    have : sArrow.size = 4 := rfl
    have : sRule.size = 5 := rfl
    have : sColon.size = 2 := rfl
    omega
  have ho0 : sRule ++ na ++ sColon ++ tl ++ sArrow ++ tr = outG (sRule ++ na ++ sColon ++ tl ++ sArrow ++ tr) gs 0 := rfl
  generalize sRule ++ na ++ sColon ++ tl ++ sArrow ++ tr = pp at *
  refine loopA_rule (ι := Nat) (fun i => mk 40 [(1, .one (.ptr 1 0)), (4, intV i), (3, strV (outG pp gs i))] [(1, .var (AC.c (C.v (Value.string na)) :: (Tm.mk lk ln ls lt).enc.map AC.c ++ (Tm.mk rk rn rs rt).enc.map AC.c ++ [AC.c (C.sl (gs.map GGuard.enc))]))])
    (fun i => i ≤ gs.length) (fun i => gs.length - i) 0 (Nat.zero_le _) ?_ tbOk mixed (by decide +kernel) ?_
  · refine le_mk ?_ ?_
    · simp only [outG]; simp [go_sem]
    · simp [go_sem, Tm.enc]
  · intro i hi
    have osi := os i
    rcases Nat.lt_or_ge i gs.length with hlt | hge
    · have hgd := map_getD (ec := GGuard.enc) hlt
      have hms := szL_mem GGuard.size gs _ (List.getElem_mem hlt)
      have hst : outG pp gs (i + 1) = outG pp gs i ++ (if i = 0 then sIf else sAnd) ++ textG gs[i] := by
        rw [outG, atG, List.getElem?_eq_getElem hlt]; rfl
      have hih := specFormatGuard_sat gs[i] (by omega)
      have hgz := textG_size gs[i]
      generalize textG gs[i] = tg at *
      generalize gs[i] = g at *
      generalize outG pp gs i = o at *
      simp -implicitDefEqProofs (disch := omega) only [go_sem, hgd, hlt, Tm.enc]
      refine ⟨fun h0 => ⟨by rw [f4a]; omega, fun _ => CallK.mk hih ?_⟩, fun h0 => ⟨by rw [f3]; omega, fun _ => CallK.mk hih ?_⟩⟩
      · have h0 : i = 0 := by omega
        rw [if_pos h0] at hst
        simp -implicitDefEqProofs (disch := omega) only [go_sem]
        refine ⟨by rw [f4a]; omega, fun _ => ⟨i + 1, by omega, by omega, ?_⟩⟩
        rw [hst]
        exact le_mk (by simp [go_sem]) (by simp [go_sem, Tm.enc])
      · have h0 : ¬ i = 0 := by have : ¬ (i : Int) = 0 := by simpa using h0
                                omega
        rw [if_neg h0] at hst
        simp -implicitDefEqProofs (disch := omega) only [go_sem]
        refine ⟨by rw [f3]; omega, fun _ => ⟨i + 1, by omega, by omega, ?_⟩⟩
        rw [hst]
        exact le_mk (by simp [go_sem]) (by simp [go_sem, Tm.enc])
    · have : i = gs.length := by omega
      subst this
      simp -implicitDefEqProofs (disch := omega) only [go_sem, Nat.lt_irrefl, Tm.enc]
      rw [hr0]
end Go.Ai
