/- Definitions: written by mk6.py. -/
import Derived.Test.YtkcfegkfbijedaaDoorAiC1
import Derived.Test.YtkcfegkfbijedaaDoorAiKinds
namespace Go.Ai
set_option linter.unusedVariables false
set_option linter.unusedSimpArgs false
open Go.Proofs Go.RowKit Go.ChangeShapes
set_option maxRecDepth 100000

structure GGuard where
  kd : Int
  le : Tm
  ri : Tm
def GGuard.enc (x : GGuard) : List C := encI x.kd ++ (Tm.enc x.le ++ (Tm.enc x.ri))
def GGuard.size (x : GGuard) : Nat := szI x.kd + Tm.size x.le + Tm.size x.ri
def GGuard.wf (x : GGuard) : Prop := wfI x.kd ∧ Tm.wf x.le ∧ Tm.wf x.ri
def GGuard.eqb (x y : GGuard) : Bool := eqI x.kd y.kd && (Tm.eqb x.le y.le && (Tm.eqb x.ri y.ri))
theorem GGuard.enc_len (x : GGuard) : x.enc.length = 9 := by simp [GGuard.enc, encI, encS, encB, encL, Go.Ai.enc_len]
theorem GGuard.enc_take (x : GGuard) : x.enc.take 9 = x.enc := List.take_of_length_le (by rw [GGuard.enc_len]; exact Nat.le_refl _)
theorem GGuard.encm_take (x : GGuard) : (x.enc.map AC.c).take 9 = x.enc.map AC.c := List.take_of_length_le (by rw [List.length_map, GGuard.enc_len]; exact Nat.le_refl _)
attribute [go_sem] GGuard.enc_len GGuard.enc_take GGuard.encm_take
theorem GGuard.eqb_refl (x : GGuard) : x.eqb x = true := by simp only [GGuard.eqb, eqI_refl x.kd, Tm.eqb_refl x.le, Tm.eqb_refl x.ri, Bool.and_self]

structure GRule where
  na : ByteArray
  le : Tm
  ri : Tm
  gu : List GGuard
def GRule.enc (x : GRule) : List C := encS x.na ++ (Tm.enc x.le ++ (Tm.enc x.ri ++ (encL GGuard.enc x.gu)))
def GRule.size (x : GRule) : Nat := szS x.na + Tm.size x.le + Tm.size x.ri + (szL GGuard.size) x.gu
def GRule.wf (x : GRule) : Prop := wfS x.na ∧ Tm.wf x.le ∧ Tm.wf x.ri ∧ (wfL GGuard.wf) x.gu
def GRule.eqb (x y : GRule) : Bool := eqS x.na y.na && (Tm.eqb x.le y.le && (Tm.eqb x.ri y.ri && ((eqL GGuard.eqb) x.gu y.gu)))
theorem GRule.enc_len (x : GRule) : x.enc.length = 10 := by simp [GRule.enc, encI, encS, encB, encL, Go.Ai.enc_len]
theorem GRule.enc_take (x : GRule) : x.enc.take 10 = x.enc := List.take_of_length_le (by rw [GRule.enc_len]; exact Nat.le_refl _)
theorem GRule.encm_take (x : GRule) : (x.enc.map AC.c).take 10 = x.enc.map AC.c := List.take_of_length_le (by rw [List.length_map, GRule.enc_len]; exact Nat.le_refl _)
attribute [go_sem] GRule.enc_len GRule.enc_take GRule.encm_take
theorem GRule.eqb_refl (x : GRule) : x.eqb x = true := by simp only [GRule.eqb, eqS_refl x.na, Tm.eqb_refl x.le, Tm.eqb_refl x.ri, (eqL_refl GGuard.eqb_refl) x.gu, Bool.and_self]

structure GOp where
  na : ByteArray
  ar : List ByteArray
  re : ByteArray
def GOp.enc (x : GOp) : List C := encS x.na ++ (encL encS x.ar ++ (encS x.re))
def GOp.size (x : GOp) : Nat := szS x.na + (szL szS) x.ar + szS x.re
def GOp.wf (x : GOp) : Prop := wfS x.na ∧ (wfL wfS) x.ar ∧ wfS x.re
def GOp.eqb (x y : GOp) : Bool := eqS x.na y.na && ((eqL eqS) x.ar y.ar && (eqS x.re y.re))
theorem GOp.enc_len (x : GOp) : x.enc.length = 3 := by simp [GOp.enc, encI, encS, encB, encL, Go.Ai.enc_len]
theorem GOp.enc_take (x : GOp) : x.enc.take 3 = x.enc := List.take_of_length_le (by rw [GOp.enc_len]; exact Nat.le_refl _)
theorem GOp.encm_take (x : GOp) : (x.enc.map AC.c).take 3 = x.enc.map AC.c := List.take_of_length_le (by rw [List.length_map, GOp.enc_len]; exact Nat.le_refl _)
attribute [go_sem] GOp.enc_len GOp.enc_take GOp.encm_take
theorem GOp.eqb_refl (x : GOp) : x.eqb x = true := by simp only [GOp.eqb, eqS_refl x.na, (eqL_refl eqS_refl) x.ar, eqS_refl x.re, Bool.and_self]

structure GSignature where
  so : List ByteArray
  op : List GOp
def GSignature.enc (x : GSignature) : List C := encL encS x.so ++ (encL GOp.enc x.op)
def GSignature.size (x : GSignature) : Nat := (szL szS) x.so + (szL GOp.size) x.op
def GSignature.wf (x : GSignature) : Prop := (wfL wfS) x.so ∧ (wfL GOp.wf) x.op
def GSignature.eqb (x y : GSignature) : Bool := (eqL eqS) x.so y.so && ((eqL GOp.eqb) x.op y.op)
theorem GSignature.enc_len (x : GSignature) : x.enc.length = 2 := by simp [GSignature.enc, encI, encS, encB, encL, Go.Ai.enc_len]
theorem GSignature.enc_take (x : GSignature) : x.enc.take 2 = x.enc := List.take_of_length_le (by rw [GSignature.enc_len]; exact Nat.le_refl _)
theorem GSignature.encm_take (x : GSignature) : (x.enc.map AC.c).take 2 = x.enc.map AC.c := List.take_of_length_le (by rw [List.length_map, GSignature.enc_len]; exact Nat.le_refl _)
attribute [go_sem] GSignature.enc_len GSignature.enc_take GSignature.encm_take
theorem GSignature.eqb_refl (x : GSignature) : x.eqb x = true := by simp only [GSignature.eqb, (eqL_refl eqS_refl) x.so, (eqL_refl GOp.eqb_refl) x.op, Bool.and_self]

structure GStrict where
  op : ByteArray
  ar : Int
def GStrict.enc (x : GStrict) : List C := encS x.op ++ (encI x.ar)
def GStrict.size (x : GStrict) : Nat := szS x.op + szI x.ar
def GStrict.wf (x : GStrict) : Prop := wfS x.op ∧ wfI x.ar
def GStrict.eqb (x y : GStrict) : Bool := eqS x.op y.op && (eqI x.ar y.ar)
theorem GStrict.enc_len (x : GStrict) : x.enc.length = 2 := by simp [GStrict.enc, encI, encS, encB, encL, Go.Ai.enc_len]
theorem GStrict.enc_take (x : GStrict) : x.enc.take 2 = x.enc := List.take_of_length_le (by rw [GStrict.enc_len]; exact Nat.le_refl _)
theorem GStrict.encm_take (x : GStrict) : (x.enc.map AC.c).take 2 = x.enc.map AC.c := List.take_of_length_le (by rw [List.length_map, GStrict.enc_len]; exact Nat.le_refl _)
attribute [go_sem] GStrict.enc_len GStrict.enc_take GStrict.encm_take
theorem GStrict.eqb_refl (x : GStrict) : x.eqb x = true := by simp only [GStrict.eqb, eqS_refl x.op, eqI_refl x.ar, Bool.and_self]

structure GDefinition where
  si : GSignature
  ru : List GRule
  st : List GStrict
def GDefinition.enc (x : GDefinition) : List C := GSignature.enc x.si ++ (encL GRule.enc x.ru ++ (encL GStrict.enc x.st))
def GDefinition.size (x : GDefinition) : Nat := GSignature.size x.si + (szL GRule.size) x.ru + (szL GStrict.size) x.st
def GDefinition.wf (x : GDefinition) : Prop := GSignature.wf x.si ∧ (wfL GRule.wf) x.ru ∧ (wfL GStrict.wf) x.st
def GDefinition.eqb (x y : GDefinition) : Bool := GSignature.eqb x.si y.si && ((eqL GRule.eqb) x.ru y.ru && ((eqL GStrict.eqb) x.st y.st))
theorem GDefinition.enc_len (x : GDefinition) : x.enc.length = 4 := by simp [GDefinition.enc, encI, encS, encB, encL, Go.Ai.enc_len, GSignature.enc_len]
theorem GDefinition.enc_take (x : GDefinition) : x.enc.take 4 = x.enc := List.take_of_length_le (by rw [GDefinition.enc_len]; exact Nat.le_refl _)
theorem GDefinition.encm_take (x : GDefinition) : (x.enc.map AC.c).take 4 = x.enc.map AC.c := List.take_of_length_le (by rw [List.length_map, GDefinition.enc_len]; exact Nat.le_refl _)
attribute [go_sem] GDefinition.enc_len GDefinition.enc_take GDefinition.encm_take
theorem GDefinition.eqb_refl (x : GDefinition) : x.eqb x = true := by simp only [GDefinition.eqb, GSignature.eqb_refl x.si, (eqL_refl GRule.eqb_refl) x.ru, (eqL_refl GStrict.eqb_refl) x.st, Bool.and_self]

abbrev zInt : List AC := [iC 0]
theorem toIntS_sat (xs : List Int) (hs : szL szI xs < 1048577) : Sat Tryd.prog 9 [slV (xs.map encI)] (slV (xs.map encI)) := by
  have hl := len_szL szI xs
  refine sat_of_code tbOk mixed Tryd.func9 rfl rfl rfl (by decide +kernel) (by decide +kernel) (Nat.le_of_ble_eq_true rfl) ?_
  simp -implicitDefEqProofs (disch := omega) only [go_sem]
  refine ⟨⟨by omega, by omega⟩, fun _ => ?_⟩
  refine loopA_rule (ι := Nat) (fun i => mk 22 [(0, slV (xs.map encI)), (3, .one (.own 7 xs.length)), (4, intV i)] [(7, .arr 3 1 (rowsAt encI zInt xs i) false)]) (fun i => i ≤ xs.length) (fun i => xs.length - i) 0 (Nat.zero_le _) ?_ tbOk mixed (by decide +kernel) ?_
  · exact le_mk (by simp [go_sem]) (by simp [go_sem, rowsAt_zero, List.mem_replicate])
  · intro i hi
    have hlen := rowsAt_len (ec := encI) (z := zInt) hi
    rcases Nat.lt_or_ge i xs.length with hlt | hge
    · have hg := map_getD (ec := encI) hlt
      have hr := rowsAt_get (ec := encI) (z := zInt) hlt
      have hset := rowsAt_set (ec := encI) (z := zInt) hlt
      simp only [encI, List.map_cons, List.map_nil] at hg hset
      simp -implicitDefEqProofs (disch := omega) only [go_sem, hg, hlt, hlen, hr, hset]
      refine ⟨by simp [zInt, unD], fun _ => ⟨i + 1, hlt, by omega, le_mk (by simp [go_sem]) ?_⟩⟩
      simp only [leB, lookB_cons, if_true, inB, true_and, and_true]
      exact rowsAt_inC (by simp [zInt, inC])
    · have : i = xs.length := by omega
      subst this
      have hv := rowsAt_view (ec := encI) (z := zInt) (Nat.le_refl xs.length)
      simp -implicitDefEqProofs (disch := omega) only [go_sem, hlen, hv, Nat.lt_irrefl]
      exact rowsAt_isV (Nat.le_refl _)

theorem eqIntS_sat (xs : List Int) (hw : wfL wfI xs) (ys : List Int) : Sat Tryd.prog 12 [slV (xs.map encI), slV (ys.map encI)] (boolV (eqL eqI xs ys)) := by
  have hl := hw.1
  simp only [maxLen] at hl
  refine sat_of_code tbOk mixed Tryd.func12 rfl rfl rfl (by decide +kernel) (by decide +kernel) (Nat.le_of_ble_eq_true rfl) ?_
  simp -implicitDefEqProofs (disch := omega) only [go_sem]
  refine ⟨fun h4 => ?_, fun h4 => ?_⟩
  · rw [eqL_len eqI xs ys (by omega)]
  · have hll : xs.length = ys.length := by simp at h4; omega
    refine loopA_rule (ι := Nat) (fun i => mk 26 [(0, slV (xs.map encI)), (1, slV (ys.map encI)), (5, intV i)] [])
      (fun i => i ≤ xs.length ∧ eqL eqI (xs.drop i) (ys.drop i) = eqL eqI xs ys) (fun i => xs.length - i) 0 ⟨Nat.zero_le _, by simp⟩ ?_ tbOk mixed (by decide +kernel) ?_
    · exact le_mk (by simp [go_sem]) (by simp [go_sem])
    · rintro i ⟨hi, he⟩
      rcases Nat.lt_or_ge i xs.length with hlt | hge
      · have hlt' : i < ys.length := by omega
        have hg := map_getD (ec := encI) hlt
        have hg' := map_getD (ec := encI) hlt'
        rw [eqL_drop eqI xs ys i hlt hlt'] at he
        have hx := hw.2 _ (List.getElem_mem hlt)
        generalize xs[i] = x at hg he hx
        generalize ys[i] = y at hg' he
        simp only [encI] at hg hg'
        simp only [eqI] at he
        simp -implicitDefEqProofs (disch := omega) only [go_sem, hg, hg', hlt, hlt']
        refine ⟨fun h => ?_, fun h => ⟨i + 1, ⟨hlt, ?_⟩, by omega, le_mk (by simp [go_sem]) (by simp [go_sem])⟩⟩
        · grind
        · grind
      · have e1 : xs.drop i = [] := List.drop_of_length_le hge
        have e2 : ys.drop i = [] := List.drop_of_length_le (by omega)
        rw [e1, e2] at he
        simp -implicitDefEqProofs (disch := omega) only [go_sem, Nat.not_lt.2 hge]
        rw [← he]; rfl

theorem szStringS_sat (xs : List ByteArray) (hw : wfL wfS xs) (b : Int) (h0 : 0 ≤ b) (h1 : b < 1048577) : Sat Tryd.prog 67 [slV (xs.map encS), intV b] (intV (szR (szL szS xs) b)) := by
  have hl := hw.1
  simp only [maxLen] at hl
  refine sat_of_code tbOk mixed Tryd.func67 rfl rfl rfl (by decide +kernel) (by decide +kernel) (Nat.le_of_ble_eq_true rfl) ?_
  simp -implicitDefEqProofs (disch := omega) only [go_sem]
  refine ⟨fun h => ?_, fun h => ?_⟩
  · have := len_szL szS xs
    grind [szR]
  · refine loopA_rule (ι := Nat × Int) (fun i => mk 28 [(0, slV (xs.map encS)), (5, intV i.1), (1, intV i.2)] []) (fun i => i.1 ≤ xs.length ∧ i.2 - ((szL szS (xs.drop i.1) : Int) - (xs.length - i.1)) = b - szL szS xs ∧ 0 ≤ i.2 ∧ i.2 < 1048577) (fun i => xs.length - i.1) (0, b - xs.length) ?_ ?_ tbOk mixed (by decide +kernel) ?_
    · simp; omega
    · exact le_mk (by simp [go_sem]) (by simp [go_sem])
    · rintro ⟨i, c⟩ ⟨hi, hc, hc0, hc1⟩
      simp only at hi hc hc0 hc1
      rcases Nat.lt_or_ge i xs.length with hlt | hge
      · have hg := map_getD (ec := encS) hlt
        have hz := szL_drop szS xs i hlt
        have hz2 := len_szL szS (xs.drop (i + 1))
        simp only [List.length_drop] at hz2
        have hx := hw.2 _ (List.getElem_mem hlt)
        generalize xs[i] = x at hg hz hx
        simp only [wfS, maxLen] at hx
        simp only [szS] at hz
        simp only [encS] at hg
        simp -implicitDefEqProofs (disch := omega) only [go_sem, hg, hlt]
        refine ⟨fun h => ?_, fun h => ⟨(i + 1, c - x.size), ⟨hlt, ?_⟩, ?_, le_mk (by simp [go_sem]) (by simp [go_sem])⟩⟩
        · grind [szR]
        · simp only; omega
        · simp only; omega
      · simp -implicitDefEqProofs (disch := omega) only [go_sem, Nat.not_lt.2 hge]
        rw [List.drop_of_length_le hge] at hc
        simp only [szL] at hc
        grind [szR]

abbrev zString : List AC := [sC ⟨⟨[]⟩⟩]
theorem toStringS_sat (xs : List ByteArray) (hs : szL szS xs < 1048577) : Sat Tryd.prog 68 [slV (xs.map encS)] (slV (xs.map encS)) := by
  have hl := len_szL szS xs
  refine sat_of_code tbOk mixed Tryd.func68 rfl rfl rfl (by decide +kernel) (by decide +kernel) (Nat.le_of_ble_eq_true rfl) ?_
  simp -implicitDefEqProofs (disch := omega) only [go_sem]
  refine ⟨⟨by omega, by omega⟩, fun _ => ?_⟩
  refine loopA_rule (ι := Nat) (fun i => mk 22 [(0, slV (xs.map encS)), (3, .one (.own 7 xs.length)), (4, intV i)] [(7, .arr 9 1 (rowsAt encS zString xs i) false)]) (fun i => i ≤ xs.length) (fun i => xs.length - i) 0 (Nat.zero_le _) ?_ tbOk mixed (by decide +kernel) ?_
  · exact le_mk (by simp [go_sem]) (by simp [go_sem, rowsAt_zero, List.mem_replicate])
  · intro i hi
    have hlen := rowsAt_len (ec := encS) (z := zString) hi
    rcases Nat.lt_or_ge i xs.length with hlt | hge
    · have hg := map_getD (ec := encS) hlt
      have hr := rowsAt_get (ec := encS) (z := zString) hlt
      have hset := rowsAt_set (ec := encS) (z := zString) hlt
      simp only [encS, List.map_cons, List.map_nil] at hg hset
      simp -implicitDefEqProofs (disch := omega) only [go_sem, hg, hlt, hlen, hr, hset]
      refine ⟨by simp [zString, unD], fun _ => ⟨i + 1, hlt, by omega, le_mk (by simp [go_sem]) ?_⟩⟩
      simp only [leB, lookB_cons, if_true, inB, true_and, and_true]
      exact rowsAt_inC (by simp [zString, inC])
    · have : i = xs.length := by omega
      subst this
      have hv := rowsAt_view (ec := encS) (z := zString) (Nat.le_refl xs.length)
      simp -implicitDefEqProofs (disch := omega) only [go_sem, hlen, hv, Nat.lt_irrefl]
      exact rowsAt_isV (Nat.le_refl _)

theorem eqStringS_sat (xs : List ByteArray) (hw : wfL wfS xs) (ys : List ByteArray) : Sat Tryd.prog 69 [slV (xs.map encS), slV (ys.map encS)] (boolV (eqL eqS xs ys)) := by
  have hl := hw.1
  simp only [maxLen] at hl
  refine sat_of_code tbOk mixed Tryd.func69 rfl rfl rfl (by decide +kernel) (by decide +kernel) (Nat.le_of_ble_eq_true rfl) ?_
  simp -implicitDefEqProofs (disch := omega) only [go_sem]
  refine ⟨fun h4 => ?_, fun h4 => ?_⟩
  · rw [eqL_len eqS xs ys (by omega)]
  · have hll : xs.length = ys.length := by simp at h4; omega
    refine loopA_rule (ι := Nat) (fun i => mk 26 [(0, slV (xs.map encS)), (1, slV (ys.map encS)), (5, intV i)] [])
      (fun i => i ≤ xs.length ∧ eqL eqS (xs.drop i) (ys.drop i) = eqL eqS xs ys) (fun i => xs.length - i) 0 ⟨Nat.zero_le _, by simp⟩ ?_ tbOk mixed (by decide +kernel) ?_
    · exact le_mk (by simp [go_sem]) (by simp [go_sem])
    · rintro i ⟨hi, he⟩
      rcases Nat.lt_or_ge i xs.length with hlt | hge
      · have hlt' : i < ys.length := by omega
        have hg := map_getD (ec := encS) hlt
        have hg' := map_getD (ec := encS) hlt'
        rw [eqL_drop eqS xs ys i hlt hlt'] at he
        have hx := hw.2 _ (List.getElem_mem hlt)
        generalize xs[i] = x at hg he hx
        generalize ys[i] = y at hg' he
        simp only [encS] at hg hg'
        simp only [eqS] at he
        simp -implicitDefEqProofs (disch := omega) only [go_sem, hg, hg', hlt, hlt']
        refine ⟨fun h => ?_, fun h => ⟨i + 1, ⟨hlt, ?_⟩, by omega, le_mk (by simp [go_sem]) (by simp [go_sem])⟩⟩
        · grind
        · grind
      · have e1 : xs.drop i = [] := List.drop_of_length_le hge
        have e2 : ys.drop i = [] := List.drop_of_length_le (by omega)
        rw [e1, e2] at he
        simp -implicitDefEqProofs (disch := omega) only [go_sem, Nat.not_lt.2 hge]
        rw [← he]; rfl

theorem szGuard_sat (x : GGuard) (hw : x.wf) (b : Int) (h0 : 0 ≤ b) (h1 : b < 1048577) : Sat Tryd.prog 57 [aggV x.enc, intV b] (intV (szR x.size b)) := by
  obtain ⟨r, hr⟩ : ∃ r, r = szR x.size b := ⟨_, rfl⟩
  rw [← hr]
  obtain ⟨xkd, ⟨xlek, xlen, xles, xlet⟩, ⟨xrik, xrin, xris, xrit⟩⟩ := x
  simp only [GGuard.wf, wfI, wfS, wfB, maxLen] at hw
  simp only [GGuard.size, szI, szS] at hr
  refine sat_of_code tbOk mixed Tryd.func57 rfl rfl rfl (by decide +kernel) (by decide +kernel) (Nat.le_of_ble_eq_true rfl) ?_
  simp -implicitDefEqProofs (disch := omega) only [go_sem, GGuard.enc, Tm.enc, encB, encI, encL, encS, List.cons_append, List.nil_append, List.append_nil]
  have hb0 : -1 ≤ szR (Tm.size (.mk xlek xlen xles xlet)) b ∧ szR (Tm.size (.mk xlek xlen xles xlet)) b ≤ 1048576 := by grind [szR]
  refine CallK.mk (szTerm_sat (.mk xlek xlen xles xlet) hw.2.1 b (by grind [szR]) (by grind [szR])) ?_
  simp -implicitDefEqProofs (disch := omega) only [go_sem, GGuard.enc, Tm.enc, encB, encI, encL, encS, List.cons_append, List.nil_append, List.append_nil]
  refine ⟨fun h0 => by grind [szR], fun h0 => ?_⟩
  have hb1 : -1 ≤ szR (Tm.size (.mk xrik xrin xris xrit)) (szR (Tm.size (.mk xlek xlen xles xlet)) b) ∧ szR (Tm.size (.mk xrik xrin xris xrit)) (szR (Tm.size (.mk xlek xlen xles xlet)) b) ≤ 1048576 := by grind [szR]
  refine CallK.mk (szTerm_sat (.mk xrik xrin xris xrit) hw.2.2 (szR (Tm.size (.mk xlek xlen xles xlet)) b) (by grind [szR]) (by grind [szR])) ?_
  simp -implicitDefEqProofs (disch := omega) only [go_sem, GGuard.enc, Tm.enc, encB, encI, encL, encS, List.cons_append, List.nil_append, List.append_nil]
  grind [szR]

theorem toGuard_sat (x : GGuard) (hs : x.size < 1048577) : Sat Tryd.prog 61 [aggV x.enc] (aggV x.enc) := by
  obtain ⟨xkd, ⟨xlek, xlen, xles, xlet⟩, ⟨xrik, xrin, xris, xrit⟩⟩ := x
  simp only [GGuard.size, szI, szS] at hs
  refine sat_of_code tbOk mixed Tryd.func61 rfl rfl rfl (by decide +kernel) (by decide +kernel) (Nat.le_of_ble_eq_true rfl) ?_
  simp -implicitDefEqProofs (disch := omega) only [go_sem, GGuard.enc, Tm.enc, encB, encI, encL, encS, List.cons_append, List.nil_append, List.append_nil]
  refine CallK.mk (toTerm_sat (.mk xlek xlen xles xlet) (by omega)) ?_
  simp -implicitDefEqProofs (disch := omega) only [go_sem, GGuard.enc, Tm.enc, encB, encI, encL, encS, List.cons_append, List.nil_append, List.append_nil]
  refine CallK.mk (toTerm_sat (.mk xrik xrin xris xrit) (by omega)) ?_
  simp -implicitDefEqProofs (disch := omega) only [go_sem, GGuard.enc, Tm.enc, encB, encI, encL, encS, List.cons_append, List.nil_append, List.append_nil]
  rfl

theorem eqGuard_sat (x : GGuard) (hw : x.wf) (y : GGuard) : Sat Tryd.prog 64 [aggV x.enc, aggV y.enc] (boolV (x.eqb y)) := by
  obtain ⟨r, hr⟩ : ∃ r, r = x.eqb y := ⟨_, rfl⟩
  rw [← hr]
  obtain ⟨xkd, ⟨xlek, xlen, xles, xlet⟩, ⟨xrik, xrin, xris, xrit⟩⟩ := x
  obtain ⟨ykd, ⟨ylek, ylen, yles, ylet⟩, ⟨yrik, yrin, yris, yrit⟩⟩ := y
  simp only [GGuard.wf] at hw
  simp only [GGuard.eqb, eqI, eqS, eqB] at hr
  refine sat_of_code tbOk mixed Tryd.func64 rfl rfl rfl (by decide +kernel) (by decide +kernel) (Nat.le_of_ble_eq_true rfl) ?_
  simp -implicitDefEqProofs (disch := omega) only [go_sem, GGuard.enc, Tm.enc, encB, encI, encL, encS, List.cons_append, List.nil_append, List.append_nil]
  refine ⟨fun h0 => by grind, fun h0 => ?_⟩
  refine CallK.mk (eqTerm_sat (.mk xlek xlen xles xlet) hw.2.1 (.mk ylek ylen yles ylet)) ?_
  simp -implicitDefEqProofs (disch := omega) only [go_sem, GGuard.enc, Tm.enc, encB, encI, encL, encS, List.cons_append, List.nil_append, List.append_nil]
  refine ⟨fun h1 => by grind, fun h1 => ?_⟩
  refine CallK.mk (eqTerm_sat (.mk xrik xrin xris xrit) hw.2.2 (.mk yrik yrin yris yrit)) ?_
  simp -implicitDefEqProofs (disch := omega) only [go_sem, GGuard.enc, Tm.enc, encB, encI, encL, encS, List.cons_append, List.nil_append, List.append_nil]
  grind

theorem szGuardS_sat (xs : List GGuard) (hw : wfL GGuard.wf xs) (b : Int) (h0 : 0 ≤ b) (h1 : b < 1048577) : Sat Tryd.prog 43 [slV (xs.map GGuard.enc), intV b] (intV (szR (szL GGuard.size xs) b)) := by
  have hl := hw.1
  simp only [maxLen] at hl
  refine sat_of_code tbOk mixed Tryd.func43 rfl rfl rfl (by decide +kernel) (by decide +kernel) (Nat.le_of_ble_eq_true rfl) ?_
  simp -implicitDefEqProofs (disch := omega) only [go_sem]
  refine ⟨fun h => ?_, fun h => ?_⟩
  · have := len_szL GGuard.size xs
    grind [szR]
  · refine loopA_rule (ι := Nat × Int) (fun i => mk 27 [(0, slV (xs.map GGuard.enc)), (5, intV i.1), (1, intV i.2)] []) (fun i => i.1 ≤ xs.length ∧ i.2 - ((szL GGuard.size (xs.drop i.1) : Int) - (xs.length - i.1)) = b - szL GGuard.size xs ∧ 0 ≤ i.2 ∧ i.2 < 1048577) (fun i => xs.length - i.1) (0, b - xs.length) ?_ ?_ tbOk mixed (by decide +kernel) ?_
    · simp; omega
    · exact le_mk (by simp [go_sem]) (by simp [go_sem])
    · rintro ⟨i, c⟩ ⟨hi, hc, hc0, hc1⟩
      simp only at hi hc hc0 hc1
      rcases Nat.lt_or_ge i xs.length with hlt | hge
      · have hg := map_getD (ec := GGuard.enc) hlt
        have hz := szL_drop GGuard.size xs i hlt
        have hz2 := len_szL GGuard.size (xs.drop (i + 1))
        simp only [List.length_drop] at hz2
        have hx := hw.2 _ (List.getElem_mem hlt)
        generalize xs[i] = x at hg hz hx
        simp -implicitDefEqProofs (disch := omega) only [go_sem, hg, hlt]
        refine CallK.mk (szGuard_sat x hx c hc0 (by omega)) ?_
        simp -implicitDefEqProofs (disch := omega) only [go_sem]
        refine ⟨fun h => ?_, fun h => ⟨(i + 1, szR (GGuard.size x) c), ⟨hlt, ?_⟩, ?_, le_mk (by simp [go_sem]) (by simp [go_sem])⟩⟩
        · grind [szR]
        · grind [szR]
        · simp only; omega
      · simp -implicitDefEqProofs (disch := omega) only [go_sem, Nat.not_lt.2 hge]
        rw [List.drop_of_length_le hge] at hc
        simp only [szL] at hc
        grind [szR]

abbrev zGuard : List AC := [iC 0, iC 0, iC 0, sC ⟨⟨[]⟩⟩, .nil, iC 0, iC 0, sC ⟨⟨[]⟩⟩, .nil]
theorem toGuardS_sat (xs : List GGuard) (hs : szL GGuard.size xs < 1048577) : Sat Tryd.prog 46 [slV (xs.map GGuard.enc)] (slV (xs.map GGuard.enc)) := by
  have hl := len_szL GGuard.size xs
  refine sat_of_code tbOk mixed Tryd.func46 rfl rfl rfl (by decide +kernel) (by decide +kernel) (Nat.le_of_ble_eq_true rfl) ?_
  simp -implicitDefEqProofs (disch := omega) only [go_sem]
  refine ⟨⟨by omega, by omega⟩, fun _ => ?_⟩
  refine loopA_rule (ι := Nat) (fun i => mk 23 [(0, slV (xs.map GGuard.enc)), (3, .one (.own 7 xs.length)), (4, intV i)] [(7, .arr 81 9 (rowsAt GGuard.enc zGuard xs i) false)]) (fun i => i ≤ xs.length) (fun i => xs.length - i) 0 (Nat.zero_le _) ?_ tbOk mixed (by decide +kernel) ?_
  · exact le_mk (by simp [go_sem]) (by simp [go_sem, rowsAt_zero, List.mem_replicate])
  · intro i hi
    have hlen := rowsAt_len (ec := GGuard.enc) (z := zGuard) hi
    rcases Nat.lt_or_ge i xs.length with hlt | hge
    · have hg := map_getD (ec := GGuard.enc) hlt
      have hr := rowsAt_get (ec := GGuard.enc) (z := zGuard) hlt
      have hset := rowsAt_set (ec := GGuard.enc) (z := zGuard) hlt
      have hm := szL_mem GGuard.size xs _ (List.getElem_mem hlt)
      simp -implicitDefEqProofs (disch := omega) only [go_sem, hg, hlt, hlen]
      refine CallK.mk (toGuard_sat _ (by omega)) ?_
      simp -implicitDefEqProofs (disch := omega) only [go_sem, hlen, hlt, List.length_map, hr, hset]
      refine ⟨by simp [zGuard, unD], fun _ => ⟨i + 1, hlt, by omega, le_mk (by simp [go_sem]) ?_⟩⟩
      simp only [leB, lookB_cons, if_true, inB, true_and, and_true]
      exact rowsAt_inC (by simp [zGuard, inC])
    · have : i = xs.length := by omega
      subst this
      have hv := rowsAt_view (ec := GGuard.enc) (z := zGuard) (Nat.le_refl xs.length)
      simp -implicitDefEqProofs (disch := omega) only [go_sem, hlen, hv, Nat.lt_irrefl]
      exact rowsAt_isV (Nat.le_refl _)

theorem eqGuardS_sat (xs : List GGuard) (hw : wfL GGuard.wf xs) (ys : List GGuard) : Sat Tryd.prog 48 [slV (xs.map GGuard.enc), slV (ys.map GGuard.enc)] (boolV (eqL GGuard.eqb xs ys)) := by
  have hl := hw.1
  simp only [maxLen] at hl
  refine sat_of_code tbOk mixed Tryd.func48 rfl rfl rfl (by decide +kernel) (by decide +kernel) (Nat.le_of_ble_eq_true rfl) ?_
  simp -implicitDefEqProofs (disch := omega) only [go_sem]
  refine ⟨fun h4 => ?_, fun h4 => ?_⟩
  · rw [eqL_len GGuard.eqb xs ys (by omega)]
  · have hll : xs.length = ys.length := by simp at h4; omega
    refine loopA_rule (ι := Nat) (fun i => mk 27 [(0, slV (xs.map GGuard.enc)), (1, slV (ys.map GGuard.enc)), (5, intV i)] [])
      (fun i => i ≤ xs.length ∧ eqL GGuard.eqb (xs.drop i) (ys.drop i) = eqL GGuard.eqb xs ys) (fun i => xs.length - i) 0 ⟨Nat.zero_le _, by simp⟩ ?_ tbOk mixed (by decide +kernel) ?_
    · exact le_mk (by simp [go_sem]) (by simp [go_sem])
    · rintro i ⟨hi, he⟩
      rcases Nat.lt_or_ge i xs.length with hlt | hge
      · have hlt' : i < ys.length := by omega
        have hg := map_getD (ec := GGuard.enc) hlt
        have hg' := map_getD (ec := GGuard.enc) hlt'
        rw [eqL_drop GGuard.eqb xs ys i hlt hlt'] at he
        have hx := hw.2 _ (List.getElem_mem hlt)
        generalize xs[i] = x at hg he hx
        generalize ys[i] = y at hg' he
        simp -implicitDefEqProofs (disch := omega) only [go_sem, hg, hg', hlt, hlt']
        refine CallK.mk (eqGuard_sat x hx y) ?_
        simp -implicitDefEqProofs (disch := omega) only [go_sem]
        refine ⟨fun h => ?_, fun h => ⟨i + 1, ⟨hlt, ?_⟩, by omega, le_mk (by simp [go_sem]) (by simp [go_sem])⟩⟩
        · rw [h] at he; simpa using he
        · rw [h] at he; simpa using he
      · have e1 : xs.drop i = [] := List.drop_of_length_le hge
        have e2 : ys.drop i = [] := List.drop_of_length_le (by omega)
        rw [e1, e2] at he
        simp -implicitDefEqProofs (disch := omega) only [go_sem, Nat.not_lt.2 hge]
        rw [← he]; rfl

theorem szRule_sat (x : GRule) (hw : x.wf) (b : Int) (h0 : 0 ≤ b) (h1 : b < 1048577) : Sat Tryd.prog 22 [aggV x.enc, intV b] (intV (szR x.size b)) := by
  obtain ⟨r, hr⟩ : ∃ r, r = szR x.size b := ⟨_, rfl⟩
  rw [← hr]
  obtain ⟨xna, ⟨xlek, xlen, xles, xlet⟩, ⟨xrik, xrin, xris, xrit⟩, xgu⟩ := x
  simp only [GRule.wf, wfI, wfS, wfB, maxLen] at hw
  simp only [GRule.size, szI, szS] at hr
  refine sat_of_code tbOk mixed Tryd.func22 rfl rfl rfl (by decide +kernel) (by decide +kernel) (Nat.le_of_ble_eq_true rfl) ?_
  simp -implicitDefEqProofs (disch := omega) only [go_sem, GRule.enc, Tm.enc, encB, encI, encL, encS, List.cons_append, List.nil_append, List.append_nil]
  refine ⟨fun h0 => by grind [szR], fun h0 => ?_⟩
  have hb1 : -1 ≤ szR (Tm.size (.mk xlek xlen xles xlet)) (b - xna.size) ∧ szR (Tm.size (.mk xlek xlen xles xlet)) (b - xna.size) ≤ 1048576 := by grind [szR]
  refine CallK.mk (szTerm_sat (.mk xlek xlen xles xlet) hw.2.1 (b - xna.size) (by grind [szR]) (by grind [szR])) ?_
  simp -implicitDefEqProofs (disch := omega) only [go_sem, GRule.enc, Tm.enc, encB, encI, encL, encS, List.cons_append, List.nil_append, List.append_nil]
  refine ⟨fun h1 => by grind [szR], fun h1 => ?_⟩
  have hb2 : -1 ≤ szR (Tm.size (.mk xrik xrin xris xrit)) (szR (Tm.size (.mk xlek xlen xles xlet)) (b - xna.size)) ∧ szR (Tm.size (.mk xrik xrin xris xrit)) (szR (Tm.size (.mk xlek xlen xles xlet)) (b - xna.size)) ≤ 1048576 := by grind [szR]
  refine CallK.mk (szTerm_sat (.mk xrik xrin xris xrit) hw.2.2.1 (szR (Tm.size (.mk xlek xlen xles xlet)) (b - xna.size)) (by grind [szR]) (by grind [szR])) ?_
  simp -implicitDefEqProofs (disch := omega) only [go_sem, GRule.enc, Tm.enc, encB, encI, encL, encS, List.cons_append, List.nil_append, List.append_nil]
  refine ⟨fun h2 => by grind [szR], fun h2 => ?_⟩
  have hb3 : -1 ≤ szR ((szL GGuard.size) xgu) (szR (Tm.size (.mk xrik xrin xris xrit)) (szR (Tm.size (.mk xlek xlen xles xlet)) (b - xna.size))) ∧ szR ((szL GGuard.size) xgu) (szR (Tm.size (.mk xrik xrin xris xrit)) (szR (Tm.size (.mk xlek xlen xles xlet)) (b - xna.size))) ≤ 1048576 := by grind [szR]
  refine CallK.mk (szGuardS_sat xgu hw.2.2.2 (szR (Tm.size (.mk xrik xrin xris xrit)) (szR (Tm.size (.mk xlek xlen xles xlet)) (b - xna.size))) (by grind [szR]) (by grind [szR])) ?_
  simp -implicitDefEqProofs (disch := omega) only [go_sem, GRule.enc, Tm.enc, encB, encI, encL, encS, List.cons_append, List.nil_append, List.append_nil]
  grind [szR]

theorem toRule_sat (x : GRule) (hs : x.size < 1048577) : Sat Tryd.prog 24 [aggV x.enc] (aggV x.enc) := by
  obtain ⟨xna, ⟨xlek, xlen, xles, xlet⟩, ⟨xrik, xrin, xris, xrit⟩, xgu⟩ := x
  simp only [GRule.size, szI, szS] at hs
  refine sat_of_code tbOk mixed Tryd.func24 rfl rfl rfl (by decide +kernel) (by decide +kernel) (Nat.le_of_ble_eq_true rfl) ?_
  simp -implicitDefEqProofs (disch := omega) only [go_sem, GRule.enc, Tm.enc, encB, encI, encL, encS, List.cons_append, List.nil_append, List.append_nil]
  refine CallK.mk (toTerm_sat (.mk xlek xlen xles xlet) (by omega)) ?_
  simp -implicitDefEqProofs (disch := omega) only [go_sem, GRule.enc, Tm.enc, encB, encI, encL, encS, List.cons_append, List.nil_append, List.append_nil]
  refine CallK.mk (toTerm_sat (.mk xrik xrin xris xrit) (by omega)) ?_
  simp -implicitDefEqProofs (disch := omega) only [go_sem, GRule.enc, Tm.enc, encB, encI, encL, encS, List.cons_append, List.nil_append, List.append_nil]
  refine CallK.mk (toGuardS_sat xgu (by omega)) ?_
  simp -implicitDefEqProofs (disch := omega) only [go_sem, GRule.enc, Tm.enc, encB, encI, encL, encS, List.cons_append, List.nil_append, List.append_nil]
  rfl

theorem eqRule_sat (x : GRule) (hw : x.wf) (y : GRule) : Sat Tryd.prog 26 [aggV x.enc, aggV y.enc] (boolV (x.eqb y)) := by
  obtain ⟨r, hr⟩ : ∃ r, r = x.eqb y := ⟨_, rfl⟩
  rw [← hr]
  obtain ⟨xna, ⟨xlek, xlen, xles, xlet⟩, ⟨xrik, xrin, xris, xrit⟩, xgu⟩ := x
  obtain ⟨yna, ⟨ylek, ylen, yles, ylet⟩, ⟨yrik, yrin, yris, yrit⟩, ygu⟩ := y
  simp only [GRule.wf] at hw
  simp only [GRule.eqb, eqI, eqS, eqB] at hr
  refine sat_of_code tbOk mixed Tryd.func26 rfl rfl rfl (by decide +kernel) (by decide +kernel) (Nat.le_of_ble_eq_true rfl) ?_
  simp -implicitDefEqProofs (disch := omega) only [go_sem, GRule.enc, Tm.enc, encB, encI, encL, encS, List.cons_append, List.nil_append, List.append_nil]
  refine ⟨fun h0 => by grind, fun h0 => ?_⟩
  refine CallK.mk (eqTerm_sat (.mk xlek xlen xles xlet) hw.2.1 (.mk ylek ylen yles ylet)) ?_
  simp -implicitDefEqProofs (disch := omega) only [go_sem, GRule.enc, Tm.enc, encB, encI, encL, encS, List.cons_append, List.nil_append, List.append_nil]
  refine ⟨fun h1 => by grind, fun h1 => ?_⟩
  refine CallK.mk (eqTerm_sat (.mk xrik xrin xris xrit) hw.2.2.1 (.mk yrik yrin yris yrit)) ?_
  simp -implicitDefEqProofs (disch := omega) only [go_sem, GRule.enc, Tm.enc, encB, encI, encL, encS, List.cons_append, List.nil_append, List.append_nil]
  refine ⟨fun h2 => by grind, fun h2 => ?_⟩
  refine CallK.mk (eqGuardS_sat xgu hw.2.2.2 ygu) ?_
  simp -implicitDefEqProofs (disch := omega) only [go_sem, GRule.enc, Tm.enc, encB, encI, encL, encS, List.cons_append, List.nil_append, List.append_nil]
  grind

end Go.Ai
