/- Definitions: written by mk6.py. -/
import Derived.Test.YtofbieojmaobfaaGreatAiC1
import Derived.Test.YtofbieojmaobfaaGreatAiKinds
set_option linter.unusedVariables false
set_option linter.unusedSimpArgs false
namespace Go.Ai
open Go.Proofs Go.RowKit Go.ChangeShapes
set_option maxRecDepth 100000
structure GGuard where
 kd : Int
 le : Tm
 ri : Tm
def GGuard.enc (x : GGuard) : List C := encI x.kd ++ (Tm.enc x.le ++ (Tm.enc x.ri))
def GGuard.size (x : GGuard) : Nat := szI x.kd + Tm.size x.le + Tm.size x.ri
def GGuard.wf (x : GGuard) : Prop := wfI x.kd ∧ Tm.wf x.le ∧ Tm.wf x.ri
def GGuard.eqb (x y : GGuard) : Bool := eqI x.kd y.kd && (Tm.eqb x.le y.le && (Tm.eqb x.ri y.ri))
theorem GGuard.enc_len (x : GGuard) : x.enc.length = 9 := by simp [GGuard.enc, encI, encS, encB, encL, Go.Ai.enc_len]
theorem GGuard.enc_take (x : GGuard) : x.enc.take 9 = x.enc := List.take_of_length_le (by rw [GGuard.enc_len]; exact Nat.le_refl _)
theorem GGuard.encm_take (x : GGuard) : (x.enc.map AC.c).take 9 = x.enc.map AC.c := List.take_of_length_le (by rw [List.length_map, GGuard.enc_len]; exact Nat.le_refl _)
attribute [go_sem] GGuard.enc_len GGuard.enc_take GGuard.encm_take
theorem GGuard.eqb_refl (x : GGuard) : x.eqb x = true := by simp only [GGuard.eqb, eqI_refl x.kd, Tm.eqb_refl x.le, Tm.eqb_refl x.ri, Bool.and_self]
structure GRule where
 na : ByteArray
 le : Tm
 ri : Tm
 gu : List GGuard
def GRule.enc (x : GRule) : List C := encS x.na ++ (Tm.enc x.le ++ (Tm.enc x.ri ++ (encL GGuard.enc x.gu)))
def GRule.size (x : GRule) : Nat := szS x.na + Tm.size x.le + Tm.size x.ri + (szL GGuard.size) x.gu
def GRule.wf (x : GRule) : Prop := wfS x.na ∧ Tm.wf x.le ∧ Tm.wf x.ri ∧ (wfL GGuard.wf) x.gu
def GRule.eqb (x y : GRule) : Bool := eqS x.na y.na && (Tm.eqb x.le y.le && (Tm.eqb x.ri y.ri && ((eqL GGuard.eqb) x.gu y.gu)))
theorem GRule.enc_len (x : GRule) : x.enc.length = 10 := by simp [GRule.enc, encI, encS, encB, encL, Go.Ai.enc_len]
theorem GRule.enc_take (x : GRule) : x.enc.take 10 = x.enc := List.take_of_length_le (by rw [GRule.enc_len]; exact Nat.le_refl _)
theorem GRule.encm_take (x : GRule) : (x.enc.map AC.c).take 10 = x.enc.map AC.c := List.take_of_length_le (by rw [List.length_map, GRule.enc_len]; exact Nat.le_refl _)
attribute [go_sem] GRule.enc_len GRule.enc_take GRule.encm_take
theorem GRule.eqb_refl (x : GRule) : x.eqb x = true := by simp only [GRule.eqb, eqS_refl x.na, Tm.eqb_refl x.le, Tm.eqb_refl x.ri, (eqL_refl GGuard.eqb_refl) x.gu, Bool.and_self]
structure GOp where
 na : ByteArray
 ar : List ByteArray
 re : ByteArray
def GOp.enc (x : GOp) : List C := encS x.na ++ (encL encS x.ar ++ (encS x.re))
def GOp.size (x : GOp) : Nat := szS x.na + (szL szS) x.ar + szS x.re
def GOp.wf (x : GOp) : Prop := wfS x.na ∧ (wfL wfS) x.ar ∧ wfS x.re
def GOp.eqb (x y : GOp) : Bool := eqS x.na y.na && ((eqL eqS) x.ar y.ar && (eqS x.re y.re))
theorem GOp.enc_len (x : GOp) : x.enc.length = 3 := by simp [GOp.enc, encI, encS, encB, encL, Go.Ai.enc_len]
theorem GOp.enc_take (x : GOp) : x.enc.take 3 = x.enc := List.take_of_length_le (by rw [GOp.enc_len]; exact Nat.le_refl _)
theorem GOp.encm_take (x : GOp) : (x.enc.map AC.c).take 3 = x.enc.map AC.c := List.take_of_length_le (by rw [List.length_map, GOp.enc_len]; exact Nat.le_refl _)
attribute [go_sem] GOp.enc_len GOp.enc_take GOp.encm_take
theorem GOp.eqb_refl (x : GOp) : x.eqb x = true := by simp only [GOp.eqb, eqS_refl x.na, (eqL_refl eqS_refl) x.ar, eqS_refl x.re, Bool.and_self]
structure GSignature where
 so : List ByteArray
 op : List GOp
def GSignature.enc (x : GSignature) : List C := encL encS x.so ++ (encL GOp.enc x.op)
def GSignature.size (x : GSignature) : Nat := (szL szS) x.so + (szL GOp.size) x.op
def GSignature.wf (x : GSignature) : Prop := (wfL wfS) x.so ∧ (wfL GOp.wf) x.op
def GSignature.eqb (x y : GSignature) : Bool := (eqL eqS) x.so y.so && ((eqL GOp.eqb) x.op y.op)
theorem GSignature.enc_len (x : GSignature) : x.enc.length = 2 := by simp [GSignature.enc, encI, encS, encB, encL, Go.Ai.enc_len]
theorem GSignature.enc_take (x : GSignature) : x.enc.take 2 = x.enc := List.take_of_length_le (by rw [GSignature.enc_len]; exact Nat.le_refl _)
theorem GSignature.encm_take (x : GSignature) : (x.enc.map AC.c).take 2 = x.enc.map AC.c := List.take_of_length_le (by rw [List.length_map, GSignature.enc_len]; exact Nat.le_refl _)
attribute [go_sem] GSignature.enc_len GSignature.enc_take GSignature.encm_take
theorem GSignature.eqb_refl (x : GSignature) : x.eqb x = true := by simp only [GSignature.eqb, (eqL_refl eqS_refl) x.so, (eqL_refl GOp.eqb_refl) x.op, Bool.and_self]
structure GStrict where
 op : ByteArray
 ar : Int
def GStrict.enc (x : GStrict) : List C := encS x.op ++ (encI x.ar)
def GStrict.size (x : GStrict) : Nat := szS x.op + szI x.ar
def GStrict.wf (x : GStrict) : Prop := wfS x.op ∧ wfI x.ar
def GStrict.eqb (x y : GStrict) : Bool := eqS x.op y.op && (eqI x.ar y.ar)
theorem GStrict.enc_len (x : GStrict) : x.enc.length = 2 := by simp [GStrict.enc, encI, encS, encB, encL, Go.Ai.enc_len]
theorem GStrict.enc_take (x : GStrict) : x.enc.take 2 = x.enc := List.take_of_length_le (by rw [GStrict.enc_len]; exact Nat.le_refl _)
theorem GStrict.encm_take (x : GStrict) : (x.enc.map AC.c).take 2 = x.enc.map AC.c := List.take_of_length_le (by rw [List.length_map, GStrict.enc_len]; exact Nat.le_refl _)
attribute [go_sem] GStrict.enc_len GStrict.enc_take GStrict.encm_take
theorem GStrict.eqb_refl (x : GStrict) : x.eqb x = true := by simp only [GStrict.eqb, eqS_refl x.op, eqI_refl x.ar, Bool.and_self]
structure GDefinition where
 si : GSignature
 ru : List GRule
 st : List GStrict
def GDefinition.enc (x : GDefinition) : List C := GSignature.enc x.si ++ (encL GRule.enc x.ru ++ (encL GStrict.enc x.st))
def GDefinition.size (x : GDefinition) : Nat := GSignature.size x.si + (szL GRule.size) x.ru + (szL GStrict.size) x.st
def GDefinition.wf (x : GDefinition) : Prop := GSignature.wf x.si ∧ (wfL GRule.wf) x.ru ∧ (wfL GStrict.wf) x.st
def GDefinition.eqb (x y : GDefinition) : Bool := GSignature.eqb x.si y.si && ((eqL GRule.eqb) x.ru y.ru && ((eqL GStrict.eqb) x.st y.st))
theorem GDefinition.enc_len (x : GDefinition) : x.enc.length = 4 := by simp [GDefinition.enc, encI, encS, encB, encL, Go.Ai.enc_len, GSignature.enc_len]
theorem GDefinition.enc_take (x : GDefinition) : x.enc.take 4 = x.enc := List.take_of_length_le (by rw [GDefinition.enc_len]; exact Nat.le_refl _)
theorem GDefinition.encm_take (x : GDefinition) : (x.enc.map AC.c).take 4 = x.enc.map AC.c := List.take_of_length_le (by rw [List.length_map, GDefinition.enc_len]; exact Nat.le_refl _)
attribute [go_sem] GDefinition.enc_len GDefinition.enc_take GDefinition.encm_take
theorem GDefinition.eqb_refl (x : GDefinition) : x.eqb x = true := by simp only [GDefinition.eqb, GSignature.eqb_refl x.si, (eqL_refl GRule.eqb_refl) x.ru, (eqL_refl GStrict.eqb_refl) x.st, Bool.and_self]
abbrev zInt : List AC := [iC 0]
theorem toIntS_sat (xs : List Int) (hs : szL szI xs < 1048577) : Sat Tryz.prog 137 [slV (xs.map encI)] (slV (xs.map encI)) := by
 have hl := len_szL szI xs
 refine sat_of_code tbOk mixed Tryz.func137 rfl rfl rfl (by decide +kernel) (by decide +kernel) (Nat.le_of_ble_eq_true rfl) ?_
 simp -implicitDefEqProofs (disch := omega) only [go_sem]
 refine ⟨⟨by omega, by omega⟩, fun _ => ?_⟩
 refine loopA_rule (ι := Nat) (fun i => mk 22 [(0, slV (xs.map encI)), (3, .one (.own 7 xs.length)), (4, intV i)] [(7, .arr 3 1 (rowsAt encI zInt xs i) false)]) (fun i => i ≤ xs.length) (fun i => xs.length - i) 0 (Nat.zero_le _) ?_ tbOk mixed (by decide +kernel) ?_
 ·exact le_mk (by simp [go_sem]) (by simp [go_sem, rowsAt_zero, List.mem_replicate])
 ·intro i hi
  have hlen := rowsAt_len (ec := encI) (z := zInt) hi
  rcases Nat.lt_or_ge i xs.length with hlt | hge
  ·have hg := map_getD (ec := encI) hlt
   have hr := rowsAt_get (ec := encI) (z := zInt) hlt
   have hset := rowsAt_set (ec := encI) (z := zInt) hlt
   simp only [encI, List.map_cons, List.map_nil] at hg hset
   simp -implicitDefEqProofs (disch := omega) only [go_sem, hg, hlt, hlen, hr, hset]
   refine ⟨by simp [zInt, unD], fun _ => ⟨i + 1, hlt, by omega, le_mk (by simp [go_sem]) ?_⟩⟩
   simp only [leB, lookB_cons, if_true, inB, true_and, and_true]
   exact rowsAt_inC (by simp [zInt, inC])
  ·have : i = xs.length := by omega
   subst this
   have hv := rowsAt_view (ec := encI) (z := zInt) (Nat.le_refl xs.length)
   simp -implicitDefEqProofs (disch := omega) only [go_sem, hlen, hv, Nat.lt_irrefl]
   exact rowsAt_isV (Nat.le_refl _)
theorem eqIntS_sat (xs : List Int) (hw : wfL wfI xs) (ys : List Int) : Sat Tryz.prog 19 [slV (xs.map encI), slV (ys.map encI)] (boolV (eqL eqI xs ys)) := by
 have hl := hw.1
 simp only [maxLen] at hl
 refine sat_of_code tbOk mixed Tryz.func19 rfl rfl rfl (by decide +kernel) (by decide +kernel) (Nat.le_of_ble_eq_true rfl) ?_
 simp -implicitDefEqProofs (disch := omega) only [go_sem]
 refine ⟨fun h4 => ?_, fun h4 => ?_⟩
 ·rw [eqL_len eqI xs ys (by omega)]
 ·have hll : xs.length = ys.length := by simp at h4; omega
  refine loopA_rule (ι := Nat) (fun i => mk 26 [(0, slV (xs.map encI)), (1, slV (ys.map encI)), (5, intV i)] [])
   (fun i => i ≤ xs.length ∧ eqL eqI (xs.drop i) (ys.drop i) = eqL eqI xs ys) (fun i => xs.length - i) 0 ⟨Nat.zero_le _, by simp⟩ ?_ tbOk mixed (by decide +kernel) ?_
  ·exact le_mk (by simp [go_sem]) (by simp [go_sem])
  ·rintro i ⟨hi, he⟩
   rcases Nat.lt_or_ge i xs.length with hlt | hge
   ·have hlt' : i < ys.length := by omega
    have hg := map_getD (ec := encI) hlt
    have hg' := map_getD (ec := encI) hlt'
    rw [eqL_drop eqI xs ys i hlt hlt'] at he
    have hx := hw.2 _ (List.getElem_mem hlt)
    generalize xs[i] = x at hg he hx
    generalize ys[i] = y at hg' he
    simp only [encI] at hg hg'
    simp only [eqI] at he
    simp -implicitDefEqProofs (disch := omega) only [go_sem, hg, hg', hlt, hlt']
    refine ⟨fun h => ?_, fun h => ⟨i + 1, ⟨hlt, ?_⟩, by omega, le_mk (by simp [go_sem]) (by simp [go_sem])⟩⟩
    ·grind
    ·grind
   ·have e1 : xs.drop i = [] := List.drop_of_length_le hge
    have e2 : ys.drop i = [] := List.drop_of_length_le (by omega)
    rw [e1, e2] at he
    simp -implicitDefEqProofs (disch := omega) only [go_sem, Nat.not_lt.2 hge]
    rw [← he]; rfl
theorem szStringS_sat (xs : List ByteArray) (hw : wfL wfS xs) (b : Int) (h0 : 0 ≤ b) (h1 : b < 1048577) : Sat Tryz.prog 104 [slV (xs.map encS), intV b] (intV (szR (szL szS xs) b)) := by
 have hl := hw.1
 simp only [maxLen] at hl
 refine sat_of_code tbOk mixed Tryz.func104 rfl rfl rfl (by decide +kernel) (by decide +kernel) (Nat.le_of_ble_eq_true rfl) ?_
 simp -implicitDefEqProofs (disch := omega) only [go_sem]
 refine ⟨fun h => ?_, fun h => ?_⟩
 ·have := len_szL szS xs
  grind [szR]
 ·refine loopA_rule (ι := Nat × Int) (fun i => mk 28 [(0, slV (xs.map encS)), (5, intV i.1), (1, intV i.2)] []) (fun i => i.1 ≤ xs.length ∧ i.2 - ((szL szS (xs.drop i.1) : Int) - (xs.length - i.1)) = b - szL szS xs ∧ 0 ≤ i.2 ∧ i.2 < 1048577) (fun i => xs.length - i.1) (0, b - xs.length) ?_ ?_ tbOk mixed (by decide +kernel) ?_
  ·simp; omega
  ·exact le_mk (by simp [go_sem]) (by simp [go_sem])
  ·rintro ⟨i, c⟩ ⟨hi, hc, hc0, hc1⟩
   simp only at hi hc hc0 hc1
   rcases Nat.lt_or_ge i xs.length with hlt | hge
   ·have hg := map_getD (ec := encS) hlt
    have hz := szL_drop szS xs i hlt
    have hz2 := len_szL szS (xs.drop (i + 1))
    simp only [List.length_drop] at hz2
    have hx := hw.2 _ (List.getElem_mem hlt)
    generalize xs[i] = x at hg hz hx
    simp only [wfS, maxLen] at hx
    simp only [szS] at hz
    simp only [encS] at hg
    simp -implicitDefEqProofs (disch := omega) only [go_sem, hg, hlt]
    refine ⟨fun h => ?_, fun h => ⟨(i + 1, c - x.size), ⟨hlt, ?_⟩, ?_, le_mk (by simp [go_sem]) (by simp [go_sem])⟩⟩
    ·grind [szR]
    ·simp only; omega
    ·simp only; omega
   ·simp -implicitDefEqProofs (disch := omega) only [go_sem, Nat.not_lt.2 hge]
    rw [List.drop_of_length_le hge] at hc
    simp only [szL] at hc
    grind [szR]
abbrev zString : List AC := [sC ⟨⟨[]⟩⟩]
theorem toStringS_sat (xs : List ByteArray) (hs : szL szS xs < 1048577) : Sat Tryz.prog 109 [slV (xs.map encS)] (slV (xs.map encS)) := by
 have hl := len_szL szS xs
 refine sat_of_code tbOk mixed Tryz.func109 rfl rfl rfl (by decide +kernel) (by decide +kernel) (Nat.le_of_ble_eq_true rfl) ?_
 simp -implicitDefEqProofs (disch := omega) only [go_sem]
 refine ⟨⟨by omega, by omega⟩, fun _ => ?_⟩
 refine loopA_rule (ι := Nat) (fun i => mk 22 [(0, slV (xs.map encS)), (3, .one (.own 7 xs.length)), (4, intV i)] [(7, .arr 9 1 (rowsAt encS zString xs i) false)]) (fun i => i ≤ xs.length) (fun i => xs.length - i) 0 (Nat.zero_le _) ?_ tbOk mixed (by decide +kernel) ?_
 ·exact le_mk (by simp [go_sem]) (by simp [go_sem, rowsAt_zero, List.mem_replicate])
 ·intro i hi
  have hlen := rowsAt_len (ec := encS) (z := zString) hi
  rcases Nat.lt_or_ge i xs.length with hlt | hge
  ·have hg := map_getD (ec := encS) hlt
   have hr := rowsAt_get (ec := encS) (z := zString) hlt
   have hset := rowsAt_set (ec := encS) (z := zString) hlt
   simp only [encS, List.map_cons, List.map_nil] at hg hset
   simp -implicitDefEqProofs (disch := omega) only [go_sem, hg, hlt, hlen, hr, hset]
   refine ⟨by simp [zString, unD], fun _ => ⟨i + 1, hlt, by omega, le_mk (by simp [go_sem]) ?_⟩⟩
   simp only [leB, lookB_cons, if_true, inB, true_and, and_true]
   exact rowsAt_inC (by simp [zString, inC])
  ·have : i = xs.length := by omega
   subst this
   have hv := rowsAt_view (ec := encS) (z := zString) (Nat.le_refl xs.length)
   simp -implicitDefEqProofs (disch := omega) only [go_sem, hlen, hv, Nat.lt_irrefl]
   exact rowsAt_isV (Nat.le_refl _)
theorem eqStringS_sat (xs : List ByteArray) (hw : wfL wfS xs) (ys : List ByteArray) : Sat Tryz.prog 114 [slV (xs.map encS), slV (ys.map encS)] (boolV (eqL eqS xs ys)) := by
 have hl := hw.1
 simp only [maxLen] at hl
 refine sat_of_code tbOk mixed Tryz.func114 rfl rfl rfl (by decide +kernel) (by decide +kernel) (Nat.le_of_ble_eq_true rfl) ?_
 simp -implicitDefEqProofs (disch := omega) only [go_sem]
 refine ⟨fun h4 => ?_, fun h4 => ?_⟩
 ·rw [eqL_len eqS xs ys (by omega)]
 ·have hll : xs.length = ys.length := by simp at h4; omega
  refine loopA_rule (ι := Nat) (fun i => mk 26 [(0, slV (xs.map encS)), (1, slV (ys.map encS)), (5, intV i)] [])
   (fun i => i ≤ xs.length ∧ eqL eqS (xs.drop i) (ys.drop i) = eqL eqS xs ys) (fun i => xs.length - i) 0 ⟨Nat.zero_le _, by simp⟩ ?_ tbOk mixed (by decide +kernel) ?_
  ·exact le_mk (by simp [go_sem]) (by simp [go_sem])
  ·rintro i ⟨hi, he⟩
   rcases Nat.lt_or_ge i xs.length with hlt | hge
   ·have hlt' : i < ys.length := by omega
    have hg := map_getD (ec := encS) hlt
    have hg' := map_getD (ec := encS) hlt'
    rw [eqL_drop eqS xs ys i hlt hlt'] at he
    have hx := hw.2 _ (List.getElem_mem hlt)
    generalize xs[i] = x at hg he hx
    generalize ys[i] = y at hg' he
    simp only [encS] at hg hg'
    simp only [eqS] at he
    simp -implicitDefEqProofs (disch := omega) only [go_sem, hg, hg', hlt, hlt']
    refine ⟨fun h => ?_, fun h => ⟨i + 1, ⟨hlt, ?_⟩, by omega, le_mk (by simp [go_sem]) (by simp [go_sem])⟩⟩
    ·grind
    ·grind
   ·have e1 : xs.drop i = [] := List.drop_of_length_le hge
    have e2 : ys.drop i = [] := List.drop_of_length_le (by omega)
    rw [e1, e2] at he
    simp -implicitDefEqProofs (disch := omega) only [go_sem, Nat.not_lt.2 hge]
    rw [← he]; rfl
theorem szGuard_sat (x : GGuard) (hw : x.wf) (b : Int) (h0 : 0 ≤ b) (h1 : b < 1048577) : Sat Tryz.prog 207 [aggV x.enc, intV b] (intV (szR x.size b)) := by
 obtain ⟨r, hr⟩ : ∃ r, r = szR x.size b := ⟨_, rfl⟩
 rw [← hr]
 obtain ⟨xkd, ⟨xlek, xlen, xles, xlet⟩, ⟨xrik, xrin, xris, xrit⟩⟩ := x
 simp only [GGuard.wf, wfI, wfS, wfB, maxLen] at hw
 simp only [GGuard.size, szI, szS] at hr
 refine sat_of_code tbOk mixed Tryz.func207 rfl rfl rfl (by decide +kernel) (by decide +kernel) (Nat.le_of_ble_eq_true rfl) ?_
 simp -implicitDefEqProofs (disch := omega) only [go_sem, GGuard.enc, Tm.enc, encB, encI, encL, encS, List.cons_append, List.nil_append, List.append_nil]
 have hb0 : -1 ≤ szR (Tm.size (.mk xlek xlen xles xlet)) b ∧ szR (Tm.size (.mk xlek xlen xles xlet)) b ≤ 1048576 := by grind [szR]
 refine CallK.mk (szTerm_sat (.mk xlek xlen xles xlet) hw.2.1 b (by grind [szR]) (by grind [szR])) ?_
 simp -implicitDefEqProofs (disch := omega) only [go_sem, GGuard.enc, Tm.enc, encB, encI, encL, encS, List.cons_append, List.nil_append, List.append_nil]
 refine ⟨fun h0 => by grind [szR], fun h0 => ?_⟩
 have hb1 : -1 ≤ szR (Tm.size (.mk xrik xrin xris xrit)) (szR (Tm.size (.mk xlek xlen xles xlet)) b) ∧ szR (Tm.size (.mk xrik xrin xris xrit)) (szR (Tm.size (.mk xlek xlen xles xlet)) b) ≤ 1048576 := by grind [szR]
 refine CallK.mk (szTerm_sat (.mk xrik xrin xris xrit) hw.2.2 (szR (Tm.size (.mk xlek xlen xles xlet)) b) (by grind [szR]) (by grind [szR])) ?_
 simp -implicitDefEqProofs (disch := omega) only [go_sem, GGuard.enc, Tm.enc, encB, encI, encL, encS, List.cons_append, List.nil_append, List.append_nil]
 grind [szR]
theorem toGuard_sat (x : GGuard) (hs : x.size < 1048577) : Sat Tryz.prog 208 [aggV x.enc] (aggV x.enc) := by
 obtain ⟨xkd, ⟨xlek, xlen, xles, xlet⟩, ⟨xrik, xrin, xris, xrit⟩⟩ := x
 simp only [GGuard.size, szI, szS] at hs
 refine sat_of_code tbOk mixed Tryz.func208 rfl rfl rfl (by decide +kernel) (by decide +kernel) (Nat.le_of_ble_eq_true rfl) ?_
 simp -implicitDefEqProofs (disch := omega) only [go_sem, GGuard.enc, Tm.enc, encB, encI, encL, encS, List.cons_append, List.nil_append, List.append_nil]
 refine CallK.mk (toTerm_sat (.mk xlek xlen xles xlet) (by omega)) ?_
 simp -implicitDefEqProofs (disch := omega) only [go_sem, GGuard.enc, Tm.enc, encB, encI, encL, encS, List.cons_append, List.nil_append, List.append_nil]
 refine CallK.mk (toTerm_sat (.mk xrik xrin xris xrit) (by omega)) ?_
 simp -implicitDefEqProofs (disch := omega) only [go_sem, GGuard.enc, Tm.enc, encB, encI, encL, encS, List.cons_append, List.nil_append, List.append_nil]
 rfl
theorem eqGuard_sat (x : GGuard) (hw : x.wf) (y : GGuard) : Sat Tryz.prog 209 [aggV x.enc, aggV y.enc] (boolV (x.eqb y)) := by
 obtain ⟨r, hr⟩ : ∃ r, r = x.eqb y := ⟨_, rfl⟩
 rw [← hr]
 obtain ⟨xkd, ⟨xlek, xlen, xles, xlet⟩, ⟨xrik, xrin, xris, xrit⟩⟩ := x
 obtain ⟨ykd, ⟨ylek, ylen, yles, ylet⟩, ⟨yrik, yrin, yris, yrit⟩⟩ := y
 simp only [GGuard.wf] at hw
 simp only [GGuard.eqb, eqI, eqS, eqB] at hr
 refine sat_of_code tbOk mixed Tryz.func209 rfl rfl rfl (by decide +kernel) (by decide +kernel) (Nat.le_of_ble_eq_true rfl) ?_
 simp -implicitDefEqProofs (disch := omega) only [go_sem, GGuard.enc, Tm.enc, encB, encI, encL, encS, List.cons_append, List.nil_append, List.append_nil]
 refine ⟨fun h0 => by grind, fun h0 => ?_⟩
 refine CallK.mk (eqTerm_sat (.mk xlek xlen xles xlet) hw.2.1 (.mk ylek ylen yles ylet)) ?_
 simp -implicitDefEqProofs (disch := omega) only [go_sem, GGuard.enc, Tm.enc, encB, encI, encL, encS, List.cons_append, List.nil_append, List.append_nil]
 refine ⟨fun h1 => by grind, fun h1 => ?_⟩
 refine CallK.mk (eqTerm_sat (.mk xrik xrin xris xrit) hw.2.2 (.mk yrik yrin yris yrit)) ?_
 simp -implicitDefEqProofs (disch := omega) only [go_sem, GGuard.enc, Tm.enc, encB, encI, encL, encS, List.cons_append, List.nil_append, List.append_nil]
 grind
theorem szGuardS_sat (xs : List GGuard) (hw : wfL GGuard.wf xs) (b : Int) (h0 : 0 ≤ b) (h1 : b < 1048577) : Sat Tryz.prog 165 [slV (xs.map GGuard.enc), intV b] (intV (szR (szL GGuard.size xs) b)) := by
 have hl := hw.1
 simp only [maxLen] at hl
 refine sat_of_code tbOk mixed Tryz.func165 rfl rfl rfl (by decide +kernel) (by decide +kernel) (Nat.le_of_ble_eq_true rfl) ?_
 simp -implicitDefEqProofs (disch := omega) only [go_sem]
 refine ⟨fun h => ?_, fun h => ?_⟩
 ·have := len_szL GGuard.size xs
  grind [szR]
 ·refine loopA_rule (ι := Nat × Int) (fun i => mk 27 [(0, slV (xs.map GGuard.enc)), (5, intV i.1), (1, intV i.2)] []) (fun i => i.1 ≤ xs.length ∧ i.2 - ((szL GGuard.size (xs.drop i.1) : Int) - (xs.length - i.1)) = b - szL GGuard.size xs ∧ 0 ≤ i.2 ∧ i.2 < 1048577) (fun i => xs.length - i.1) (0, b - xs.length) ?_ ?_ tbOk mixed (by decide +kernel) ?_
  ·simp; omega
  ·exact le_mk (by simp [go_sem]) (by simp [go_sem])
  ·rintro ⟨i, c⟩ ⟨hi, hc, hc0, hc1⟩
   simp only at hi hc hc0 hc1
   rcases Nat.lt_or_ge i xs.length with hlt | hge
   ·have hg := map_getD (ec := GGuard.enc) hlt
    have hz := szL_drop GGuard.size xs i hlt
    have hz2 := len_szL GGuard.size (xs.drop (i + 1))
    simp only [List.length_drop] at hz2
    have hx := hw.2 _ (List.getElem_mem hlt)
    generalize xs[i] = x at hg hz hx
    simp -implicitDefEqProofs (disch := omega) only [go_sem, hg, hlt]
    refine CallK.mk (szGuard_sat x hx c hc0 (by omega)) ?_
    simp -implicitDefEqProofs (disch := omega) only [go_sem]
    refine ⟨fun h => ?_, fun h => ⟨(i + 1, szR (GGuard.size x) c), ⟨hlt, ?_⟩, ?_, le_mk (by simp [go_sem]) (by simp [go_sem])⟩⟩
    ·grind [szR]
    ·grind [szR]
    ·simp only; omega
   ·simp -implicitDefEqProofs (disch := omega) only [go_sem, Nat.not_lt.2 hge]
    rw [List.drop_of_length_le hge] at hc
    simp only [szL] at hc
    grind [szR]
abbrev zGuard : List AC := [iC 0, iC 0, iC 0, sC ⟨⟨[]⟩⟩, .nil, iC 0, iC 0, sC ⟨⟨[]⟩⟩, .nil]
theorem toGuardS_sat (xs : List GGuard) (hs : szL GGuard.size xs < 1048577) : Sat Tryz.prog 167 [slV (xs.map GGuard.enc)] (slV (xs.map GGuard.enc)) := by
 have hl := len_szL GGuard.size xs
 refine sat_of_code tbOk mixed Tryz.func167 rfl rfl rfl (by decide +kernel) (by decide +kernel) (Nat.le_of_ble_eq_true rfl) ?_
 simp -implicitDefEqProofs (disch := omega) only [go_sem]
 refine ⟨⟨by omega, by omega⟩, fun _ => ?_⟩
 refine loopA_rule (ι := Nat) (fun i => mk 23 [(0, slV (xs.map GGuard.enc)), (3, .one (.own 7 xs.length)), (4, intV i)] [(7, .arr 211 9 (rowsAt GGuard.enc zGuard xs i) false)]) (fun i => i ≤ xs.length) (fun i => xs.length - i) 0 (Nat.zero_le _) ?_ tbOk mixed (by decide +kernel) ?_
 ·exact le_mk (by simp [go_sem]) (by simp [go_sem, rowsAt_zero, List.mem_replicate])
 ·intro i hi
  have hlen := rowsAt_len (ec := GGuard.enc) (z := zGuard) hi
  rcases Nat.lt_or_ge i xs.length with hlt | hge
  ·have hg := map_getD (ec := GGuard.enc) hlt
   have hr := rowsAt_get (ec := GGuard.enc) (z := zGuard) hlt
   have hset := rowsAt_set (ec := GGuard.enc) (z := zGuard) hlt
   have hm := szL_mem GGuard.size xs _ (List.getElem_mem hlt)
   simp -implicitDefEqProofs (disch := omega) only [go_sem, hg, hlt, hlen]
   refine CallK.mk (toGuard_sat _ (by omega)) ?_
   simp -implicitDefEqProofs (disch := omega) only [go_sem, hlen, hlt, List.length_map, hr, hset]
   refine ⟨by simp [zGuard, unD], fun _ => ⟨i + 1, hlt, by omega, le_mk (by simp [go_sem]) ?_⟩⟩
   simp only [leB, lookB_cons, if_true, inB, true_and, and_true]
   exact rowsAt_inC (by simp [zGuard, inC])
  ·have : i = xs.length := by omega
   subst this
   have hv := rowsAt_view (ec := GGuard.enc) (z := zGuard) (Nat.le_refl xs.length)
   simp -implicitDefEqProofs (disch := omega) only [go_sem, hlen, hv, Nat.lt_irrefl]
   exact rowsAt_isV (Nat.le_refl _)
theorem eqGuardS_sat (xs : List GGuard) (hw : wfL GGuard.wf xs) (ys : List GGuard) : Sat Tryz.prog 169 [slV (xs.map GGuard.enc), slV (ys.map GGuard.enc)] (boolV (eqL GGuard.eqb xs ys)) := by
 have hl := hw.1
 simp only [maxLen] at hl
 refine sat_of_code tbOk mixed Tryz.func169 rfl rfl rfl (by decide +kernel) (by decide +kernel) (Nat.le_of_ble_eq_true rfl) ?_
 simp -implicitDefEqProofs (disch := omega) only [go_sem]
 refine ⟨fun h4 => ?_, fun h4 => ?_⟩
 ·rw [eqL_len GGuard.eqb xs ys (by omega)]
 ·have hll : xs.length = ys.length := by simp at h4; omega
  refine loopA_rule (ι := Nat) (fun i => mk 27 [(0, slV (xs.map GGuard.enc)), (1, slV (ys.map GGuard.enc)), (5, intV i)] [])
   (fun i => i ≤ xs.length ∧ eqL GGuard.eqb (xs.drop i) (ys.drop i) = eqL GGuard.eqb xs ys) (fun i => xs.length - i) 0 ⟨Nat.zero_le _, by simp⟩ ?_ tbOk mixed (by decide +kernel) ?_
  ·exact le_mk (by simp [go_sem]) (by simp [go_sem])
  ·rintro i ⟨hi, he⟩
   rcases Nat.lt_or_ge i xs.length with hlt | hge
   ·have hlt' : i < ys.length := by omega
    have hg := map_getD (ec := GGuard.enc) hlt
    have hg' := map_getD (ec := GGuard.enc) hlt'
    rw [eqL_drop GGuard.eqb xs ys i hlt hlt'] at he
    have hx := hw.2 _ (List.getElem_mem hlt)
    generalize xs[i] = x at hg he hx
    generalize ys[i] = y at hg' he
    simp -implicitDefEqProofs (disch := omega) only [go_sem, hg, hg', hlt, hlt']
    refine CallK.mk (eqGuard_sat x hx y) ?_
    simp -implicitDefEqProofs (disch := omega) only [go_sem]
    refine ⟨fun h => ?_, fun h => ⟨i + 1, ⟨hlt, ?_⟩, by omega, le_mk (by simp [go_sem]) (by simp [go_sem])⟩⟩
    ·rw [h] at he; simpa using he
    ·rw [h] at he; simpa using he
   ·have e1 : xs.drop i = [] := List.drop_of_length_le hge
    have e2 : ys.drop i = [] := List.drop_of_length_le (by omega)
    rw [e1, e2] at he
    simp -implicitDefEqProofs (disch := omega) only [go_sem, Nat.not_lt.2 hge]
    rw [← he]; rfl
theorem szRule_sat (x : GRule) (hw : x.wf) (b : Int) (h0 : 0 ≤ b) (h1 : b < 1048577) : Sat Tryz.prog 106 [aggV x.enc, intV b] (intV (szR x.size b)) := by
 obtain ⟨r, hr⟩ : ∃ r, r = szR x.size b := ⟨_, rfl⟩
 rw [← hr]
 obtain ⟨xna, ⟨xlek, xlen, xles, xlet⟩, ⟨xrik, xrin, xris, xrit⟩, xgu⟩ := x
 simp only [GRule.wf, wfI, wfS, wfB, maxLen] at hw
 simp only [GRule.size, szI, szS] at hr
 refine sat_of_code tbOk mixed Tryz.func106 rfl rfl rfl (by decide +kernel) (by decide +kernel) (Nat.le_of_ble_eq_true rfl) ?_
 simp -implicitDefEqProofs (disch := omega) only [go_sem, GRule.enc, Tm.enc, encB, encI, encL, encS, List.cons_append, List.nil_append, List.append_nil]
 refine ⟨fun h0 => by grind [szR], fun h0 => ?_⟩
 have hb1 : -1 ≤ szR (Tm.size (.mk xlek xlen xles xlet)) (b - xna.size) ∧ szR (Tm.size (.mk xlek xlen xles xlet)) (b - xna.size) ≤ 1048576 := by grind [szR]
 refine CallK.mk (szTerm_sat (.mk xlek xlen xles xlet) hw.2.1 (b - xna.size) (by grind [szR]) (by grind [szR])) ?_
 simp -implicitDefEqProofs (disch := omega) only [go_sem, GRule.enc, Tm.enc, encB, encI, encL, encS, List.cons_append, List.nil_append, List.append_nil]
 refine ⟨fun h1 => by grind [szR], fun h1 => ?_⟩
 have hb2 : -1 ≤ szR (Tm.size (.mk xrik xrin xris xrit)) (szR (Tm.size (.mk xlek xlen xles xlet)) (b - xna.size)) ∧ szR (Tm.size (.mk xrik xrin xris xrit)) (szR (Tm.size (.mk xlek xlen xles xlet)) (b - xna.size)) ≤ 1048576 := by grind [szR]
 refine CallK.mk (szTerm_sat (.mk xrik xrin xris xrit) hw.2.2.1 (szR (Tm.size (.mk xlek xlen xles xlet)) (b - xna.size)) (by grind [szR]) (by grind [szR])) ?_
 simp -implicitDefEqProofs (disch := omega) only [go_sem, GRule.enc, Tm.enc, encB, encI, encL, encS, List.cons_append, List.nil_append, List.append_nil]
 refine ⟨fun h2 => by grind [szR], fun h2 => ?_⟩
 have hb3 : -1 ≤ szR ((szL GGuard.size) xgu) (szR (Tm.size (.mk xrik xrin xris xrit)) (szR (Tm.size (.mk xlek xlen xles xlet)) (b - xna.size))) ∧ szR ((szL GGuard.size) xgu) (szR (Tm.size (.mk xrik xrin xris xrit)) (szR (Tm.size (.mk xlek xlen xles xlet)) (b - xna.size))) ≤ 1048576 := by grind [szR]
 refine CallK.mk (szGuardS_sat xgu hw.2.2.2 (szR (Tm.size (.mk xrik xrin xris xrit)) (szR (Tm.size (.mk xlek xlen xles xlet)) (b - xna.size))) (by grind [szR]) (by grind [szR])) ?_
 simp -implicitDefEqProofs (disch := omega) only [go_sem, GRule.enc, Tm.enc, encB, encI, encL, encS, List.cons_append, List.nil_append, List.append_nil]
 grind [szR]
theorem toRule_sat (x : GRule) (hs : x.size < 1048577) : Sat Tryz.prog 111 [aggV x.enc] (aggV x.enc) := by
 obtain ⟨xna, ⟨xlek, xlen, xles, xlet⟩, ⟨xrik, xrin, xris, xrit⟩, xgu⟩ := x
 simp only [GRule.size, szI, szS] at hs
 refine sat_of_code tbOk mixed Tryz.func111 rfl rfl rfl (by decide +kernel) (by decide +kernel) (Nat.le_of_ble_eq_true rfl) ?_
 simp -implicitDefEqProofs (disch := omega) only [go_sem, GRule.enc, Tm.enc, encB, encI, encL, encS, List.cons_append, List.nil_append, List.append_nil]
 refine CallK.mk (toTerm_sat (.mk xlek xlen xles xlet) (by omega)) ?_
 simp -implicitDefEqProofs (disch := omega) only [go_sem, GRule.enc, Tm.enc, encB, encI, encL, encS, List.cons_append, List.nil_append, List.append_nil]
 refine CallK.mk (toTerm_sat (.mk xrik xrin xris xrit) (by omega)) ?_
 simp -implicitDefEqProofs (disch := omega) only [go_sem, GRule.enc, Tm.enc, encB, encI, encL, encS, List.cons_append, List.nil_append, List.append_nil]
 refine CallK.mk (toGuardS_sat xgu (by omega)) ?_
 simp -implicitDefEqProofs (disch := omega) only [go_sem, GRule.enc, Tm.enc, encB, encI, encL, encS, List.cons_append, List.nil_append, List.append_nil]
 rfl
theorem eqRule_sat (x : GRule) (hw : x.wf) (y : GRule) : Sat Tryz.prog 116 [aggV x.enc, aggV y.enc] (boolV (x.eqb y)) := by
 obtain ⟨r, hr⟩ : ∃ r, r = x.eqb y := ⟨_, rfl⟩
 rw [← hr]
 obtain ⟨xna, ⟨xlek, xlen, xles, xlet⟩, ⟨xrik, xrin, xris, xrit⟩, xgu⟩ := x
 obtain ⟨yna, ⟨ylek, ylen, yles, ylet⟩, ⟨yrik, yrin, yris, yrit⟩, ygu⟩ := y
 simp only [GRule.wf] at hw
 simp only [GRule.eqb, eqI, eqS, eqB] at hr
 refine sat_of_code tbOk mixed Tryz.func116 rfl rfl rfl (by decide +kernel) (by decide +kernel) (Nat.le_of_ble_eq_true rfl) ?_
 simp -implicitDefEqProofs (disch := omega) only [go_sem, GRule.enc, Tm.enc, encB, encI, encL, encS, List.cons_append, List.nil_append, List.append_nil]
 refine ⟨fun h0 => by grind, fun h0 => ?_⟩
 refine CallK.mk (eqTerm_sat (.mk xlek xlen xles xlet) hw.2.1 (.mk ylek ylen yles ylet)) ?_
 simp -implicitDefEqProofs (disch := omega) only [go_sem, GRule.enc, Tm.enc, encB, encI, encL, encS, List.cons_append, List.nil_append, List.append_nil]
 refine ⟨fun h1 => by grind, fun h1 => ?_⟩
 refine CallK.mk (eqTerm_sat (.mk xrik xrin xris xrit) hw.2.2.1 (.mk yrik yrin yris yrit)) ?_
 simp -implicitDefEqProofs (disch := omega) only [go_sem, GRule.enc, Tm.enc, encB, encI, encL, encS, List.cons_append, List.nil_append, List.append_nil]
 refine ⟨fun h2 => by grind, fun h2 => ?_⟩
 refine CallK.mk (eqGuardS_sat xgu hw.2.2.2 ygu) ?_
 simp -implicitDefEqProofs (disch := omega) only [go_sem, GRule.enc, Tm.enc, encB, encI, encL, encS, List.cons_append, List.nil_append, List.append_nil]
 grind
theorem szRuleS_sat (xs : List GRule) (hw : wfL GRule.wf xs) (b : Int) (h0 : 0 ≤ b) (h1 : b < 1048577) : Sat Tryz.prog 48 [slV (xs.map GRule.enc), intV b] (intV (szR (szL GRule.size xs) b)) := by
 have hl := hw.1
 simp only [maxLen] at hl
 refine sat_of_code tbOk mixed Tryz.func48 rfl rfl rfl (by decide +kernel) (by decide +kernel) (Nat.le_of_ble_eq_true rfl) ?_
 simp -implicitDefEqProofs (disch := omega) only [go_sem]
 refine ⟨fun h => ?_, fun h => ?_⟩
 ·have := len_szL GRule.size xs
  grind [szR]
 ·refine loopA_rule (ι := Nat × Int) (fun i => mk 27 [(0, slV (xs.map GRule.enc)), (5, intV i.1), (1, intV i.2)] []) (fun i => i.1 ≤ xs.length ∧ i.2 - ((szL GRule.size (xs.drop i.1) : Int) - (xs.length - i.1)) = b - szL GRule.size xs ∧ 0 ≤ i.2 ∧ i.2 < 1048577) (fun i => xs.length - i.1) (0, b - xs.length) ?_ ?_ tbOk mixed (by decide +kernel) ?_
  ·simp; omega
  ·exact le_mk (by simp [go_sem]) (by simp [go_sem])
  ·rintro ⟨i, c⟩ ⟨hi, hc, hc0, hc1⟩
   simp only at hi hc hc0 hc1
   rcases Nat.lt_or_ge i xs.length with hlt | hge
   ·have hg := map_getD (ec := GRule.enc) hlt
    have hz := szL_drop GRule.size xs i hlt
    have hz2 := len_szL GRule.size (xs.drop (i + 1))
    simp only [List.length_drop] at hz2
    have hx := hw.2 _ (List.getElem_mem hlt)
    generalize xs[i] = x at hg hz hx
    simp -implicitDefEqProofs (disch := omega) only [go_sem, hg, hlt]
    refine CallK.mk (szRule_sat x hx c hc0 (by omega)) ?_
    simp -implicitDefEqProofs (disch := omega) only [go_sem]
    refine ⟨fun h => ?_, fun h => ⟨(i + 1, szR (GRule.size x) c), ⟨hlt, ?_⟩, ?_, le_mk (by simp [go_sem]) (by simp [go_sem])⟩⟩
    ·grind [szR]
    ·grind [szR]
    ·simp only; omega
   ·simp -implicitDefEqProofs (disch := omega) only [go_sem, Nat.not_lt.2 hge]
    rw [List.drop_of_length_le hge] at hc
    simp only [szL] at hc
    grind [szR]
abbrev zRule : List AC := [sC ⟨⟨[]⟩⟩, iC 0, iC 0, sC ⟨⟨[]⟩⟩, .nil, iC 0, iC 0, sC ⟨⟨[]⟩⟩, .nil, .nil]
theorem toRuleS_sat (xs : List GRule) (hs : szL GRule.size xs < 1048577) : Sat Tryz.prog 53 [slV (xs.map GRule.enc)] (slV (xs.map GRule.enc)) := by
 have hl := len_szL GRule.size xs
 refine sat_of_code tbOk mixed Tryz.func53 rfl rfl rfl (by decide +kernel) (by decide +kernel) (Nat.le_of_ble_eq_true rfl) ?_
 simp -implicitDefEqProofs (disch := omega) only [go_sem]
 refine ⟨⟨by omega, by omega⟩, fun _ => ?_⟩
 refine loopA_rule (ι := Nat) (fun i => mk 23 [(0, slV (xs.map GRule.enc)), (3, .one (.own 7 xs.length)), (4, intV i)] [(7, .arr 157 10 (rowsAt GRule.enc zRule xs i) false)]) (fun i => i ≤ xs.length) (fun i => xs.length - i) 0 (Nat.zero_le _) ?_ tbOk mixed (by decide +kernel) ?_
 ·exact le_mk (by simp [go_sem]) (by simp [go_sem, rowsAt_zero, List.mem_replicate])
 ·intro i hi
  have hlen := rowsAt_len (ec := GRule.enc) (z := zRule) hi
  rcases Nat.lt_or_ge i xs.length with hlt | hge
  ·have hg := map_getD (ec := GRule.enc) hlt
   have hr := rowsAt_get (ec := GRule.enc) (z := zRule) hlt
   have hset := rowsAt_set (ec := GRule.enc) (z := zRule) hlt
   have hm := szL_mem GRule.size xs _ (List.getElem_mem hlt)
   simp -implicitDefEqProofs (disch := omega) only [go_sem, hg, hlt, hlen]
   refine CallK.mk (toRule_sat _ (by omega)) ?_
   simp -implicitDefEqProofs (disch := omega) only [go_sem, hlen, hlt, List.length_map, hr, hset]
   refine ⟨by simp [zRule, unD], fun _ => ⟨i + 1, hlt, by omega, le_mk (by simp [go_sem]) ?_⟩⟩
   simp only [leB, lookB_cons, if_true, inB, true_and, and_true]
   exact rowsAt_inC (by simp [zRule, inC])
  ·have : i = xs.length := by omega
   subst this
   have hv := rowsAt_view (ec := GRule.enc) (z := zRule) (Nat.le_refl xs.length)
   simp -implicitDefEqProofs (disch := omega) only [go_sem, hlen, hv, Nat.lt_irrefl]
   exact rowsAt_isV (Nat.le_refl _)
theorem eqRuleS_sat (xs : List GRule) (hw : wfL GRule.wf xs) (ys : List GRule) : Sat Tryz.prog 58 [slV (xs.map GRule.enc), slV (ys.map GRule.enc)] (boolV (eqL GRule.eqb xs ys)) := by
 have hl := hw.1
 simp only [maxLen] at hl
 refine sat_of_code tbOk mixed Tryz.func58 rfl rfl rfl (by decide +kernel) (by decide +kernel) (Nat.le_of_ble_eq_true rfl) ?_
 simp -implicitDefEqProofs (disch := omega) only [go_sem]
 refine ⟨fun h4 => ?_, fun h4 => ?_⟩
 ·rw [eqL_len GRule.eqb xs ys (by omega)]
 ·have hll : xs.length = ys.length := by simp at h4; omega
  refine loopA_rule (ι := Nat) (fun i => mk 27 [(0, slV (xs.map GRule.enc)), (1, slV (ys.map GRule.enc)), (5, intV i)] [])
   (fun i => i ≤ xs.length ∧ eqL GRule.eqb (xs.drop i) (ys.drop i) = eqL GRule.eqb xs ys) (fun i => xs.length - i) 0 ⟨Nat.zero_le _, by simp⟩ ?_ tbOk mixed (by decide +kernel) ?_
  ·exact le_mk (by simp [go_sem]) (by simp [go_sem])
  ·rintro i ⟨hi, he⟩
   rcases Nat.lt_or_ge i xs.length with hlt | hge
   ·have hlt' : i < ys.length := by omega
    have hg := map_getD (ec := GRule.enc) hlt
    have hg' := map_getD (ec := GRule.enc) hlt'
    rw [eqL_drop GRule.eqb xs ys i hlt hlt'] at he
    have hx := hw.2 _ (List.getElem_mem hlt)
    generalize xs[i] = x at hg he hx
    generalize ys[i] = y at hg' he
    simp -implicitDefEqProofs (disch := omega) only [go_sem, hg, hg', hlt, hlt']
    refine CallK.mk (eqRule_sat x hx y) ?_
    simp -implicitDefEqProofs (disch := omega) only [go_sem]
    refine ⟨fun h => ?_, fun h => ⟨i + 1, ⟨hlt, ?_⟩, by omega, le_mk (by simp [go_sem]) (by simp [go_sem])⟩⟩
    ·rw [h] at he; simpa using he
    ·rw [h] at he; simpa using he
   ·have e1 : xs.drop i = [] := List.drop_of_length_le hge
    have e2 : ys.drop i = [] := List.drop_of_length_le (by omega)
    rw [e1, e2] at he
    simp -implicitDefEqProofs (disch := omega) only [go_sem, Nat.not_lt.2 hge]
    rw [← he]; rfl
theorem szOp_sat (x : GOp) (hw : x.wf) (b : Int) (h0 : 0 ≤ b) (h1 : b < 1048577) : Sat Tryz.prog 164 [aggV x.enc, intV b] (intV (szR x.size b)) := by
 obtain ⟨r, hr⟩ : ∃ r, r = szR x.size b := ⟨_, rfl⟩
 rw [← hr]
 obtain ⟨xna, xar, xre⟩ := x
 simp only [GOp.wf, wfI, wfS, wfB, maxLen] at hw
 simp only [GOp.size, szI, szS] at hr
 refine sat_of_code tbOk mixed Tryz.func164 rfl rfl rfl (by decide +kernel) (by decide +kernel) (Nat.le_of_ble_eq_true rfl) ?_
 simp -implicitDefEqProofs (disch := omega) only [go_sem, GOp.enc, Tm.enc, encB, encI, encL, encS, List.cons_append, List.nil_append, List.append_nil]
 refine ⟨fun h0 => by grind [szR], fun h0 => ?_⟩
 have hb1 : -1 ≤ szR ((szL szS) xar) (b - xna.size) ∧ szR ((szL szS) xar) (b - xna.size) ≤ 1048576 := by grind [szR]
 refine CallK.mk (szStringS_sat xar hw.2.1 (b - xna.size) (by grind [szR]) (by grind [szR])) ?_
 simp -implicitDefEqProofs (disch := omega) only [go_sem, GOp.enc, Tm.enc, encB, encI, encL, encS, List.cons_append, List.nil_append, List.append_nil]
 refine ⟨fun h1 => by grind [szR], fun h1 => ?_⟩
 grind [szR]
theorem toOp_sat (x : GOp) (hs : x.size < 1048577) : Sat Tryz.prog 166 [aggV x.enc] (aggV x.enc) := by
 obtain ⟨xna, xar, xre⟩ := x
 simp only [GOp.size, szI, szS] at hs
 refine sat_of_code tbOk mixed Tryz.func166 rfl rfl rfl (by decide +kernel) (by decide +kernel) (Nat.le_of_ble_eq_true rfl) ?_
 simp -implicitDefEqProofs (disch := omega) only [go_sem, GOp.enc, Tm.enc, encB, encI, encL, encS, List.cons_append, List.nil_append, List.append_nil]
 refine CallK.mk (toStringS_sat xar (by omega)) ?_
 simp -implicitDefEqProofs (disch := omega) only [go_sem, GOp.enc, Tm.enc, encB, encI, encL, encS, List.cons_append, List.nil_append, List.append_nil]
 rfl
theorem eqOp_sat (x : GOp) (hw : x.wf) (y : GOp) : Sat Tryz.prog 168 [aggV x.enc, aggV y.enc] (boolV (x.eqb y)) := by
 obtain ⟨r, hr⟩ : ∃ r, r = x.eqb y := ⟨_, rfl⟩
 rw [← hr]
 obtain ⟨xna, xar, xre⟩ := x
 obtain ⟨yna, yar, yre⟩ := y
 simp only [GOp.wf] at hw
 simp only [GOp.eqb, eqI, eqS, eqB] at hr
 refine sat_of_code tbOk mixed Tryz.func168 rfl rfl rfl (by decide +kernel) (by decide +kernel) (Nat.le_of_ble_eq_true rfl) ?_
 simp -implicitDefEqProofs (disch := omega) only [go_sem, GOp.enc, Tm.enc, encB, encI, encL, encS, List.cons_append, List.nil_append, List.append_nil]
 refine ⟨fun h0 => by grind, fun h0 => ?_⟩
 refine CallK.mk (eqStringS_sat xar hw.2.1 yar) ?_
 simp -implicitDefEqProofs (disch := omega) only [go_sem, GOp.enc, Tm.enc, encB, encI, encL, encS, List.cons_append, List.nil_append, List.append_nil]
 refine ⟨fun h1 => by grind, fun h1 => ?_⟩
 grind
theorem szOpS_sat (xs : List GOp) (hw : wfL GOp.wf xs) (b : Int) (h0 : 0 ≤ b) (h1 : b < 1048577) : Sat Tryz.prog 105 [slV (xs.map GOp.enc), intV b] (intV (szR (szL GOp.size xs) b)) := by
 have hl := hw.1
 simp only [maxLen] at hl
 refine sat_of_code tbOk mixed Tryz.func105 rfl rfl rfl (by decide +kernel) (by decide +kernel) (Nat.le_of_ble_eq_true rfl) ?_
 simp -implicitDefEqProofs (disch := omega) only [go_sem]
 refine ⟨fun h => ?_, fun h => ?_⟩
 ·have := len_szL GOp.size xs
  grind [szR]
 ·refine loopA_rule (ι := Nat × Int) (fun i => mk 27 [(0, slV (xs.map GOp.enc)), (5, intV i.1), (1, intV i.2)] []) (fun i => i.1 ≤ xs.length ∧ i.2 - ((szL GOp.size (xs.drop i.1) : Int) - (xs.length - i.1)) = b - szL GOp.size xs ∧ 0 ≤ i.2 ∧ i.2 < 1048577) (fun i => xs.length - i.1) (0, b - xs.length) ?_ ?_ tbOk mixed (by decide +kernel) ?_
  ·simp; omega
  ·exact le_mk (by simp [go_sem]) (by simp [go_sem])
  ·rintro ⟨i, c⟩ ⟨hi, hc, hc0, hc1⟩
   simp only at hi hc hc0 hc1
   rcases Nat.lt_or_ge i xs.length with hlt | hge
   ·have hg := map_getD (ec := GOp.enc) hlt
    have hz := szL_drop GOp.size xs i hlt
    have hz2 := len_szL GOp.size (xs.drop (i + 1))
    simp only [List.length_drop] at hz2
    have hx := hw.2 _ (List.getElem_mem hlt)
    generalize xs[i] = x at hg hz hx
    simp -implicitDefEqProofs (disch := omega) only [go_sem, hg, hlt]
    refine CallK.mk (szOp_sat x hx c hc0 (by omega)) ?_
    simp -implicitDefEqProofs (disch := omega) only [go_sem]
    refine ⟨fun h => ?_, fun h => ⟨(i + 1, szR (GOp.size x) c), ⟨hlt, ?_⟩, ?_, le_mk (by simp [go_sem]) (by simp [go_sem])⟩⟩
    ·grind [szR]
    ·grind [szR]
    ·simp only; omega
   ·simp -implicitDefEqProofs (disch := omega) only [go_sem, Nat.not_lt.2 hge]
    rw [List.drop_of_length_le hge] at hc
    simp only [szL] at hc
    grind [szR]
abbrev zOp : List AC := [sC ⟨⟨[]⟩⟩, .nil, sC ⟨⟨[]⟩⟩]
theorem toOpS_sat (xs : List GOp) (hs : szL GOp.size xs < 1048577) : Sat Tryz.prog 110 [slV (xs.map GOp.enc)] (slV (xs.map GOp.enc)) := by
 have hl := len_szL GOp.size xs
 refine sat_of_code tbOk mixed Tryz.func110 rfl rfl rfl (by decide +kernel) (by decide +kernel) (Nat.le_of_ble_eq_true rfl) ?_
 simp -implicitDefEqProofs (disch := omega) only [go_sem]
 refine ⟨⟨by omega, by omega⟩, fun _ => ?_⟩
 refine loopA_rule (ι := Nat) (fun i => mk 23 [(0, slV (xs.map GOp.enc)), (3, .one (.own 7 xs.length)), (4, intV i)] [(7, .arr 204 3 (rowsAt GOp.enc zOp xs i) false)]) (fun i => i ≤ xs.length) (fun i => xs.length - i) 0 (Nat.zero_le _) ?_ tbOk mixed (by decide +kernel) ?_
 ·exact le_mk (by simp [go_sem]) (by simp [go_sem, rowsAt_zero, List.mem_replicate])
 ·intro i hi
  have hlen := rowsAt_len (ec := GOp.enc) (z := zOp) hi
  rcases Nat.lt_or_ge i xs.length with hlt | hge
  ·have hg := map_getD (ec := GOp.enc) hlt
   have hr := rowsAt_get (ec := GOp.enc) (z := zOp) hlt
   have hset := rowsAt_set (ec := GOp.enc) (z := zOp) hlt
   have hm := szL_mem GOp.size xs _ (List.getElem_mem hlt)
   simp -implicitDefEqProofs (disch := omega) only [go_sem, hg, hlt, hlen]
   refine CallK.mk (toOp_sat _ (by omega)) ?_
   simp -implicitDefEqProofs (disch := omega) only [go_sem, hlen, hlt, List.length_map, hr, hset]
   refine ⟨by simp [zOp, unD], fun _ => ⟨i + 1, hlt, by omega, le_mk (by simp [go_sem]) ?_⟩⟩
   simp only [leB, lookB_cons, if_true, inB, true_and, and_true]
   exact rowsAt_inC (by simp [zOp, inC])
  ·have : i = xs.length := by omega
   subst this
   have hv := rowsAt_view (ec := GOp.enc) (z := zOp) (Nat.le_refl xs.length)
   simp -implicitDefEqProofs (disch := omega) only [go_sem, hlen, hv, Nat.lt_irrefl]
   exact rowsAt_isV (Nat.le_refl _)
theorem eqOpS_sat (xs : List GOp) (hw : wfL GOp.wf xs) (ys : List GOp) : Sat Tryz.prog 115 [slV (xs.map GOp.enc), slV (ys.map GOp.enc)] (boolV (eqL GOp.eqb xs ys)) := by
 have hl := hw.1
 simp only [maxLen] at hl
 refine sat_of_code tbOk mixed Tryz.func115 rfl rfl rfl (by decide +kernel) (by decide +kernel) (Nat.le_of_ble_eq_true rfl) ?_
 simp -implicitDefEqProofs (disch := omega) only [go_sem]
 refine ⟨fun h4 => ?_, fun h4 => ?_⟩
 ·rw [eqL_len GOp.eqb xs ys (by omega)]
 ·have hll : xs.length = ys.length := by simp at h4; omega
  refine loopA_rule (ι := Nat) (fun i => mk 27 [(0, slV (xs.map GOp.enc)), (1, slV (ys.map GOp.enc)), (5, intV i)] [])
   (fun i => i ≤ xs.length ∧ eqL GOp.eqb (xs.drop i) (ys.drop i) = eqL GOp.eqb xs ys) (fun i => xs.length - i) 0 ⟨Nat.zero_le _, by simp⟩ ?_ tbOk mixed (by decide +kernel) ?_
  ·exact le_mk (by simp [go_sem]) (by simp [go_sem])
  ·rintro i ⟨hi, he⟩
   rcases Nat.lt_or_ge i xs.length with hlt | hge
   ·have hlt' : i < ys.length := by omega
    have hg := map_getD (ec := GOp.enc) hlt
    have hg' := map_getD (ec := GOp.enc) hlt'
    rw [eqL_drop GOp.eqb xs ys i hlt hlt'] at he
    have hx := hw.2 _ (List.getElem_mem hlt)
    generalize xs[i] = x at hg he hx
    generalize ys[i] = y at hg' he
    simp -implicitDefEqProofs (disch := omega) only [go_sem, hg, hg', hlt, hlt']
    refine CallK.mk (eqOp_sat x hx y) ?_
    simp -implicitDefEqProofs (disch := omega) only [go_sem]
    refine ⟨fun h => ?_, fun h => ⟨i + 1, ⟨hlt, ?_⟩, by omega, le_mk (by simp [go_sem]) (by simp [go_sem])⟩⟩
    ·rw [h] at he; simpa using he
    ·rw [h] at he; simpa using he
   ·have e1 : xs.drop i = [] := List.drop_of_length_le hge
    have e2 : ys.drop i = [] := List.drop_of_length_le (by omega)
    rw [e1, e2] at he
    simp -implicitDefEqProofs (disch := omega) only [go_sem, Nat.not_lt.2 hge]
    rw [← he]; rfl
theorem szSignature_sat (x : GSignature) (hw : x.wf) (b : Int) (h0 : 0 ≤ b) (h1 : b < 1048577) : Sat Tryz.prog 47 [aggV x.enc, intV b] (intV (szR x.size b)) := by
 obtain ⟨r, hr⟩ : ∃ r, r = szR x.size b := ⟨_, rfl⟩
 rw [← hr]
 obtain ⟨xso, xop⟩ := x
 simp only [GSignature.wf, wfI, wfS, wfB, maxLen] at hw
 simp only [GSignature.size, szI, szS] at hr
 refine sat_of_code tbOk mixed Tryz.func47 rfl rfl rfl (by decide +kernel) (by decide +kernel) (Nat.le_of_ble_eq_true rfl) ?_
 simp -implicitDefEqProofs (disch := omega) only [go_sem, GSignature.enc, Tm.enc, encB, encI, encL, encS, List.cons_append, List.nil_append, List.append_nil]
 have hb0 : -1 ≤ szR ((szL szS) xso) b ∧ szR ((szL szS) xso) b ≤ 1048576 := by grind [szR]
 refine CallK.mk (szStringS_sat xso hw.1 b (by grind [szR]) (by grind [szR])) ?_
 simp -implicitDefEqProofs (disch := omega) only [go_sem, GSignature.enc, Tm.enc, encB, encI, encL, encS, List.cons_append, List.nil_append, List.append_nil]
 refine ⟨fun h0 => by grind [szR], fun h0 => ?_⟩
 have hb1 : -1 ≤ szR ((szL GOp.size) xop) (szR ((szL szS) xso) b) ∧ szR ((szL GOp.size) xop) (szR ((szL szS) xso) b) ≤ 1048576 := by grind [szR]
 refine CallK.mk (szOpS_sat xop hw.2 (szR ((szL szS) xso) b) (by grind [szR]) (by grind [szR])) ?_
 simp -implicitDefEqProofs (disch := omega) only [go_sem, GSignature.enc, Tm.enc, encB, encI, encL, encS, List.cons_append, List.nil_append, List.append_nil]
 grind [szR]
theorem toSignature_sat (x : GSignature) (hs : x.size < 1048577) : Sat Tryz.prog 52 [aggV x.enc] (aggV x.enc) := by
 obtain ⟨xso, xop⟩ := x
 simp only [GSignature.size, szI, szS] at hs
 refine sat_of_code tbOk mixed Tryz.func52 rfl rfl rfl (by decide +kernel) (by decide +kernel) (Nat.le_of_ble_eq_true rfl) ?_
 simp -implicitDefEqProofs (disch := omega) only [go_sem, GSignature.enc, Tm.enc, encB, encI, encL, encS, List.cons_append, List.nil_append, List.append_nil]
 refine CallK.mk (toStringS_sat xso (by omega)) ?_
 simp -implicitDefEqProofs (disch := omega) only [go_sem, GSignature.enc, Tm.enc, encB, encI, encL, encS, List.cons_append, List.nil_append, List.append_nil]
 refine CallK.mk (toOpS_sat xop (by omega)) ?_
 simp -implicitDefEqProofs (disch := omega) only [go_sem, GSignature.enc, Tm.enc, encB, encI, encL, encS, List.cons_append, List.nil_append, List.append_nil]
 rfl
theorem eqSignature_sat (x : GSignature) (hw : x.wf) (y : GSignature) : Sat Tryz.prog 57 [aggV x.enc, aggV y.enc] (boolV (x.eqb y)) := by
 obtain ⟨r, hr⟩ : ∃ r, r = x.eqb y := ⟨_, rfl⟩
 rw [← hr]
 obtain ⟨xso, xop⟩ := x
 obtain ⟨yso, yop⟩ := y
 simp only [GSignature.wf] at hw
 simp only [GSignature.eqb, eqI, eqS, eqB] at hr
 refine sat_of_code tbOk mixed Tryz.func57 rfl rfl rfl (by decide +kernel) (by decide +kernel) (Nat.le_of_ble_eq_true rfl) ?_
 simp -implicitDefEqProofs (disch := omega) only [go_sem, GSignature.enc, Tm.enc, encB, encI, encL, encS, List.cons_append, List.nil_append, List.append_nil]
 refine CallK.mk (eqStringS_sat xso hw.1 yso) ?_
 simp -implicitDefEqProofs (disch := omega) only [go_sem, GSignature.enc, Tm.enc, encB, encI, encL, encS, List.cons_append, List.nil_append, List.append_nil]
 refine ⟨fun h0 => by grind, fun h0 => ?_⟩
 refine CallK.mk (eqOpS_sat xop hw.2 yop) ?_
 simp -implicitDefEqProofs (disch := omega) only [go_sem, GSignature.enc, Tm.enc, encB, encI, encL, encS, List.cons_append, List.nil_append, List.append_nil]
 grind
theorem szStrict_sat (x : GStrict) (hw : x.wf) (b : Int) (h0 : 0 ≤ b) (h1 : b < 1048577) : Sat Tryz.prog 107 [aggV x.enc, intV b] (intV (szR x.size b)) := by
 obtain ⟨r, hr⟩ : ∃ r, r = szR x.size b := ⟨_, rfl⟩
 rw [← hr]
 obtain ⟨xop, xar⟩ := x
 simp only [GStrict.wf, wfI, wfS, wfB, maxLen] at hw
 simp only [GStrict.size, szI, szS] at hr
 refine sat_of_code tbOk mixed Tryz.func107 rfl rfl rfl (by decide +kernel) (by decide +kernel) (Nat.le_of_ble_eq_true rfl) ?_
 simp -implicitDefEqProofs (disch := omega) only [go_sem, GStrict.enc, Tm.enc, encB, encI, encL, encS, List.cons_append, List.nil_append, List.append_nil]
 grind [szR]
theorem toStrict_sat (x : GStrict) (hs : x.size < 1048577) : Sat Tryz.prog 112 [aggV x.enc] (aggV x.enc) := by
 obtain ⟨xop, xar⟩ := x
 simp only [GStrict.size, szI, szS] at hs
 refine sat_of_code tbOk mixed Tryz.func112 rfl rfl rfl (by decide +kernel) (by decide +kernel) (Nat.le_of_ble_eq_true rfl) ?_
 simp -implicitDefEqProofs (disch := omega) only [go_sem, GStrict.enc, Tm.enc, encB, encI, encL, encS, List.cons_append, List.nil_append, List.append_nil]
 rfl
theorem eqStrict_sat (x : GStrict) (hw : x.wf) (y : GStrict) : Sat Tryz.prog 117 [aggV x.enc, aggV y.enc] (boolV (x.eqb y)) := by
 obtain ⟨r, hr⟩ : ∃ r, r = x.eqb y := ⟨_, rfl⟩
 rw [← hr]
 obtain ⟨xop, xar⟩ := x
 obtain ⟨yop, yar⟩ := y
 simp only [GStrict.wf] at hw
 simp only [GStrict.eqb, eqI, eqS, eqB] at hr
 refine sat_of_code tbOk mixed Tryz.func117 rfl rfl rfl (by decide +kernel) (by decide +kernel) (Nat.le_of_ble_eq_true rfl) ?_
 simp -implicitDefEqProofs (disch := omega) only [go_sem, GStrict.enc, Tm.enc, encB, encI, encL, encS, List.cons_append, List.nil_append, List.append_nil]
 refine ⟨fun h0 => by grind, fun h0 => ?_⟩
 grind
theorem szStrictS_sat (xs : List GStrict) (hw : wfL GStrict.wf xs) (b : Int) (h0 : 0 ≤ b) (h1 : b < 1048577) : Sat Tryz.prog 49 [slV (xs.map GStrict.enc), intV b] (intV (szR (szL GStrict.size xs) b)) := by
 have hl := hw.1
 simp only [maxLen] at hl
 refine sat_of_code tbOk mixed Tryz.func49 rfl rfl rfl (by decide +kernel) (by decide +kernel) (Nat.le_of_ble_eq_true rfl) ?_
 simp -implicitDefEqProofs (disch := omega) only [go_sem]
 refine ⟨fun h => ?_, fun h => ?_⟩
 ·have := len_szL GStrict.size xs
  grind [szR]
 ·refine loopA_rule (ι := Nat × Int) (fun i => mk 27 [(0, slV (xs.map GStrict.enc)), (5, intV i.1), (1, intV i.2)] []) (fun i => i.1 ≤ xs.length ∧ i.2 - ((szL GStrict.size (xs.drop i.1) : Int) - (xs.length - i.1)) = b - szL GStrict.size xs ∧ 0 ≤ i.2 ∧ i.2 < 1048577) (fun i => xs.length - i.1) (0, b - xs.length) ?_ ?_ tbOk mixed (by decide +kernel) ?_
  ·simp; omega
  ·exact le_mk (by simp [go_sem]) (by simp [go_sem])
  ·rintro ⟨i, c⟩ ⟨hi, hc, hc0, hc1⟩
   simp only at hi hc hc0 hc1
   rcases Nat.lt_or_ge i xs.length with hlt | hge
   ·have hg := map_getD (ec := GStrict.enc) hlt
    have hz := szL_drop GStrict.size xs i hlt
    have hz2 := len_szL GStrict.size (xs.drop (i + 1))
    simp only [List.length_drop] at hz2
    have hx := hw.2 _ (List.getElem_mem hlt)
    generalize xs[i] = x at hg hz hx
    simp -implicitDefEqProofs (disch := omega) only [go_sem, hg, hlt]
    refine CallK.mk (szStrict_sat x hx c hc0 (by omega)) ?_
    simp -implicitDefEqProofs (disch := omega) only [go_sem]
    refine ⟨fun h => ?_, fun h => ⟨(i + 1, szR (GStrict.size x) c), ⟨hlt, ?_⟩, ?_, le_mk (by simp [go_sem]) (by simp [go_sem])⟩⟩
    ·grind [szR]
    ·grind [szR]
    ·simp only; omega
   ·simp -implicitDefEqProofs (disch := omega) only [go_sem, Nat.not_lt.2 hge]
    rw [List.drop_of_length_le hge] at hc
    simp only [szL] at hc
    grind [szR]
abbrev zStrict : List AC := [sC ⟨⟨[]⟩⟩, iC 0]
theorem toStrictS_sat (xs : List GStrict) (hs : szL GStrict.size xs < 1048577) : Sat Tryz.prog 54 [slV (xs.map GStrict.enc)] (slV (xs.map GStrict.enc)) := by
 have hl := len_szL GStrict.size xs
 refine sat_of_code tbOk mixed Tryz.func54 rfl rfl rfl (by decide +kernel) (by decide +kernel) (Nat.le_of_ble_eq_true rfl) ?_
 simp -implicitDefEqProofs (disch := omega) only [go_sem]
 refine ⟨⟨by omega, by omega⟩, fun _ => ?_⟩
 refine loopA_rule (ι := Nat) (fun i => mk 23 [(0, slV (xs.map GStrict.enc)), (3, .one (.own 7 xs.length)), (4, intV i)] [(7, .arr 159 2 (rowsAt GStrict.enc zStrict xs i) false)]) (fun i => i ≤ xs.length) (fun i => xs.length - i) 0 (Nat.zero_le _) ?_ tbOk mixed (by decide +kernel) ?_
 ·exact le_mk (by simp [go_sem]) (by simp [go_sem, rowsAt_zero, List.mem_replicate])
 ·intro i hi
  have hlen := rowsAt_len (ec := GStrict.enc) (z := zStrict) hi
  rcases Nat.lt_or_ge i xs.length with hlt | hge
  ·have hg := map_getD (ec := GStrict.enc) hlt
   have hr := rowsAt_get (ec := GStrict.enc) (z := zStrict) hlt
   have hset := rowsAt_set (ec := GStrict.enc) (z := zStrict) hlt
   have hm := szL_mem GStrict.size xs _ (List.getElem_mem hlt)
   simp -implicitDefEqProofs (disch := omega) only [go_sem, hg, hlt, hlen]
   refine CallK.mk (toStrict_sat _ (by omega)) ?_
   simp -implicitDefEqProofs (disch := omega) only [go_sem, hlen, hlt, List.length_map, hr, hset]
   refine ⟨by simp [zStrict, unD], fun _ => ⟨i + 1, hlt, by omega, le_mk (by simp [go_sem]) ?_⟩⟩
   simp only [leB, lookB_cons, if_true, inB, true_and, and_true]
   exact rowsAt_inC (by simp [zStrict, inC])
  ·have : i = xs.length := by omega
   subst this
   have hv := rowsAt_view (ec := GStrict.enc) (z := zStrict) (Nat.le_refl xs.length)
   simp -implicitDefEqProofs (disch := omega) only [go_sem, hlen, hv, Nat.lt_irrefl]
   exact rowsAt_isV (Nat.le_refl _)
theorem eqStrictS_sat (xs : List GStrict) (hw : wfL GStrict.wf xs) (ys : List GStrict) : Sat Tryz.prog 59 [slV (xs.map GStrict.enc), slV (ys.map GStrict.enc)] (boolV (eqL GStrict.eqb xs ys)) := by
 have hl := hw.1
 simp only [maxLen] at hl
 refine sat_of_code tbOk mixed Tryz.func59 rfl rfl rfl (by decide +kernel) (by decide +kernel) (Nat.le_of_ble_eq_true rfl) ?_
 simp -implicitDefEqProofs (disch := omega) only [go_sem]
 refine ⟨fun h4 => ?_, fun h4 => ?_⟩
 ·rw [eqL_len GStrict.eqb xs ys (by omega)]
 ·have hll : xs.length = ys.length := by simp at h4; omega
  refine loopA_rule (ι := Nat) (fun i => mk 27 [(0, slV (xs.map GStrict.enc)), (1, slV (ys.map GStrict.enc)), (5, intV i)] [])
   (fun i => i ≤ xs.length ∧ eqL GStrict.eqb (xs.drop i) (ys.drop i) = eqL GStrict.eqb xs ys) (fun i => xs.length - i) 0 ⟨Nat.zero_le _, by simp⟩ ?_ tbOk mixed (by decide +kernel) ?_
  ·exact le_mk (by simp [go_sem]) (by simp [go_sem])
  ·rintro i ⟨hi, he⟩
   rcases Nat.lt_or_ge i xs.length with hlt | hge
   ·have hlt' : i < ys.length := by omega
    have hg := map_getD (ec := GStrict.enc) hlt
    have hg' := map_getD (ec := GStrict.enc) hlt'
    rw [eqL_drop GStrict.eqb xs ys i hlt hlt'] at he
    have hx := hw.2 _ (List.getElem_mem hlt)
    generalize xs[i] = x at hg he hx
    generalize ys[i] = y at hg' he
    simp -implicitDefEqProofs (disch := omega) only [go_sem, hg, hg', hlt, hlt']
    refine CallK.mk (eqStrict_sat x hx y) ?_
    simp -implicitDefEqProofs (disch := omega) only [go_sem]
    refine ⟨fun h => ?_, fun h => ⟨i + 1, ⟨hlt, ?_⟩, by omega, le_mk (by simp [go_sem]) (by simp [go_sem])⟩⟩
    ·rw [h] at he; simpa using he
    ·rw [h] at he; simpa using he
   ·have e1 : xs.drop i = [] := List.drop_of_length_le hge
    have e2 : ys.drop i = [] := List.drop_of_length_le (by omega)
    rw [e1, e2] at he
    simp -implicitDefEqProofs (disch := omega) only [go_sem, Nat.not_lt.2 hge]
    rw [← he]; rfl
theorem szDefinition_sat (x : GDefinition) (hw : x.wf) (b : Int) (h0 : 0 ≤ b) (h1 : b < 1048577) : Sat Tryz.prog 9 [aggV x.enc, intV b] (intV (szR x.size b)) := by
 obtain ⟨r, hr⟩ : ∃ r, r = szR x.size b := ⟨_, rfl⟩
 rw [← hr]
 obtain ⟨⟨xsiso, xsiop⟩, xru, xst⟩ := x
 simp only [GDefinition.wf, GSignature.wf, wfI, wfS, wfB, maxLen] at hw
 simp only [GDefinition.size, szI, szS] at hr
 refine sat_of_code tbOk mixed Tryz.func9 rfl rfl rfl (by decide +kernel) (by decide +kernel) (Nat.le_of_ble_eq_true rfl) ?_
 simp -implicitDefEqProofs (disch := omega) only [go_sem, GDefinition.enc, GSignature.enc, List.append_nil, List.cons_append, List.nil_append, Tm.enc, encB, encI, encL, encS, List.cons_append, List.nil_append, List.append_nil]
 have hb0 : -1 ≤ szR (GSignature.size ⟨xsiso, xsiop⟩) b ∧ szR (GSignature.size ⟨xsiso, xsiop⟩) b ≤ 1048576 := by grind [szR]
 refine CallK.mk (szSignature_sat ⟨xsiso, xsiop⟩ hw.1 b (by grind [szR]) (by grind [szR])) ?_
 simp -implicitDefEqProofs (disch := omega) only [go_sem, GDefinition.enc, GSignature.enc, List.append_nil, List.cons_append, List.nil_append, Tm.enc, encB, encI, encL, encS, List.cons_append, List.nil_append, List.append_nil]
 refine ⟨fun h0 => by grind [szR], fun h0 => ?_⟩
 have hb1 : -1 ≤ szR ((szL GRule.size) xru) (szR (GSignature.size ⟨xsiso, xsiop⟩) b) ∧ szR ((szL GRule.size) xru) (szR (GSignature.size ⟨xsiso, xsiop⟩) b) ≤ 1048576 := by grind [szR]
 refine CallK.mk (szRuleS_sat xru hw.2.1 (szR (GSignature.size ⟨xsiso, xsiop⟩) b) (by grind [szR]) (by grind [szR])) ?_
 simp -implicitDefEqProofs (disch := omega) only [go_sem, GDefinition.enc, GSignature.enc, List.append_nil, List.cons_append, List.nil_append, Tm.enc, encB, encI, encL, encS, List.cons_append, List.nil_append, List.append_nil]
 refine ⟨fun h1 => by grind [szR], fun h1 => ?_⟩
 have hb2 : -1 ≤ szR ((szL GStrict.size) xst) (szR ((szL GRule.size) xru) (szR (GSignature.size ⟨xsiso, xsiop⟩) b)) ∧ szR ((szL GStrict.size) xst) (szR ((szL GRule.size) xru) (szR (GSignature.size ⟨xsiso, xsiop⟩) b)) ≤ 1048576 := by grind [szR]
 refine CallK.mk (szStrictS_sat xst hw.2.2 (szR ((szL GRule.size) xru) (szR (GSignature.size ⟨xsiso, xsiop⟩) b)) (by grind [szR]) (by grind [szR])) ?_
 simp -implicitDefEqProofs (disch := omega) only [go_sem, GDefinition.enc, GSignature.enc, List.append_nil, List.cons_append, List.nil_append, Tm.enc, encB, encI, encL, encS, List.cons_append, List.nil_append, List.append_nil]
 grind [szR]
theorem toDefinition_sat (x : GDefinition) (hs : x.size < 1048577) : Sat Tryz.prog 12 [aggV x.enc] (aggV x.enc) := by
 obtain ⟨⟨xsiso, xsiop⟩, xru, xst⟩ := x
 simp only [GDefinition.size, szI, szS] at hs
 refine sat_of_code tbOk mixed Tryz.func12 rfl rfl rfl (by decide +kernel) (by decide +kernel) (Nat.le_of_ble_eq_true rfl) ?_
 simp -implicitDefEqProofs (disch := omega) only [go_sem, GDefinition.enc, GSignature.enc, List.append_nil, List.cons_append, List.nil_append, Tm.enc, encB, encI, encL, encS, List.cons_append, List.nil_append, List.append_nil]
 refine CallK.mk (toSignature_sat ⟨xsiso, xsiop⟩ (by omega)) ?_
 simp -implicitDefEqProofs (disch := omega) only [go_sem, GDefinition.enc, GSignature.enc, List.append_nil, List.cons_append, List.nil_append, Tm.enc, encB, encI, encL, encS, List.cons_append, List.nil_append, List.append_nil]
 refine CallK.mk (toRuleS_sat xru (by omega)) ?_
 simp -implicitDefEqProofs (disch := omega) only [go_sem, GDefinition.enc, GSignature.enc, List.append_nil, List.cons_append, List.nil_append, Tm.enc, encB, encI, encL, encS, List.cons_append, List.nil_append, List.append_nil]
 refine CallK.mk (toStrictS_sat xst (by omega)) ?_
 simp -implicitDefEqProofs (disch := omega) only [go_sem, GDefinition.enc, GSignature.enc, List.append_nil, List.cons_append, List.nil_append, Tm.enc, encB, encI, encL, encS, List.cons_append, List.nil_append, List.append_nil]
 rfl
theorem eqDefinition_sat (x : GDefinition) (hw : x.wf) (y : GDefinition) : Sat Tryz.prog 15 [aggV x.enc, aggV y.enc] (boolV (x.eqb y)) := by
 obtain ⟨r, hr⟩ : ∃ r, r = x.eqb y := ⟨_, rfl⟩
 rw [← hr]
 obtain ⟨⟨xsiso, xsiop⟩, xru, xst⟩ := x
 obtain ⟨⟨ysiso, ysiop⟩, yru, yst⟩ := y
 simp only [GDefinition.wf] at hw
 simp only [GDefinition.eqb, eqI, eqS, eqB] at hr
 refine sat_of_code tbOk mixed Tryz.func15 rfl rfl rfl (by decide +kernel) (by decide +kernel) (Nat.le_of_ble_eq_true rfl) ?_
 simp -implicitDefEqProofs (disch := omega) only [go_sem, GDefinition.enc, GSignature.enc, List.append_nil, List.cons_append, List.nil_append, Tm.enc, encB, encI, encL, encS, List.cons_append, List.nil_append, List.append_nil]
 refine CallK.mk (eqSignature_sat ⟨xsiso, xsiop⟩ hw.1 ⟨ysiso, ysiop⟩) ?_
 simp -implicitDefEqProofs (disch := omega) only [go_sem, GDefinition.enc, GSignature.enc, List.append_nil, List.cons_append, List.nil_append, Tm.enc, encB, encI, encL, encS, List.cons_append, List.nil_append, List.append_nil]
 refine ⟨fun h0 => by grind, fun h0 => ?_⟩
 refine CallK.mk (eqRuleS_sat xru hw.2.1 yru) ?_
 simp -implicitDefEqProofs (disch := omega) only [go_sem, GDefinition.enc, GSignature.enc, List.append_nil, List.cons_append, List.nil_append, Tm.enc, encB, encI, encL, encS, List.cons_append, List.nil_append, List.append_nil]
 refine ⟨fun h1 => by grind, fun h1 => ?_⟩
 refine CallK.mk (eqStrictS_sat xst hw.2.2 yst) ?_
 simp -implicitDefEqProofs (disch := omega) only [go_sem, GDefinition.enc, GSignature.enc, List.append_nil, List.cons_append, List.nil_append, Tm.enc, encB, encI, encL, encS, List.cons_append, List.nil_append, List.append_nil]
 grind
end Go.Ai
