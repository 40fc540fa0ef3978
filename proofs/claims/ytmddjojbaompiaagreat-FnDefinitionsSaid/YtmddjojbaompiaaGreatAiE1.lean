/- EqualDefinition. -/
import Derived.Test.YtmddjojbaompiaaGreatAiD1
set_option linter.unusedVariables false
set_option linter.unusedSimpArgs false
namespace Go.Ai
open Go.Proofs
set_option maxRecDepth 100000
theorem implEqualDefinition_sat (x : GDefinition) (hw : x.wf) (y : GDefinition) : Sat Tryz.prog 11 [aggV x.enc, aggV y.enc] (boolV (x.eqb y)) := by
 obtain ⟨r, hr⟩ : ∃ r, r = x.eqb y := ⟨_, rfl⟩
 rw [← hr]
 obtain ⟨⟨so, op⟩, ru, st⟩ := x
 obtain ⟨⟨so', op'⟩, ru', st'⟩ := y
 simp only [GDefinition.wf, GSignature.wf] at hw
 simp only [GDefinition.eqb, GSignature.eqb] at hr
 refine sat_of_code tbOk mixed Tryz.func11 rfl rfl rfl (by decide +kernel) (by decide +kernel) (Nat.le_of_ble_eq_true rfl) ?_
 simp -implicitDefEqProofs (disch := omega) only [go_sem, GDefinition.enc, GSignature.enc, encL, List.cons_append, List.nil_append, List.append_nil]
 refine CallK.mk (slicesEqualString_sat so hw.1.1 so') ?_
 simp -implicitDefEqProofs (disch := omega) only [go_sem]
 refine ⟨fun h0 => ?_, fun h0 => by grind⟩
 refine CallK.mk (equalFuncOp_sat op hw.1.2 op') ?_
 simp -implicitDefEqProofs (disch := omega) only [go_sem]
 refine ⟨fun h1 => ?_, fun h1 => by grind⟩
 refine CallK.mk (equalFuncRule_sat ru hw.2.1 ru') ?_
 simp -implicitDefEqProofs (disch := omega) only [go_sem]
 refine ⟨fun h2 => ?_, fun h2 => by grind⟩
 refine CallK.mk (slicesEqualStrict_sat st hw.2.2 st') ?_
 simp -implicitDefEqProofs (disch := omega) only [go_sem]
 grind
end Go.Ai
/- Strict positions. -/
namespace Go.Ai
open Go.Proofs
set_option maxRecDepth 100000
def strictOf (st : List GStrict) (op : ByteArray) : List Int := (st.filter (fun s => s.op.toList == op.toList)).map (·.ar)
theorem strictOf_take (st : List GStrict) (op : ByteArray) (i : Nat) (h : i < st.length) : strictOf (st.take (i + 1)) op = strictOf (st.take i) op ++ (if st[i].op.toList = op.toList then [st[i].ar] else []) := by
 unfold strictOf
 rw [List.take_add_one, List.getElem?_eq_getElem h]
 simp only [Option.toList, List.filter_append, List.map_append]
 congr 1
 by_cases e : st[i].op.toList = op.toList <;> simp [e]
theorem strictOf_len (st : List GStrict) (op : ByteArray) (i : Nat) : (strictOf (st.take i) op).length ≤ st.length := by
 unfold strictOf
 rw [List.length_map]
 refine Nat.le_trans (List.length_filter_le _ _) ?_
 rw [List.length_take]; omega
theorem specStrictArgs_sat (x : GDefinition) (hs : x.st.length < 1048577) (op : ByteArray) : Sat Tryz.prog 22 [aggV x.enc, strV op] (slV ((strictOf x.st op).map encI)) := by
 obtain ⟨r, hr⟩ : ∃ r, r = strictOf x.st op := ⟨_, rfl⟩
 rw [← hr]
 obtain ⟨⟨so, ops⟩, ru, st⟩ := x
 simp only at hs hr
 refine sat_of_code tbOk mixed Tryz.func22 rfl rfl rfl (by decide +kernel) (by decide +kernel) (Nat.le_of_ble_eq_true rfl) ?_
 simp -implicitDefEqProofs (disch := omega) only [go_sem, GDefinition.enc, GSignature.enc, encL, List.cons_append, List.nil_append, List.append_nil]
 refine loopA_rule (ι := Nat) (fun i => mk 33 [(2, .one (.ptr 2 0)), (1, strV op), (5, .one (.own 7 (strictOf (st.take i) op).length)), (6, intV i)] [(2, .var [.c (.sl (so.map encS)), .c (.sl (ops.map GOp.enc)), .c (.sl (ru.map GRule.enc)), .c (.sl (st.map GStrict.enc))]), (7, .arr 3 1 (rowsOf encI (strictOf (st.take i) op)) false)])
  (fun i => i ≤ st.length) (fun i => st.length - i) 0 (Nat.zero_le _) ?_ tbOk mixed (by decide +kernel) ?_
 ·exact le_mk (by simp [go_sem, strictOf]) (by simp [go_sem, strictOf, rowsOf])
 ·intro i hi
  have hln := strictOf_len st op i
  rcases Nat.lt_or_ge i st.length with hlt | hge
  ·have hg := map_getD (ec := GStrict.enc) hlt
   have ht := strictOf_take st op i hlt
   generalize st[i] = u at hg ht
   obtain ⟨a, b⟩ := u
   simp only [GStrict.enc, encS, encI, List.cons_append, List.nil_append] at hg
   simp only at ht
   simp -implicitDefEqProofs (disch := omega) only [go_sem, hg, hlt]
   refine ⟨fun h => ⟨⟨by simp, by omega, by omega⟩, fun _ => ⟨i + 1, hlt, by omega, le_mk ?_ ?_⟩⟩, fun h => ⟨i + 1, hlt, by omega, le_mk ?_ ?_⟩⟩
   ·rw [if_pos h] at ht; simp [go_sem, ht]
   ·rw [if_pos h] at ht; simp [go_sem, ht]; exact rowsOf_snoc b
   ·rw [if_neg (by simpa using h), List.append_nil] at ht; simp [go_sem, ht]
   ·rw [if_neg (by simpa using h), List.append_nil] at ht; simp [go_sem, ht]
  ·have : i = st.length := by omega
   subst this
   simp -implicitDefEqProofs (disch := omega) only [go_sem, Nat.lt_irrefl, List.take_length, hr]
theorem implStrictArgs_sat (x : GDefinition) (hs : x.st.length < 1048577) (op : ByteArray) : Sat Tryz.prog 21 [aggV x.enc, strV op] (slV ((strictOf x.st op).map encI)) := by
 obtain ⟨r, hr⟩ : ∃ r, r = strictOf x.st op := ⟨_, rfl⟩
 rw [← hr]
 obtain ⟨⟨so, ops⟩, ru, st⟩ := x
 simp only at hs hr
 refine sat_of_code tbOk mixed Tryz.func21 rfl rfl rfl (by decide +kernel) (by decide +kernel) (Nat.le_of_ble_eq_true rfl) ?_
 simp -implicitDefEqProofs (disch := omega) only [go_sem, GDefinition.enc, GSignature.enc, encL, List.cons_append, List.nil_append, List.append_nil]
 refine loopA_rule (ι := Nat) (fun i => match strictOf (st.take i) op with
   | [] => mk 26 [(9, slV (st.map GStrict.enc)), (1, strV op), (5, .one .nil), (10, intV st.length), (11, intV i)] []
   | q :: qs => mk 26 [(9, slV (st.map GStrict.enc)), (1, strV op), (5, .one (.own 23 (q :: qs).length)), (10, intV st.length), (11, intV i)] [(23, .arr 3 1 (rowsOf encI (q :: qs)) false)])
  (fun i => i ≤ st.length) (fun i => st.length - i) 0 (Nat.zero_le _) ?_ tbOk mixed (by decide +kernel) ?_
 ·exact le_mk (by simp [go_sem]) (by simp [go_sem])
 ·intro i hi
  have hln := strictOf_len st op i
  rcases Nat.lt_or_ge i st.length with hlt | hge
  ·have hg := map_getD (ec := GStrict.enc) hlt
   have ht := strictOf_take st op i hlt
   generalize st[i] = u at hg ht
   obtain ⟨a, b⟩ := u
   simp only [GStrict.enc, encS, encI, List.cons_append, List.nil_append] at hg
   simp only at ht
   generalize strictOf (st.take i) op = acc at ht hln
   cases acc with
   | nil =>
    simp -implicitDefEqProofs (disch := omega) only [go_sem, hg, hlt]
    refine ⟨fun h => ⟨by simp, fun _ => ⟨i + 1, hlt, by omega, ?_⟩⟩, fun h => ⟨i + 1, hlt, by omega, ?_⟩⟩
    ·rw [if_pos h] at ht
     rw [ht]
     exact le_mk (by simp [go_sem]) (by simp [go_sem, rowsOf, encI])
    ·rw [if_neg (by simpa using h)] at ht
     rw [ht]
     exact le_mk (by simp [go_sem]) (by simp [go_sem])
   | cons q qs =>
    simp -implicitDefEqProofs (disch := omega) only [go_sem, hg, hlt]
    simp only [List.length_cons] at hln
    refine ⟨fun h => ⟨⟨by simp, by omega, by omega⟩, fun _ => ⟨i + 1, hlt, by omega, ?_⟩⟩, fun h => ⟨i + 1, hlt, by omega, ?_⟩⟩
    ·rw [if_pos h] at ht
     rw [ht]
     exact le_mk (by simp [go_sem]) (by simp [go_sem]; exact rowsOf_snoc b)
    ·rw [if_neg (by simpa using h), List.append_nil] at ht
     rw [ht]
     exact le_mk (by simp [go_sem]) (by simp [go_sem])
  ·have : i = st.length := by omega
   subst this
   rw [List.take_length, ← hr]
   cases r with
   | nil => simp -implicitDefEqProofs (disch := omega) only [go_sem, Nat.lt_irrefl]
   | cons q qs => simp -implicitDefEqProofs (disch := omega) only [go_sem, Nat.lt_irrefl]
end Go.Ai
