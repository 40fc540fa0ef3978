/- spec.l1In, spec.l3Copy. -/
import Derived.Test.YtmddjojbaompiaaGreatAiD1
import Derived.Test.YtmddjojbaompiaaGreatAiM3
import Derived.Test.YtmddjojbaompiaaGreatAiMarks
set_option linter.unusedVariables false
set_option linter.unusedSimpArgs false
namespace Go.Ai
open Go.Proofs
set_option maxRecDepth 100000
theorem l1In_sat (a b c : Int) : Sat Tryz.prog 98 [intV a, intV b, intV c] (boolV (decide (b ≤ a) && decide (a ≤ c))) := by
 obtain ⟨r, hr⟩ : ∃ r, r = (decide (b ≤ a) && decide (a ≤ c)) := ⟨_, rfl⟩
 rw [← hr]
 refine sat_of_code tbOk mixed Tryz.func98 rfl rfl rfl (by decide +kernel) (by decide +kernel) (Nat.le_of_ble_eq_true rfl) ?_
 simp -implicitDefEqProofs (disch := omega) only [go_sem]
 grind
theorem l3Copy_1 (k n : Int) (s : ByteArray) (ts : List Tm) (hl : ts.length < 1048577) (ih : ∀ t, t ∈ ts → Sat Tryz.prog 114 [tmV t] (tmV t)) : Sat Tryz.prog 114 [tmV (.mk k n s ts)] (tmV (.mk k n s ts)) := by
 refine sat_of_code tbOk mixed Tryz.func114 rfl rfl rfl (by decide +kernel) (by decide +kernel) (Nat.le_of_ble_eq_true rfl) ?_
 simp -implicitDefEqProofs (disch := omega) only [go_sem, Tm.enc]
 refine loopA_rule (ι := Nat) (fun i => mk 25 [(1, .one (.ptr 1 0)), (2, .one (.ptr 2 0)), (3, .one (.own 5 (ts.take i).length)), (4, intV i)] [(1, .var [iC k, iC n, sC s, tC ts]), (2, .var zT), (5, .arr 37 4 (rowsOf Tm.enc (ts.take i)) false)])
  (fun i => i ≤ ts.length) (fun i => ts.length - i) 0 (Nat.zero_le _) ?_ tbOk mixed (by decide +kernel) ?_
 ·exact le_mk (by simp [go_sem]) (by simp [go_sem, rowsOf])
 ·intro i hi
  have hln : (ts.take i).length ≤ ts.length := by rw [List.length_take]; omega
  rcases Nat.lt_or_ge i ts.length with hlt | hge
  ·have hg := encs_getD ts i hlt
   have ht : ts.take (i + 1) = ts.take i ++ [ts[i]] := by rw [List.take_add_one, List.getElem?_eq_getElem hlt]; rfl
   simp -implicitDefEqProofs (disch := omega) only [go_sem, hg, hlt]
   refine CallK.mk (ih _ (List.getElem_mem hlt)) ?_
   simp -implicitDefEqProofs (disch := omega) only [go_sem]
   refine ⟨⟨by simp [enc_len], by omega, by omega⟩, fun _ => ⟨i + 1, hlt, by omega, ?_⟩⟩
   rw [ht]
   generalize ts.take i = acc
   generalize ts[i] = a
   exact le_mk (by simp [go_sem]) (by simp [go_sem, zT]; exact rowsOf_snoc a)
  ·have : i = ts.length := by omega
   subst this
   simp -implicitDefEqProofs (disch := omega) only [go_sem, Nat.lt_irrefl, List.take_length]
   rw [← encs_map]; rfl
theorem l3Copy_sat : ∀ (t : Tm), t.size < 1048577 → Sat Tryz.prog 114 [tmV t] (tmV t) := by
 refine Tm.ind (fun k n s ts ih h => l3Copy_1 k n s ts ?_ (fun t ht => ih t ht ?_))
 ·have := len_sizes ts; simp only [Tm.size] at h; omega
 ·have := size_mem ts t ht; simp only [Tm.size] at h; omega
end Go.Ai
/- Copies of terms: impl.copyTerm gives an owned copy. -/
namespace Go.Ai
open Go.Proofs
set_option maxRecDepth 100000
theorem copyTermF_1 (k n : Int) (s : ByteArray) (ts : List Tm) (hl : ts.length < 100000000) (ih : ∀ t, t ∈ ts → SatF Tryz.prog 121 [tmV t] (tmV t)) : SatF Tryz.prog 121 [tmV (.mk k n s ts)] (tmV (.mk k n s ts)) := by
 refine satF_of_code [tmV (.mk k n s ts)] rfl (fun _ h => by cases h) tbOk mixed Tryz.func121 rfl rfl rfl (by decide +kernel) (by decide +kernel) (Nat.le_of_ble_eq_true rfl) ?_
 simp -implicitDefEqProofs (disch := omega) only [go_sem, Tm.enc]
 refine loopA_rule (ι := Nat) (fun i => match i with
   | 0 => mk 29 [(2, .one (.ptr 2 0)), (3, .one (.ptr 3 0)), (14, tmsV ts), (15, intV ts.length), (16, intV (0 : Nat))] [(2, .var zT), (3, .var [iC k, iC n, sC s, .nil])]
   | i + 1 => mk 29 [(2, .one (.ptr 2 0)), (3, .one (.ptr 3 0)), (14, tmsV ts), (15, intV ts.length), (16, intV (i + 1 : Nat))] [(2, .var zT), (3, .var [iC k, iC n, sC s, .own 25 (i + 1)]), (25, .arr 37 4 (drowsOf Tm.enc (ts.take (i + 1))) false)])
  (fun i => i ≤ ts.length) (fun i => ts.length - i) 0 (Nat.zero_le _) ?_ tbOk mixed (by decide +kernel) ?_
 ·exact le_mk (by simp [go_sem]) (by simp [go_sem, zT])
 ·intro i hi
  rcases Nat.lt_or_ge i ts.length with hlt | hge
  ·have hg := encs_getD ts i hlt
   have hih := ih _ (List.getElem_mem hlt)
   have ht := drowsOf_take Tm.enc ts i hlt
   generalize ts[i] = a at hg hih ht
   obtain ⟨ak, an, as', at_⟩ := a
   simp only [Tm.enc, List.map_cons, List.map_nil, dC] at ht
   cases i with
   | zero =>
    have ht0 := ht.trans (congrArg (· ++ _) (show drowsOf Tm.enc (List.take 0 ts) = [] from rfl))
    simp only [List.nil_append, Nat.zero_add] at ht0
    simp -implicitDefEqProofs (disch := omega) only [go_sem, hg, hlt, enc_len]
    refine CallK.own hih rfl ?_
    simp -implicitDefEqProofs (disch := omega) only [go_sem, Tm.enc]
    refine ⟨by simp, fun _ => ⟨1, by omega, by omega, (wk_moveLast (l := 25) (c := 3) (rows := []) rfl rfl rfl rfl).trans ?_⟩⟩
    exact le_mk (by simp [go_sem]) (by simp only [Nat.zero_add, ht0]; simp [go_sem, zT])
   | succ i =>
    have hdl : (drowsOf Tm.enc (ts.take (i + 1))).length = i + 1 := by rw [drowsOf_len, List.length_take]; omega
    simp -implicitDefEqProofs (disch := omega) only [go_sem, hg, hlt, enc_len]
    refine CallK.own hih rfl ?_
    simp -implicitDefEqProofs (disch := omega) only [go_sem, Tm.enc, hdl]
    refine ⟨⟨by simp, by omega, by omega⟩, fun _ => ⟨i + 2, by omega, by omega, (wk_moveLast (l := 25) (c := 3) rfl rfl rfl rfl).trans ?_⟩⟩
    exact le_mk (by simp [go_sem]) (by simp [go_sem, zT, ht])
  ·have : i = ts.length := by omega
   subst this
   cases ts with
   | nil =>
    simp -implicitDefEqProofs (disch := omega) only [go_sem, Nat.lt_irrefl, Tm.enc, Tm.encs]
   | cons a rest =>
    simp -implicitDefEqProofs (disch := omega) only [go_sem, Nat.lt_irrefl, Tm.enc, List.take_length]
    exact ⟨by simp [drowsOf], by simp [Tm.encs, encs_map]⟩
theorem copyTermF_sat : ∀ (t : Tm), t.size < 100000000 → SatF Tryz.prog 121 [tmV t] (tmV t) := by
 refine Tm.ind (fun k n s ts ih h => copyTermF_1 k n s ts ?_ (fun t ht => ih t ht ?_))
 ·have := len_sizes ts; simp only [Tm.size] at h; omega
 ·have := size_mem ts t ht; simp only [Tm.size] at h; omega
end Go.Ai
/- slices.Clone: a row of one's own. -/
namespace Go.Ai
open Go.Proofs
set_option maxRecDepth 100000
theorem cloneString_sat (xs : List ByteArray) (hl : xs.length < 100000000) : SatO Tryz.prog 129 [slV (xs.map encS)] 9 1 (rowsOf encS xs) (.one (.own 0 xs.length)) := by
 cases xs with
 | nil =>
  refine satO_sl0 ?_ ?_
  all_goals
   refine satO_of_code [.one (.own 0 0)] rfl (by simp) tbOk mixed Tryz.func129 rfl rfl rfl (by decide +kernel) (by decide +kernel) (Nat.le_of_ble_eq_true rfl) (by decide) rowsOf_cl rowsOf_noD rfl ?_
   simp -implicitDefEqProofs (disch := omega) only [go_sem]
   rfl
 | cons x xs =>
  simp only [List.length_cons] at hl
  have hr := rowsOf_l (ec := encS) (xs := x :: xs) (fun _ => rfl)
  refine satO_of_code [.one (.own 0 (x :: xs).length)] rfl (by simp) tbOk mixed Tryz.func129 rfl rfl rfl (by decide +kernel) (by decide +kernel) (Nat.le_of_ble_eq_true rfl) (by decide) rowsOf_cl rowsOf_noD rfl ?_
  simp -implicitDefEqProofs (disch := omega) only [go_sem]
  exact ⟨⟨hr, by omega, by omega⟩, fun _ => rfl⟩
theorem cloneStringD_sat (xs : List ByteArray) (hl : xs.length < 100000000) : Sat Tryz.prog 129 [slV (xs.map encS)] (slV (xs.map encS)) :=
 (cloneString_sat xs hl).sat (by simp [fullV, fullC, rowsOf_len]) rowsOf_unN rfl
theorem cloneInt_sat (xs : List Int) (hl : xs.length < 100000000) : SatO Tryz.prog 175 [slV (xs.map encI)] 3 1 (rowsOf encI xs) (.one (.own 0 xs.length)) := by
 cases xs with
 | nil =>
  refine satO_sl0 ?_ ?_
  all_goals
   refine satO_of_code [.one (.own 0 0)] rfl (by simp) tbOk mixed Tryz.func175 rfl rfl rfl (by decide +kernel) (by decide +kernel) (Nat.le_of_ble_eq_true rfl) (by decide) rowsOf_cl rowsOf_noD rfl ?_
   simp -implicitDefEqProofs (disch := omega) only [go_sem]
   rfl
 | cons x xs =>
  simp only [List.length_cons] at hl
  have hr := rowsOf_l (ec := encI) (xs := x :: xs) (fun _ => rfl)
  refine satO_of_code [.one (.own 0 (x :: xs).length)] rfl (by simp) tbOk mixed Tryz.func175 rfl rfl rfl (by decide +kernel) (by decide +kernel) (Nat.le_of_ble_eq_true rfl) (by decide) rowsOf_cl rowsOf_noD rfl ?_
  simp -implicitDefEqProofs (disch := omega) only [go_sem]
  exact ⟨⟨hr, by omega, by omega⟩, fun _ => rfl⟩
theorem cloneTerm_sat (xs : List Tm) (hl : xs.length < 100000000) : SatO Tryz.prog 210 [slV (xs.map Tm.enc)] 37 4 (rowsOf Tm.enc xs) (.one (.own 0 xs.length)) := by
 cases xs with
 | nil =>
  refine satO_sl0 ?_ ?_
  all_goals
   refine satO_of_code [.one (.own 0 0)] rfl (by simp) tbOk mixed Tryz.func210 rfl rfl rfl (by decide +kernel) (by decide +kernel) (Nat.le_of_ble_eq_true rfl) (by decide) rowsOf_cl rowsOf_noD rfl ?_
   simp -implicitDefEqProofs (disch := omega) only [go_sem]
   rfl
 | cons x xs =>
  simp only [List.length_cons] at hl
  have hr := rowsOf_l (ec := Tm.enc) (xs := x :: xs) enc_len
  refine satO_of_code [.one (.own 0 (x :: xs).length)] rfl (by simp) tbOk mixed Tryz.func210 rfl rfl rfl (by decide +kernel) (by decide +kernel) (Nat.le_of_ble_eq_true rfl) (by decide) rowsOf_cl rowsOf_noD rfl ?_
  simp -implicitDefEqProofs (disch := omega) only [go_sem]
  exact ⟨⟨hr, by omega, by omega⟩, fun _ => rfl⟩
end Go.Ai
