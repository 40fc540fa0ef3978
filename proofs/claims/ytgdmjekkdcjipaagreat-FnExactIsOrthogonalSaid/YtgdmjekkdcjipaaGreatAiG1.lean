/- Copies of terms: impl.copyTerm gives an owned copy. -/
import Derived.Test.YtgdmjekkdcjipaaGreatAiM3
import Derived.Test.YtgdmjekkdcjipaaGreatAiD1
import Derived.Test.YtgdmjekkdcjipaaGreatAiMarks
set_option linter.unusedVariables false
set_option linter.unusedSimpArgs false
namespace Go.Ai
open Go.Proofs
set_option maxRecDepth 100000
theorem lv0 (k n : Int) (s : ByteArray) (ts : List Tm) (hl : ts.length < 100000000) (ih : ∀ t, t ∈ ts → SatF Tryz.prog 95 [tmV t] (tmV t)) : SatF Tryz.prog 95 [tmV (.mk k n s ts)] (tmV (.mk k n s ts)) := by
 refine sfc [tmV (.mk k n s ts)] rfl (fun _ h => by cases h) zE0 zB0 Tryz.func95 ?_
 simp -implicitDefEqProofs (disch := omega) only [go_sem, Tm.enc]
 refine zA0 (ι := Nat) (fun i => match i with
   | 0 => mk 29 [(2, .one (.ptr 2 0)), (3, .one (.ptr 3 0)), (14, yM0 ts), (15, zD0 ts.length), (16, zD0 (0 : Nat))] [(2, .var zT), (3, .var [iC k, iC n, sC s, .nil])]
   | i + 1 => mk 29 [(2, .one (.ptr 2 0)), (3, .one (.ptr 3 0)), (14, yM0 ts), (15, zD0 ts.length), (16, zD0 (i + 1 : Nat))] [(2, .var zT), (3, .var [iC k, iC n, sC s, .own 25 (i + 1)]), (25, .arr 39 4 (zo0 Tm.enc (ts.take (i + 1))) false)])
  (fun i => i ≤ ts.length) (fun i => ts.length - i) 0 (Nat.zero_le _) ?_ zE0 zB0 (by decide +kernel) ?_
 ·exact zG0 (by simp [go_sem]) (by simp [go_sem, zT])
 ·intro i hi
  rcases Nat.lt_or_ge i ts.length with hlt | hge
  ·have hg := zF0 ts i hlt
   have hih := ih _ (List.getElem_mem hlt)
   have ht := jE0 Tm.enc ts i hlt
   generalize ts[i] = a at hg hih ht
   obtain ⟨ak, an, as', at_⟩ := a
   simp only [Tm.enc, List.map_cons, List.map_nil, dC] at ht
   cases i with
   | zero =>
    have ht0 := ht.trans (congrArg (· ++ _) (show zo0 Tm.enc (List.take 0 ts) = [] from rfl))
    simp only [List.nil_append, Nat.zero_add] at ht0
    simp -implicitDefEqProofs (disch := omega) only [go_sem, hg, hlt, enc_len]
    refine CallK.own hih rfl ?_
    simp -implicitDefEqProofs (disch := omega) only [go_sem, Tm.enc]
    refine ⟨by simp, fun _ => ⟨1, by omega, by omega, (qU0 (l := 25) (c := 3) (rows := []) rfl rfl rfl rfl).trans ?_⟩⟩
    exact zG0 (by simp [go_sem]) (by simp only [Nat.zero_add, ht0]; simp [go_sem, zT])
   | succ i =>
    have hdl : (zo0 Tm.enc (ts.take (i + 1))).length = i + 1 := by rw [wr0, List.length_take]; omega
    simp -implicitDefEqProofs (disch := omega) only [go_sem, hg, hlt, enc_len]
    refine CallK.own hih rfl ?_
    simp -implicitDefEqProofs (disch := omega) only [go_sem, Tm.enc, hdl]
    refine ⟨⟨by simp, by omega, by omega⟩, fun _ => ⟨i + 2, by omega, by omega, (qU0 (l := 25) (c := 3) rfl rfl rfl rfl).trans ?_⟩⟩
    exact zG0 (by simp [go_sem]) (by simp [go_sem, zT, ht])
  ·have : i = ts.length := by omega
   subst this
   cases ts with
   | nil =>
    simp -implicitDefEqProofs (disch := omega) only [go_sem, Nat.lt_irrefl, Tm.enc, Tm.encs]
   | cons a rest =>
    simp -implicitDefEqProofs (disch := omega) only [go_sem, Nat.lt_irrefl, Tm.enc, List.take_length]
    exact ⟨by simp [zo0], by simp [Tm.encs, zc0]⟩
theorem yd0 : ∀ (t : Tm), t.size < 100000000 → SatF Tryz.prog 95 [tmV t] (tmV t) := by
 refine Tm.ind (fun k n s ts ih h => lv0 k n s ts ?_ (fun t ht => ih t ht ?_))
 ·have := zH0 ts; simp only [Tm.size] at h; omega
 ·have := zT0 ts t ht; simp only [Tm.size] at h; omega
theorem yi0 (a b c : Int) : Sat Tryz.prog 46 [zD0 a, zD0 b, zD0 c] (boolV (decide (b ≤ a) && decide (a ≤ c))) := by
 obtain ⟨r, hr⟩ : ∃ r, r = (decide (b ≤ a) && decide (a ≤ c)) := ⟨_, rfl⟩
 rw [← hr]
 refine soc zE0 zB0 Tryz.func46 ?_
 simp -implicitDefEqProofs only [go_sem]
 grind
theorem yK1 (k n : Int) (s : ByteArray) (ts : List Tm) (hl : ts.length < 1048577) (ih : ∀ t, t ∈ ts → Sat Tryz.prog 123 [tmV t] (tmV t)) : Sat Tryz.prog 123 [tmV (.mk k n s ts)] (tmV (.mk k n s ts)) := by
 refine soc zE0 zB0 Tryz.func123 ?_
 simp -implicitDefEqProofs (disch := omega) only [go_sem, Tm.enc]
 refine zA0 (ι := Nat) (fun i => mk 25 [(1, .one (.ptr 1 0)), (2, .one (.ptr 2 0)), (3, .one (.own 5 (ts.take i).length)), (4, zD0 i)] [(1, .var [iC k, iC n, sC s, tC ts]), (2, .var zT), (5, .arr 39 4 (rowsOf Tm.enc (ts.take i)) false)])
  (fun i => i ≤ ts.length) (fun i => ts.length - i) 0 (Nat.zero_le _) ?_ zE0 zB0 (by decide +kernel) ?_
 ·exact zG0 (by simp [go_sem]) (by simp [go_sem, rowsOf])
 ·intro i hi
  have hln : (ts.take i).length ≤ ts.length := by rw [List.length_take]; omega
  rcases Nat.lt_or_ge i ts.length with hlt | hge
  ·have hg := zF0 ts i hlt
   have ht : ts.take (i + 1) = ts.take i ++ [ts[i]] := by rw [List.take_add_one, List.getElem?_eq_getElem hlt]; rfl
   simp -implicitDefEqProofs (disch := omega) only [go_sem, hg, hlt]
   refine CallK.mk (ih _ (List.getElem_mem hlt)) ?_
   simp -implicitDefEqProofs (disch := omega) only [go_sem]
   refine ⟨⟨by simp [enc_len], by omega, by omega⟩, fun _ => ⟨i + 1, hlt, by omega, ?_⟩⟩
   rw [ht]
   generalize ts.take i = acc
   generalize ts[i] = a
   exact zG0 (by simp [go_sem]) (by simp [go_sem, zT]; exact zq0 a)
  ·have : i = ts.length := by omega
   subst this
   simp -implicitDefEqProofs (disch := omega) only [go_sem, Nat.lt_irrefl, List.take_length]
   rw [← zc0]; rfl
theorem jd0 : ∀ (t : Tm), t.size < 1048577 → Sat Tryz.prog 123 [tmV t] (tmV t) := by
 refine Tm.ind (fun k n s ts ih h => yK1 k n s ts ?_ (fun t ht => ih t ht ?_))
 ·have := zH0 ts; simp only [Tm.size] at h; omega
 ·have := zT0 ts t ht; simp only [Tm.size] at h; omega
end Go.Ai
namespace Go.Ai
open Go.Proofs
set_option maxRecDepth 100000
theorem jC0 (xs : List ByteArray) (hl : xs.length < 100000000) : SatO Tryz.prog 146 [slV (xs.map encS)] 9 1 (rowsOf encS xs) (.one (.own 0 xs.length)) := by
 cases xs with
 | nil =>
  refine rI0 ?_ ?_
  all_goals
   refine yD0 [.one (.own 0 0)] rfl (by simp) zE0 zB0 Tryz.func146 rfl rfl rfl (by decide +kernel) (by decide +kernel) (Nat.le_of_ble_eq_true rfl) (by decide) rowsOf_cl rowsOf_noD rfl ?_
   simp -implicitDefEqProofs only [go_sem]
   rfl
 | cons x xs =>
  simp only [List.length_cons] at hl
  have hr := rowsOf_l (ec := encS) (xs := x :: xs) (fun _ => rfl)
  refine yD0 [.one (.own 0 (x :: xs).length)] rfl (by simp) zE0 zB0 Tryz.func146 rfl rfl rfl (by decide +kernel) (by decide +kernel) (Nat.le_of_ble_eq_true rfl) (by decide) rowsOf_cl rowsOf_noD rfl ?_
  simp -implicitDefEqProofs only [go_sem]
  exact ⟨⟨hr, by omega, by omega⟩, fun _ => rfl⟩
theorem xQ0 (xs : List ByteArray) (hl : xs.length < 100000000) : Sat Tryz.prog 146 [slV (xs.map encS)] (slV (xs.map encS)) :=
 (jC0 xs hl).sat (by simp [mC0, sP0, zY0]) wi0 rfl
theorem vm0 (xs : List Int) (hl : xs.length < 100000000) : SatO Tryz.prog 39 [slV (xs.map zO0)] 3 1 (rowsOf zO0 xs) (.one (.own 0 xs.length)) := by
 cases xs with
 | nil =>
  refine rI0 ?_ ?_
  all_goals
   refine yD0 [.one (.own 0 0)] rfl (by simp) zE0 zB0 Tryz.func39 rfl rfl rfl (by decide +kernel) (by decide +kernel) (Nat.le_of_ble_eq_true rfl) (by decide) rowsOf_cl rowsOf_noD rfl ?_
   simp -implicitDefEqProofs only [go_sem]
   rfl
 | cons x xs =>
  simp only [List.length_cons] at hl
  have hr := rowsOf_l (ec := zO0) (xs := x :: xs) (fun _ => rfl)
  refine yD0 [.one (.own 0 (x :: xs).length)] rfl (by simp) zE0 zB0 Tryz.func39 rfl rfl rfl (by decide +kernel) (by decide +kernel) (Nat.le_of_ble_eq_true rfl) (by decide) rowsOf_cl rowsOf_noD rfl ?_
  simp -implicitDefEqProofs only [go_sem]
  exact ⟨⟨hr, by omega, by omega⟩, fun _ => rfl⟩
end Go.Ai
