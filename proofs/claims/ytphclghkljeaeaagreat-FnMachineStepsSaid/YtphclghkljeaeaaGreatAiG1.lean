/- spec.l1In, spec.l3Copy. -/
import Derived.Test.YtphclghkljeaeaaGreatAiD1
import Derived.Test.YtphclghkljeaeaaGreatAiM3
import Derived.Test.YtphclghkljeaeaaGreatAiMarks
set_option linter.unusedVariables false
set_option linter.unusedSimpArgs false
namespace Go.Ai
open Go.Proofs
set_option maxRecDepth 100000
theorem yD0 (a b c : Int) : Sat Tryz.prog 93 [zH0 a, zH0 b, zH0 c] (boolV (decide (b ≤ a) && decide (a ≤ c))) := by
 obtain ⟨r, hr⟩ : ∃ r, r = (decide (b ≤ a) && decide (a ≤ c)) := ⟨_, rfl⟩
 rw [← hr]
 refine soc zE0 zA0 Tryz.func93 ?_
 refine zr0 ?_
 grind
theorem kE1 (k n : Int) (s : ByteArray) (ts : List Tm) (hl : ts.length < 1048577) (ih : ∀ t, t ∈ ts → Sat Tryz.prog 58 [tmV t] (tmV t)) : Sat Tryz.prog 58 [tmV (.mk k n s ts)] (tmV (.mk k n s ts)) := by
 refine soc zE0 zA0 Tryz.func58 ?_
 refine jj0 ?_
 refine zB0 (ι := Nat) (fun i => mk 25 [(1, .one (.ptr 1 0)), (2, .one (.ptr 2 0)), (3, .one (.own 5 (ts.take i).length)), (4, zH0 i)] [(1, .var [iC k, iC n, sC s, tC ts]), (2, .var zT), (5, .arr 34 4 (rowsOf Tm.enc (ts.take i)) false)])
  (fun i => i ≤ ts.length) (fun i => ts.length - i) 0 (Nat.zero_le _) ?_ zE0 zA0 (by decide +kernel) ?_
 ·exact xg1
 ·intro i hi
  have hln : (ts.take i).length ≤ ts.length := by rw [List.length_take]; omega
  rcases Nat.lt_or_ge i ts.length with hlt | hge
  ·have hg := zG0 ts i hlt
   have ht : ts.take (i + 1) = ts.take i ++ [ts[i]] := by rw [List.take_add_one, List.getElem?_eq_getElem hlt]; rfl
   refine jL1 ?_
   refine c0' (ih _ (List.getElem_mem hlt)) ?_
   refine ⟨⟨by simp [enc_len], by omega, by omega⟩, fun _ => ⟨i + 1, hlt, by omega, ?_⟩⟩
   rw [ht]
   generalize ts.take i = acc
   generalize ts[i] = a
   exact mh1
  ·have : i = ts.length := by omega
   subst this
   refine pq1 ?_
   rw [← encs_map]; rfl
theorem qk0 : ∀ (t : Tm), t.size < 1048577 → Sat Tryz.prog 58 [tmV t] (tmV t) := by
 refine Tm.ind (fun k n s ts ih h => kE1 k n s ts ?_ (fun t ht => ih t ht ?_))
 ·have := zI0 ts; simp only [Tm.size] at h; omega
 ·have := zQ0 ts t ht; simp only [Tm.size] at h; omega
theorem mj0 (k n : Int) (s : ByteArray) (ts : List Tm) (hl : ts.length < 100000000) (ih : ∀ t, t ∈ ts → SatF Tryz.prog 54 [tmV t] (tmV t)) : SatF Tryz.prog 54 [tmV (.mk k n s ts)] (tmV (.mk k n s ts)) := by
 refine sfc [tmV (.mk k n s ts)] rfl (fun _ h => by cases h) zE0 zA0 Tryz.func54 ?_
 refine jj0 ?_
 refine zB0 (ι := Nat) (fun i => match i with
   | 0 => mk 29 [(2, .one (.ptr 2 0)), (3, .one (.ptr 3 0)), (14, xU0 ts), (15, zH0 ts.length), (16, zH0 (0 : Nat))] [(2, .var zT), (3, .var [iC k, iC n, sC s, .nil])]
   | i + 1 => mk 29 [(2, .one (.ptr 2 0)), (3, .one (.ptr 3 0)), (14, xU0 ts), (15, zH0 ts.length), (16, zH0 (i + 1 : Nat))] [(2, .var zT), (3, .var [iC k, iC n, sC s, .own 25 (i + 1)]), (25, .arr 34 4 (zV0 Tm.enc (ts.take (i + 1))) false)])
  (fun i => i ≤ ts.length) (fun i => ts.length - i) 0 (Nat.zero_le _) ?_ zE0 zA0 (by decide +kernel) ?_
 ·exact t2'
 ·intro i hi
  rcases Nat.lt_or_ge i ts.length with hlt | hge
  ·have hg := zG0 ts i hlt
   have hih := ih _ (List.getElem_mem hlt)
   have ht := wG0 Tm.enc ts i hlt
   generalize ts[i] = a at hg hih ht
   obtain ⟨ak, an, as', at_⟩ := a
   simp only [Tm.enc, List.map_cons, List.map_nil, dC] at ht
   cases i with
   | zero =>
    have ht0 := ht.trans (congrArg (· ++ _) (show zV0 Tm.enc (List.take 0 ts) = [] from rfl))
    simp only [List.nil_append, Nat.zero_add] at ht0
    refine xE0 ?_
    refine CallK.own hih rfl ?_
    refine jj0 ?_
    refine ⟨by simp, fun _ => ⟨1, by omega, by omega, (zx0 (l := 25) (c := 3) (rows := []) rfl rfl rfl rfl).trans ?_⟩⟩
    exact fv1
   | succ i =>
    have hdl : (zV0 Tm.enc (ts.take (i + 1))).length = i + 1 := by rw [drowsOf_len, List.length_take]; omega
    refine xE0 ?_
    refine CallK.own hih rfl ?_
    refine pr1 ?_
    refine ⟨⟨by simp, by omega, by omega⟩, fun _ => ⟨i + 2, by omega, by omega, (zx0 (l := 25) (c := 3) rfl rfl rfl rfl).trans ?_⟩⟩
    exact fQ1
  ·have : i = ts.length := by omega
   subst this
   cases ts with
   | nil =>
    simp -implicitDefEqProofs (disch := omega) only [go_sem, Nat.lt_irrefl, Tm.enc, Tm.encs]
   | cons a rest =>
    simp -implicitDefEqProofs (disch := omega) only [go_sem, Nat.lt_irrefl, Tm.enc, List.take_length]
    exact ⟨by simp [zV0], by simp [Tm.encs, encs_map]⟩
theorem qA0 : ∀ (t : Tm), t.size < 100000000 → SatF Tryz.prog 54 [tmV t] (tmV t) := by
 refine Tm.ind (fun k n s ts ih h => mj0 k n s ts ?_ (fun t ht => ih t ht ?_))
 ·have := zI0 ts; simp only [Tm.size] at h; omega
 ·have := zQ0 ts t ht; simp only [Tm.size] at h; omega
end Go.Ai
namespace Go.Ai
open Go.Proofs
set_option maxRecDepth 100000
theorem js0 (xs : List ByteArray) (hl : xs.length < 100000000) : SatO Tryz.prog 231 [slV (xs.map encS)] 9 1 (rowsOf encS xs) (.one (.own 0 xs.length)) := by
 cases xs with
 | nil =>
  refine sL0 ?_ ?_
  all_goals
   refine qe0 [.one (.own 0 0)] rfl (by simp) zE0 zA0 Tryz.func231 rfl rfl rfl (by decide +kernel) (by decide +kernel) (Nat.le_of_ble_eq_true rfl) (by decide) zk0 zd0 rfl ?_
   refine zr0 ?_
   rfl
 | cons x xs =>
  simp only [List.length_cons] at hl
  have hr := vW0 (ec := encS) (xs := x :: xs) (fun _ => rfl)
  refine qe0 [.one (.own 0 (x :: xs).length)] rfl (by simp) zE0 zA0 Tryz.func231 rfl rfl rfl (by decide +kernel) (by decide +kernel) (Nat.le_of_ble_eq_true rfl) (by decide) zk0 zd0 rfl ?_
  refine zr0 ?_
  exact ⟨⟨hr, by omega, by omega⟩, fun _ => rfl⟩
theorem pB0 (xs : List ByteArray) (hl : xs.length < 100000000) : Sat Tryz.prog 231 [slV (xs.map encS)] (slV (xs.map encS)) :=
 (js0 xs hl).sat (by simp [gU0, mq0, rowsOf_len]) qJ0 rfl
theorem cT0 (xs : List Tm) (hl : xs.length < 100000000) : SatO Tryz.prog 245 [slV (xs.map Tm.enc)] 34 4 (rowsOf Tm.enc xs) (.one (.own 0 xs.length)) := by
 cases xs with
 | nil =>
  refine sL0 ?_ ?_
  all_goals
   refine qe0 [.one (.own 0 0)] rfl (by simp) zE0 zA0 Tryz.func245 rfl rfl rfl (by decide +kernel) (by decide +kernel) (Nat.le_of_ble_eq_true rfl) (by decide) zk0 zd0 rfl ?_
   refine zr0 ?_
   rfl
 | cons x xs =>
  simp only [List.length_cons] at hl
  have hr := vW0 (ec := Tm.enc) (xs := x :: xs) enc_len
  refine qe0 [.one (.own 0 (x :: xs).length)] rfl (by simp) zE0 zA0 Tryz.func245 rfl rfl rfl (by decide +kernel) (by decide +kernel) (Nat.le_of_ble_eq_true rfl) (by decide) zk0 zd0 rfl ?_
  refine zr0 ?_
  exact ⟨⟨hr, by omega, by omega⟩, fun _ => rfl⟩
end Go.Ai
