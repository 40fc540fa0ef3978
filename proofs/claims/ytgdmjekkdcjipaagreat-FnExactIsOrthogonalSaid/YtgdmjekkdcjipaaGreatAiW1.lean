/- Variables of a term: spec.l3Vars, IsGround. -/
import Derived.Test.YtgdmjekkdcjipaaGreatAiRow2
import Derived.Test.YtgdmjekkdcjipaaGreatAiM3
import Derived.Test.YtgdmjekkdcjipaaGreatAiD1
set_option linter.unusedVariables false
set_option linter.unusedSimpArgs false
namespace Go.Ai
open Go.Proofs
set_option maxRecDepth 100000
abbrev sR (xs : List ByteArray) : List (List AC) := rowsOf encS xs
theorem jX1 (xs : List ByteArray) : (sR xs).length = xs.length := zY0
theorem qt1 (xs : List ByteArray) : clR (sR xs) := rowsOf_cl
theorem gX0 (xs : List ByteArray) : noD (sR xs) = true := rowsOf_noD
theorem xH1 (xs : List ByteArray) : ((sR xs).map fun r => r.map toC) = xs.map encS := qL0
theorem xF1 (xs ys : List ByteArray) : sR xs ++ sR ys = sR (xs ++ ys) := zb0 ys
theorem xG1 (x : ByteArray) : sR [x] = [[sC x]] := rfl
mutual
def Tm.vars : Tm → List ByteArray
 | .mk k n s ts => (if k == 1 then [s] else []) ++ Tm.varss ts
def Tm.varss : List Tm → List ByteArray
 | [] => []
 | a :: ts => a.vars ++ Tm.varss ts
end
theorem jj0 : ∀ (ts : List Tm) (a : Tm), Tm.varss (ts ++ [a]) = Tm.varss ts ++ a.vars
 | [], a => by simp [Tm.varss]
 | b :: ts, a => by simp only [List.cons_append, Tm.varss, jj0 ts a, List.append_assoc]
mutual
theorem zN0 : ∀ (t : Tm), t.vars.length ≤ 1 + t.size
 | .mk k n s ts => by
  have := varss_len ts
  simp only [Tm.vars, List.length_append, Tm.size]
  split <;> simp <;> omega
theorem varss_len : ∀ (ts : List Tm), (Tm.varss ts).length ≤ Tm.sizes ts
 | [] => by simp [Tm.varss]
 | a :: ts => by
  have h1 := zN0 a
  have h2 := varss_len ts
  simp only [Tm.varss, List.length_append, Tm.sizes]; omega
end
theorem wx0 (ts : List Tm) (i : Nat) (h : i < ts.length) : Tm.sizes (ts.take i) + 1 + ts[i].size ≤ Tm.sizes ts := by
 have h1 := bJ0 ts i h
 have : ∀ (a b : List Tm), Tm.sizes (a ++ b) = Tm.sizes a + Tm.sizes b := by
  intro a b
  induction a with
  | nil => simp [Tm.sizes]
  | cons x a ih => simp only [List.cons_append, Tm.sizes, ih]; omega
 have h2 := this (ts.take i) (ts.drop i)
 rw [List.take_append_drop] at h2
 omega
theorem yL1 (k n : Int) (s : ByteArray) (ts : List Tm) (xs : List ByteArray) (hl : xs.length + Tm.sizes ts < 90000000) (ih : ∀ t, t ∈ ts → ∀ ys : List ByteArray, ys.length + t.size < 90000000 → ff0 Tryz.prog 56 [tmV t] [] 9 1 (sR ys) (sR (ys ++ t.vars)) []) :
  ff0 Tryz.prog 56 [tmV (.mk k n s ts)] [] 9 1 (sR xs) (sR (xs ++ (Tm.mk k n s ts).vars)) [] := by
 obtain ⟨r, hr⟩ : ∃ r, r = xs ++ (Tm.mk k n s ts).vars := ⟨_, rfl⟩
 rw [← hr]
 simp only [Tm.vars] at hr
 have hts := zH0 ts
 refine jS0 zE0 zB0 Tryz.func56 rfl rfl rfl (by decide +kernel) (by decide +kernel) (Nat.le_of_ble_eq_true rfl) (by decide) rfl (qt1 _) (qt1 _) (gX0 _) (gX0 _) ?_
 simp -implicitDefEqProofs (disch := omega) only [go_sem, Tm.enc]
 refine ⟨fun h1 => ⟨⟨by simp, by omega, by omega⟩, fun _ => ?_⟩, fun h1 => ?_⟩
 ·obtain ⟨ys, hys⟩ : ∃ ys, ys = xs ++ [s] := ⟨_, rfl⟩
  rw [← beq_iff_eq] at h1
  rw [h1, if_pos rfl, ← List.append_assoc, ← hys] at hr
  have hyl : ys.length ≤ xs.length + 1 := by rw [hys]; simp
  have hys0 : ys.length = xs.length + 1 := by rw [hys]; simp
  have hys1 : sR xs ++ [[sC s]] = sR ys := by rw [hys, ← xG1, xF1]
  refine zA0 (ι := Nat) (fun i => mk 29 [(1, .one (.own 9001 (sR (ys ++ Tm.varss (ts.take i))).length)), (2, .one (.ptr 2 0)), (5, zD0 i)] [(2, .var [iC k, iC n, sC s, tC ts]), (9001, .arr 9 1 (sR (ys ++ Tm.varss (ts.take i))) false)])
   (fun i => i ≤ ts.length) (fun i => ts.length - i) 0 (Nat.zero_le _) ?_ zE0 zB0 (by decide +kernel) ?_
  ·refine zG0 (by simp [go_sem, hys0, Tm.varss]) (by simp [go_sem, hys0, Tm.varss, hys1])
  ·intro i hi
   rcases Nat.lt_or_ge i ts.length with hlt | hge
   ·have hg := zF0 ts i hlt
    have hsz := wx0 ts i hlt
    have hvl := varss_len (ts.take i)
    have hih := ih _ (List.getElem_mem hlt) (ys ++ Tm.varss (ts.take i)) (by rw [List.length_append]; omega)
    have ht : ys ++ Tm.varss (ts.take (i + 1)) = (ys ++ Tm.varss (ts.take i)) ++ ts[i].vars := by
     rw [List.take_add_one, List.getElem?_eq_getElem hlt]
     simp only [Option.toList_some, jj0, List.append_assoc]
    simp -implicitDefEqProofs (disch := omega) only [go_sem, hg, hlt, enc_len]
    refine CallK.acc 1 hih ⟨by simp [go_sem], rfl, by rw [jX1, List.length_append], rfl⟩ rfl ?_
    simp -implicitDefEqProofs (disch := omega) only [go_sem, List.getElem?_cons_succ, List.getElem?_cons_zero]
    refine ⟨i + 1, hlt, by omega, ?_⟩
    rw [ht]
    obtain ⟨zs, hzs⟩ : ∃ zs, zs = (ys ++ Tm.varss (ts.take i)) ++ ts[i].vars := ⟨_, rfl⟩
    have hz1 : zs.length = ys.length + (Tm.varss (ts.take i)).length + ts[i].vars.length := by rw [hzs, List.length_append, List.length_append]
    have hz2 : zs.length = ys.length + (Tm.varss (ts.take (i + 1))).length := by rw [hzs, ← ht, List.length_append]
    rw [← hzs]
    refine (zG0 (L' := [(1, .one (.own 27 (sR zs).length)), (2, .one (.ptr 2 0)), (5, zD0 (i + 1 : Nat))]) (B' := [(2, .var [iC k, iC n, sC s, tC ts]), (27, .arr 9 1 (sR zs) false)]) (by simp [go_sem]; omega) (by simp [go_sem])).trans ?_
    refine (zu0 (t := 1) (l := 27) (k := (sR zs).length) 9001 rfl rfl rfl (by decide) rfl (qt1 _) (gX0 _)).trans ?_
    exact zG0 (by simp [go_sem]; omega) (by simp [go_sem])
   ·have : i = ts.length := by omega
    subst this
    simp -implicitDefEqProofs (disch := omega) only [go_sem, Nat.lt_irrefl, List.take_length]
    subst hr
    exact ⟨by rw [List.length_append], rfl⟩
 ·obtain ⟨ys, hys⟩ : ∃ ys, ys = xs := ⟨_, rfl⟩
  rw [h1, if_neg (by simp), List.nil_append, ← hys] at hr
  have hyl : ys.length ≤ xs.length + 1 := by rw [hys]; omega
  have hys0 : ys.length = xs.length := by rw [hys]
  have hys1 : sR xs = sR ys := by rw [hys]
  refine zA0 (ι := Nat) (fun i => mk 29 [(1, .one (.own 9001 (sR (ys ++ Tm.varss (ts.take i))).length)), (2, .one (.ptr 2 0)), (5, zD0 i)] [(2, .var [iC k, iC n, sC s, tC ts]), (9001, .arr 9 1 (sR (ys ++ Tm.varss (ts.take i))) false)])
   (fun i => i ≤ ts.length) (fun i => ts.length - i) 0 (Nat.zero_le _) ?_ zE0 zB0 (by decide +kernel) ?_
  ·refine zG0 (by simp [go_sem, hys0, Tm.varss]) (by simp [go_sem, hys0, Tm.varss, hys1])
  ·intro i hi
   rcases Nat.lt_or_ge i ts.length with hlt | hge
   ·have hg := zF0 ts i hlt
    have hsz := wx0 ts i hlt
    have hvl := varss_len (ts.take i)
    have hih := ih _ (List.getElem_mem hlt) (ys ++ Tm.varss (ts.take i)) (by rw [List.length_append]; omega)
    have ht : ys ++ Tm.varss (ts.take (i + 1)) = (ys ++ Tm.varss (ts.take i)) ++ ts[i].vars := by
     rw [List.take_add_one, List.getElem?_eq_getElem hlt]
     simp only [Option.toList_some, jj0, List.append_assoc]
    simp -implicitDefEqProofs (disch := omega) only [go_sem, hg, hlt, enc_len]
    refine CallK.acc 1 hih ⟨by simp [go_sem], rfl, by rw [jX1, List.length_append], rfl⟩ rfl ?_
    simp -implicitDefEqProofs (disch := omega) only [go_sem, List.getElem?_cons_succ, List.getElem?_cons_zero]
    refine ⟨i + 1, hlt, by omega, ?_⟩
    rw [ht]
    obtain ⟨zs, hzs⟩ : ∃ zs, zs = (ys ++ Tm.varss (ts.take i)) ++ ts[i].vars := ⟨_, rfl⟩
    have hz1 : zs.length = ys.length + (Tm.varss (ts.take i)).length + ts[i].vars.length := by rw [hzs, List.length_append, List.length_append]
    have hz2 : zs.length = ys.length + (Tm.varss (ts.take (i + 1))).length := by rw [hzs, ← ht, List.length_append]
    rw [← hzs]
    refine (zG0 (L' := [(1, .one (.own 27 (sR zs).length)), (2, .one (.ptr 2 0)), (5, zD0 (i + 1 : Nat))]) (B' := [(2, .var [iC k, iC n, sC s, tC ts]), (27, .arr 9 1 (sR zs) false)]) (by simp [go_sem]; omega) (by simp [go_sem])).trans ?_
    refine (zu0 (t := 1) (l := 27) (k := (sR zs).length) 9001 rfl rfl rfl (by decide) rfl (qt1 _) (gX0 _)).trans ?_
    exact zG0 (by simp [go_sem]; omega) (by simp [go_sem])
   ·have : i = ts.length := by omega
    subst this
    simp -implicitDefEqProofs (disch := omega) only [go_sem, Nat.lt_irrefl, List.take_length]
    subst hr
    exact ⟨by rw [List.length_append], rfl⟩
theorem vU0 : ∀ (t : Tm), ∀ xs : List ByteArray, xs.length + t.size < 90000000 → ff0 Tryz.prog 56 [tmV t] [] 9 1 (sR xs) (sR (xs ++ t.vars)) [] := by
 refine Tm.ind (fun k n s ts ih xs h => yL1 k n s ts xs ?_ (fun t ht ys hy => ih t ht ys hy))
 simp only [Tm.size] at h; omega
theorem qK1 (k n : Int) (s : ByteArray) (ts : List Tm) (hl : Tm.sizes ts < 80000000) (ih : ∀ t, t ∈ ts → Sat Tryz.prog 54 [tmV t] (slV (t.vars.map encS))) : Sat Tryz.prog 54 [tmV (.mk k n s ts)] (slV ((Tm.mk k n s ts).vars.map encS)) := by
 have hts := zH0 ts
 obtain ⟨r, hr⟩ : ∃ r, r = (Tm.mk k n s ts).vars := ⟨_, rfl⟩
 rw [← hr]
 obtain ⟨ys0, hy0⟩ : ∃ ys0 : List ByteArray, ys0 = if k == 1 then [s] else [] := ⟨_, rfl⟩
 have hr : r = ys0 ++ Tm.varss ts := by rw [hr, hy0]; rfl
 have hl0 : ys0.length ≤ 1 := by rw [hy0]; split <;> simp
 refine soc zE0 zB0 Tryz.func54 ?_
 simp -implicitDefEqProofs (disch := omega) only [go_sem, Tm.enc]
 refine ⟨fun h1 => ⟨by simp, fun _ => ?_⟩, fun h1 => ?_⟩
 all_goals
  refine zA0 (ι := Nat) (fun i => mk 27 [(3, .one (.own 9000 (sR (ys0 ++ Tm.varss (ts.take i))).length)), (15, yM0 ts), (16, zD0 ts.length), (17, zD0 i)] [(9000, .arr 9 1 (sR (ys0 ++ Tm.varss (ts.take i))) false)])
   (fun i => i ≤ ts.length) (fun i => ts.length - i) 0 (Nat.zero_le _) ?_ zE0 zB0 (by decide +kernel) ?_
  rotate_left
  ·intro i hi
   rcases Nat.lt_or_ge i ts.length with hlt | hge
   ·have hg := zF0 ts i hlt
    have hih := ih _ (List.getElem_mem hlt)
    have hsz := wx0 ts i hlt
    have hvl := varss_len (ts.take i)
    have hvl2 := zN0 ts[i]
    have ht : ys0 ++ Tm.varss (ts.take (i + 1)) = (ys0 ++ Tm.varss (ts.take i)) ++ ts[i].vars := by
     rw [List.take_add_one, List.getElem?_eq_getElem hlt]
     simp only [Option.toList_some, jj0, List.append_assoc]
    generalize ts[i].vars = vs at hih ht hvl2
    simp -implicitDefEqProofs (disch := omega) only [go_sem, hg, hlt, enc_len]
    refine CallK.mk hih ?_
    simp -implicitDefEqProofs (disch := omega) only [go_sem, hg, hlt, enc_len]
    refine ⟨⟨rowsOf_l (fun _ => rfl), by omega, by omega⟩, fun _ => ⟨i + 1, hlt, by omega, ?_⟩⟩
    have hlen := congrArg List.length ht
    simp only [List.length_append] at hlen
    rw [ht]
    exact zG0 (by simp [go_sem]; omega) (by simp [go_sem, zb0])
   ·have : i = ts.length := by omega
    subst this
    rw [List.take_length, ← hr]
    simp -implicitDefEqProofs (disch := omega) only [go_sem, Nat.lt_irrefl]
 ·refine (zu0 (t := 3) (l := 13) (k := 1) 9000 rfl rfl rfl (by decide) rfl (qt1 [s]) (gX0 [s])).trans ?_
  rw [← beq_iff_eq] at h1
  rw [h1, if_pos rfl] at hy0
  subst hy0
  exact zG0 (by simp [go_sem, Tm.varss]) (by simp [go_sem, Tm.varss, rowsOf, encS])
 ·refine (yG0 (t := 3) 9000 9 1 rfl (by decide) rfl (by decide)).trans ?_
  rw [h1, if_neg (by simp)] at hy0
  subst hy0
  exact zG0 (by simp [go_sem, Tm.varss]) (by simp [go_sem, Tm.varss, rowsOf, encS])
theorem qt0 : ∀ (t : Tm), t.size < 80000000 → Sat Tryz.prog 54 [tmV t] (slV (t.vars.map encS)) := by
 refine Tm.ind (fun k n s ts ih h => qK1 k n s ts ?_ (fun t ht => ih t ht ?_))
 ·simp only [Tm.size] at h; omega
 ·have := zT0 ts t ht; simp only [Tm.size] at h; omega
end Go.Ai
