/- Names in order, names without others. -/
import Derived.Test.YtmddjojbaompiaaGreatAiT0
import Derived.Test.YtmddjojbaompiaaGreatAiU4
set_option linter.unusedVariables false
set_option linter.unusedSimpArgs false
namespace Go.Ai
open Go.Proofs
set_option maxRecDepth 100000
abbrev ltS (a b : ByteArray) : Bool := Op.bytesLess a.toList b.toList
def posN (x : ByteArray) : List ByteArray → Nat
 | [] => 0
 | y :: ys => if ltS y x then posN x ys + 1 else 0
def sortStep (out : List ByteArray) (x : ByteArray) : List ByteArray :=
 match out.drop (posN x out) with
 | y :: _ => if eqS y x then out else out.take (posN x out) ++ x :: out.drop (posN x out)
 | [] => out.take (posN x out) ++ [x]
def sortN (xs : List ByteArray) : List ByteArray := xs.foldl sortStep []
theorem posN_le (x : ByteArray) : ∀ (ys : List ByteArray), posN x ys ≤ ys.length
 | [] => Nat.le_refl _
 | y :: ys => by
  have := posN_le x ys
  simp only [posN]
  split <;> simp <;> omega
theorem posN_drop (x : ByteArray) (ys : List ByteArray) (i : Nat) (h : i < ys.length) : posN x (ys.drop i) = if ltS ys[i] x then posN x (ys.drop (i + 1)) + 1 else 0 := by
 rw [List.drop_eq_getElem_cons h]; simp only [posN]
theorem sortStep_len (out : List ByteArray) (x : ByteArray) : (sortStep out x).length ≤ out.length + 1 := by
 have hp := posN_le x out
 unfold sortStep
 split
 ·split
  ·omega
  ·simp; omega
 ·simp; omega
theorem sortStep_mem (out : List ByteArray) (x y : ByteArray) : y ∈ sortStep out x ↔ y ∈ out ∨ y = x := by
 have hsplit := List.take_append_drop (posN x out) out
 have hm : y ∈ out ↔ y ∈ out.take (posN x out) ∨ y ∈ out.drop (posN x out) := by rw [← List.mem_append, hsplit]
 unfold sortStep
 split
 ·rename_i z zs hd
  split
  ·rename_i hz
   have hz : z = x := (eqS_eq z x).1 hz
   have : x ∈ out := by rw [← hz]; exact List.mem_of_mem_drop (i := posN x out) (by rw [hd]; simp)
   constructor
   ·exact fun h => .inl h
   ·rintro (h | rfl)
    ·exact h
    ·exact this
  ·rw [hm]
   simp only [List.mem_append, List.mem_cons]
   constructor
   ·rintro (h | h | h)
    ·exact .inl (.inl h)
    ·exact .inr h
    ·exact .inl (.inr h)
   ·rintro ((h | h) | h)
    ·exact .inl h
    ·exact .inr (.inr h)
    ·exact .inr (.inl h)
 ·rename_i hd
  rw [hm, hd]
  simp
theorem foldl_sort_mem : ∀ (xs out : List ByteArray) (y : ByteArray), y ∈ xs.foldl sortStep out ↔ y ∈ out ∨ y ∈ xs
 | [], out, y => by simp
 | x :: xs, out, y => by
  simp only [List.foldl_cons, foldl_sort_mem xs, sortStep_mem, List.mem_cons, or_assoc]
theorem sortN_mem (xs : List ByteArray) (y : ByteArray) : y ∈ sortN xs ↔ y ∈ xs := by simp [sortN, foldl_sort_mem]
theorem foldl_sort_len : ∀ (xs out : List ByteArray), (xs.foldl sortStep out).length ≤ out.length + xs.length
 | [], out => by simp
 | x :: xs, out => by
  have h1 := sortStep_len out x
  have h2 := foldl_sort_len xs (sortStep out x)
  simp only [List.foldl_cons, List.length_cons]; omega
theorem sortN_len (xs : List ByteArray) : (sortN xs).length ≤ xs.length := by
 have := foldl_sort_len xs []
 simpa [sortN] using this
theorem foldl_take_succ (xs : List ByteArray) (i : Nat) (h : i < xs.length) : (xs.take (i + 1)).foldl sortStep [] = sortStep ((xs.take i).foldl sortStep []) xs[i] := by
 rw [List.take_add_one, List.getElem?_eq_getElem h, List.foldl_append]; rfl
theorem encS_all (xs : List ByteArray) : (∀ r, r ∈ xs.map encS → r.length = 1) = True := eq_true (by
 intro r hr
 obtain ⟨x, _, rfl⟩ := List.mem_map.1 hr
 rfl)
theorem rowsS_all (xs : List ByteArray) : (∀ r, r ∈ rowsOf encS xs → r.length = 1) = True := eq_true (rowsOf_l (fun _ => rfl))
theorem all_sing {α : Type} (l : List α) (n : Nat) : (∀ r, r ∈ [l] → r.length = n) = (l.length = n) := by simp
theorem specSortNames_sat (xs : List ByteArray) (hl : xs.length < 100000000) : Sat Tryz.prog 79 [slV (xs.map encS)] (slV ((sortN xs).map encS)) := by
 obtain ⟨r, hr⟩ : ∃ r, r = sortN xs := ⟨_, rfl⟩
 rw [← hr]
 refine sat_of_code tbOk mixed Tryz.func79 rfl rfl rfl (by decide +kernel) (by decide +kernel) (Nat.le_of_ble_eq_true rfl) ?_
 simp -implicitDefEqProofs (disch := omega) only [go_sem]
 refine loopA_rule (ι := Nat) (fun i => mk 64 [(0, slV (xs.map encS)), (3, slV (((xs.take i).foldl sortStep []).map encS)), (4, intV i)] []) (fun i => i ≤ xs.length) (fun i => xs.length - i) 0 (Nat.zero_le _) ?_ tbOk mixed (by decide +kernel) ?_
 ·refine (wk_data (t := 3) (l := 7) (rows' := []) rfl rfl rfl (by decide) rfl).trans ?_
  exact le_mk (by simp [go_sem]) (by simp [go_sem])
 ·intro i hi
  have hfl := foldl_sort_len (xs.take i) []
  simp only [List.length_take, List.length_nil] at hfl
  rcases Nat.lt_or_ge i xs.length with hlt | hge
  ·have hg := map_getD (ec := encS) hlt
   have hst := foldl_take_succ xs i hlt
   generalize (xs.take i).foldl sortStep [] = out at hfl hst
   generalize xs[i] = x at hg hst
   simp only [encS] at hg
   have hp := posN_le x out
   simp -implicitDefEqProofs (disch := omega) only [go_sem, hg, hlt, List.length_map]
   refine loopA_rule (ι := Nat) (fun j => mk 64 [(0, slV (xs.map encS)), (3, slV (out.map encS)), (4, intV i), (5, intV j)] []) (fun j => j + posN x (out.drop j) = posN x out ∧ j ≤ out.length) (fun j => out.length - j) 0 ⟨by simp, Nat.zero_le _⟩ ?_ tbOk mixed (by decide +kernel) ?_
   ·exact le_mk (by simp [go_sem]) (by simp [go_sem])
   ·rintro j ⟨hj, hjl⟩
    rcases Nat.lt_or_ge j out.length with hlt2 | hge2
    ·have hg2 := map_getD (ec := encS) hlt2
     rw [posN_drop x out j hlt2] at hj
     have hd : sortStep out x = if (ltS out[j] x) then sortStep out x else (if eqS out[j] x then out else out.take j ++ x :: out.drop j) := by
      split
      ·rfl
      ·rename_i hn
       rw [if_neg hn, Nat.add_zero] at hj
       unfold sortStep
       rw [← hj, List.drop_eq_getElem_cons hlt2]
     generalize out[j] = y at hg2 hj hd
     simp only [encS] at hg2
     simp -implicitDefEqProofs (disch := omega) only [go_sem, hg, hg2, hlt, hlt2, List.length_map, encS_all, rowsS_all, all_sing, ← List.map_take, ← List.map_drop, List.length_take, List.length_drop]
     refine ⟨fun h1 => ⟨j + 1, ⟨?_, hlt2⟩, by omega, le_mk (by simp [go_sem]) (by simp [go_sem])⟩, fun h1 => ⟨fun h2 => ⟨i + 1, hlt, by omega, ?_⟩, fun h2 => ?_⟩⟩
     ·rw [if_pos h1] at hj; omega
     ·have h2' : eqS y x = true := by simpa [eqS] using h2
      rw [if_neg (by rw [ltS, h1]; simp), if_pos h2'] at hd
      rw [hst, hd]
      exact le_mk (by simp [go_sem]) (by simp [go_sem])
     ·have h2' : eqS y x = false := h2
      rw [if_neg (by rw [ltS, h1]; simp), if_neg (by rw [h2']; simp)] at hd
      exact ⟨hjl, fun _ => ⟨⟨by omega, by omega⟩, fun _ => ⟨⟨by omega, by omega⟩, fun _ => ⟨hjl, fun _ => ⟨⟨by omega, by omega⟩, fun _ => ⟨i + 1, hlt, by omega, by
      rw [hst, hd]
      refine (le_mk (L' := [(0, slV (xs.map encS)), (3, .one (.own 46 (rowsOf encS (out.take j ++ x :: out.drop j)).length)), (4, intV (i + 1 : Nat))]) (B' := [(46, .arr 9 1 (rowsOf encS (out.take j ++ x :: out.drop j)) false)]) (by simp [go_sem]; omega) (by simp [go_sem]; simp [rowsOf, encS])).trans ?_
      refine (wk_data (t := 3) (l := 46) rfl rfl rfl (by decide) rowsOf_unN).trans ?_
      exact le_mk (by simp [go_sem]) (by simp [go_sem])⟩⟩⟩⟩⟩⟩
    ·have e1 : out.drop j = [] := List.drop_of_length_le hge2
     rw [e1] at hj
     have hd : sortStep out x = out.take j ++ x :: out.drop j := by
      unfold sortStep
      have : posN x out = j := by simp [posN] at hj; omega
      rw [this, e1]
     simp -implicitDefEqProofs (disch := omega) only [go_sem, hg, hlt, Nat.not_lt.2 hge2, List.length_map, encS_all, rowsS_all, all_sing, ← List.map_take, ← List.map_drop, List.length_take, List.length_drop]
     exact ⟨hjl, fun _ => ⟨⟨by omega, by omega⟩, fun _ => ⟨⟨by omega, by omega⟩, fun _ => ⟨hjl, fun _ => ⟨⟨by omega, by omega⟩, fun _ => ⟨i + 1, hlt, by omega, by
     rw [hst, hd]
     refine (le_mk (L' := [(0, slV (xs.map encS)), (3, .one (.own 46 (rowsOf encS (out.take j ++ x :: out.drop j)).length)), (4, intV (i + 1 : Nat))]) (B' := [(46, .arr 9 1 (rowsOf encS (out.take j ++ x :: out.drop j)) false)]) (by simp [go_sem]; omega) (by simp [go_sem]; simp [rowsOf, encS])).trans ?_
     refine (wk_data (t := 3) (l := 46) rfl rfl rfl (by decide) rowsOf_unN).trans ?_
     exact le_mk (by simp [go_sem]) (by simp [go_sem])⟩⟩⟩⟩⟩⟩
  ·have : i = xs.length := by omega
   subst this
   rw [List.take_length] at hfl ⊢
   have : xs.foldl sortStep [] = r := by rw [hr]; rfl
   rw [this]
   simp -implicitDefEqProofs (disch := omega) only [go_sem, Nat.lt_irrefl, List.length_map]
theorem specVarsOf_sat (t : Tm) (h : t.size < 80000000) : Sat Tryz.prog 14 [tmV t] (slV ((sortN t.vars).map encS)) := by
 have hv := vars_len t
 have hs := l3Vars_sat t [] (by simpa using (by omega : t.size < 90000000))
 rw [List.nil_append] at hs
 have hn := specSortNames_sat t.vars (by omega)
 generalize t.vars = vs at hv hs hn
 obtain ⟨k, n, s, ts⟩ := t
 refine sat_of_code tbOk mixed Tryz.func14 rfl rfl rfl (by decide +kernel) (by decide +kernel) (Nat.le_of_ble_eq_true rfl) ?_
 simp -implicitDefEqProofs (disch := omega) only [go_sem, Tm.enc]
 refine CallK.acc 1 hs ⟨rfl, rfl, rfl, rfl⟩ rfl ?_
 simp -implicitDefEqProofs (disch := omega) only [go_sem, List.getElem?_cons_succ, List.getElem?_cons_zero, rowsOf_toC]
 refine CallK.mk hn ?_
 simp -implicitDefEqProofs (disch := omega) only [go_sem]
theorem idxS_has (s : ByteArray) : ∀ (xs : List ByteArray) (k : Int), 0 ≤ k → (0 ≤ idxS s xs k ↔ hasS xs s = true)
 | [], k, _ => by simp [idxS, hasS]
 | x :: xs, k, hk => by
  simp only [idxS, hasS, List.any_cons]
  split
  ·rename_i h; rw [h]; simp [hk]
  ·rename_i h
   have h' : eqS x s = false := by simpa using h
   have := idxS_has s xs (k + 1) (by omega)
   rw [h', Bool.false_or]
   exact this
theorem has_idx (s : ByteArray) (xs : List ByteArray) : decide (idxS s xs 0 ≥ 0) = hasS xs s := by
 rw [Bool.eq_iff_iff, decide_eq_true_eq]
 exact idxS_has s xs 0 (Int.le_refl 0)
theorem has_idx' (s : ByteArray) (xs : List ByteArray) : decide (idxS s xs 0 < 0) = !hasS xs s := by
 have := idxS_has s xs 0 (Int.le_refl 0)
 rw [Bool.eq_iff_iff, decide_eq_true_eq]
 cases h : hasS xs s <;> simp [h] at this ⊢ <;> omega
theorem sliceIndexS_sat (xs : List ByteArray) (hl : xs.length < 100000000) (s : ByteArray) : Sat Tryz.prog 192 [slV (xs.map encS), strV s] (intV (idxS s xs 0)) := by
 refine sat_of_code tbOk mixed Tryz.func192 rfl rfl rfl (by decide +kernel) (by decide +kernel) (Nat.le_of_ble_eq_true rfl) ?_
 simp -implicitDefEqProofs (disch := omega) only [go_sem]
 refine loopA_rule (ι := Nat) (fun i => mk 19 [(0, slV (xs.map encS)), (1, strV s), (7, intV xs.length), (8, intV i)] []) (fun i => i ≤ xs.length ∧ idxS s (xs.drop i) i = idxS s xs 0) (fun i => xs.length - i) 0 ⟨Nat.zero_le _, by simp⟩ ?_ tbOk mixed (by decide +kernel) ?_
 ·exact le_mk (by simp [go_sem]) (by simp [go_sem])
 ·rintro i ⟨hi, he⟩
  rcases Nat.lt_or_ge i xs.length with hlt | hge
  ·have hg := map_getD (ec := encS) hlt
   rw [idxS_drop s xs i hlt] at he
   generalize xs[i] = x at hg he
   simp only [encS] at hg
   simp -implicitDefEqProofs (disch := omega) only [go_sem, hg, hlt, List.length_map]
   refine ⟨fun h => ?_, fun h => ⟨i + 1, ⟨hlt, ?_⟩, by omega, le_mk (by simp [go_sem]) (by simp [go_sem])⟩⟩
   ·have he' : eqS x s = true := by simp [eqS, h]
    simpa only [he', if_true] using he
   ·have he' : eqS x s = false := by
     simp only [eqS]
     simp only [beq_eq_false_iff_ne, ne_eq] at h ⊢
     exact fun e => h e.symm
    simpa only [he', Bool.false_eq_true, if_false, Int.natCast_add, Int.natCast_one] using he
  ·have e1 : xs.drop i = [] := List.drop_of_length_le hge
   rw [e1] at he
   simp -implicitDefEqProofs (disch := omega) only [go_sem, Nat.not_lt.2 hge, List.length_map]
   rw [← he]; rfl
theorem sliceContainsS_sat (xs : List ByteArray) (hl : xs.length < 100000000) (s : ByteArray) : Sat Tryz.prog 130 [slV (xs.map encS), strV s] (boolV (hasS xs s)) := by
 have h := sliceIndexS_sat xs hl s
 have h2 := has_idx s xs
 refine sat_of_code tbOk mixed Tryz.func130 rfl rfl rfl (by decide +kernel) (by decide +kernel) (Nat.le_of_ble_eq_true rfl) ?_
 simp -implicitDefEqProofs (disch := omega) only [go_sem]
 refine CallK.mk h ?_
 simp -implicitDefEqProofs (disch := omega) only [go_sem, h2]
theorem wout_take (xs ys : List ByteArray) (i : Nat) (h : i < xs.length) : wout (xs.take (i + 1)) ys = wout (xs.take i) ys ++ (if hasS ys xs[i] then [] else [xs[i]]) := by
 rw [List.take_add_one, List.getElem?_eq_getElem h]
 simp only [wout, List.filter_append, Option.toList_some]
 congr 1
 simp only [List.filter_cons, List.filter_nil]
 cases hasS ys xs[i] <;> simp
theorem wout_len (xs ys : List ByteArray) : (wout xs ys).length ≤ xs.length := List.length_filter_le _ _
theorem specWithout_sat (xs ys : List ByteArray) (hl : xs.length < 100000000) (hl2 : ys.length < 100000000) : Sat Tryz.prog 13 [slV (xs.map encS), slV (ys.map encS)] (slV ((wout xs ys).map encS)) := by
 obtain ⟨r, hr⟩ : ∃ r, r = wout xs ys := ⟨_, rfl⟩
 rw [← hr]
 refine sat_of_code tbOk mixed Tryz.func13 rfl rfl rfl (by decide +kernel) (by decide +kernel) (Nat.le_of_ble_eq_true rfl) ?_
 simp -implicitDefEqProofs (disch := omega) only [go_sem]
 refine loopA_rule (ι := Nat) (fun i => mk 29 [(0, slV (xs.map encS)), (1, slV (ys.map encS)), (5, .one (.own 7 (wout (xs.take i) ys).length)), (6, intV i)] [(7, .arr 9 1 (rowsOf encS (wout (xs.take i) ys)) false)]) (fun i => i ≤ xs.length) (fun i => xs.length - i) 0 (Nat.zero_le _) ?_ tbOk mixed (by decide +kernel) ?_
 ·exact le_mk (by simp [go_sem, wout]) (by simp [go_sem, wout, rowsOf])
 ·intro i hi
  have hwl := wout_len (xs.take i) ys
  simp only [List.length_take] at hwl
  rcases Nat.lt_or_ge i xs.length with hlt | hge
  ·have hg := map_getD (ec := encS) hlt
   have hw := wout_take xs ys i hlt
   have hix := specIndexOf_sat ys hl2 xs[i]
   have hib := has_idx' xs[i] ys
   generalize wout (xs.take i) ys = out at hwl hw
   generalize xs[i] = x at hg hw hix hib
   simp only [encS] at hg
   simp -implicitDefEqProofs (disch := omega) only [go_sem, hg, hlt, List.length_map]
   refine CallK.mk hix ?_
   simp -implicitDefEqProofs (disch := omega) only [go_sem, hg, hlt, List.length_map, hib]
   refine ⟨fun h => ?_, fun h => ⟨i + 1, hlt, by omega, ?_⟩⟩
   ·refine ⟨⟨by simp, by omega, by omega⟩, fun _ => ⟨i + 1, hlt, by omega, ?_⟩⟩
    rw [hw, h, if_neg (by simp)]
    exact le_mk (by simp [go_sem]) (by simp [go_sem]; simp [rowsOf, encS])
   ·rw [hw, if_pos (by simpa using h), List.append_nil]
    exact le_mk (by simp [go_sem]) (by simp [go_sem])
  ·have : i = xs.length := by omega
   subst this
   rw [List.take_length, ← hr]
   simp -implicitDefEqProofs (disch := omega) only [go_sem, Nat.lt_irrefl, List.length_map]
theorem implWithout_sat (xs ys : List ByteArray) (hl : xs.length < 100000000) (hl2 : ys.length < 100000000) : Sat Tryz.prog 143 [slV (xs.map encS), slV (ys.map encS)] (slV ((wout xs ys).map encS)) := by
 obtain ⟨r, hr⟩ : ∃ r, r = wout xs ys := ⟨_, rfl⟩
 rw [← hr]
 refine sat_of_code tbOk mixed Tryz.func143 rfl rfl rfl (by decide +kernel) (by decide +kernel) (Nat.le_of_ble_eq_true rfl) ?_
 simp -implicitDefEqProofs (disch := omega) only [go_sem]
 refine loopA_rule (ι := Nat) (fun i => mk 24 [(1, slV (ys.map encS)), (5, .one (.own 9000 (wout (xs.take i) ys).length)), (8, slV (xs.map encS)), (9, intV xs.length), (10, intV i)] [(9000, .arr 9 1 (rowsOf encS (wout (xs.take i) ys)) false)]) (fun i => i ≤ xs.length) (fun i => xs.length - i) 0 (Nat.zero_le _) ?_ tbOk mixed (by decide +kernel) ?_
 ·refine (wk_nil (t := 5) 9000 9 1 rfl (by decide) rfl (by decide)).trans ?_
  exact le_mk (by simp [go_sem, wout]) (by simp [go_sem, wout, rowsOf])
 ·intro i hi
  have hwl := wout_len (xs.take i) ys
  simp only [List.length_take] at hwl
  rcases Nat.lt_or_ge i xs.length with hlt | hge
  ·have hg := map_getD (ec := encS) hlt
   have hw := wout_take xs ys i hlt
   have hix := sliceContainsS_sat ys hl2 xs[i]
   generalize wout (xs.take i) ys = out at hwl hw
   generalize xs[i] = x at hg hw hix
   simp only [encS] at hg
   simp -implicitDefEqProofs (disch := omega) only [go_sem, hg, hlt, List.length_map]
   refine CallK.mk hix ?_
   simp -implicitDefEqProofs (disch := omega) only [go_sem, hg, hlt, List.length_map]
   refine ⟨fun h => ?_, fun h => ⟨i + 1, hlt, by omega, ?_⟩⟩
   ·refine ⟨⟨by simp, by omega, by omega⟩, fun _ => ⟨i + 1, hlt, by omega, ?_⟩⟩
    rw [hw, h, if_neg (by simp)]
    exact le_mk (by simp [go_sem]) (by simp [go_sem]; simp [rowsOf, encS])
   ·rw [hw, if_pos (by simpa using h), List.append_nil]
    exact le_mk (by simp [go_sem]) (by simp [go_sem])
  ·have : i = xs.length := by omega
   subst this
   rw [List.take_length, ← hr]
   simp -implicitDefEqProofs (disch := omega) only [go_sem, Nat.lt_irrefl, List.length_map]
theorem wout_nil (xs ys : List ByteArray) : ((wout xs ys).length == 0) = xs.all (hasS ys) := by
 rw [Bool.eq_iff_iff]
 simp [wout, List.filter_eq_nil_iff]
theorem implWithin_sat (t : Tm) (h : t.size < 80000000) (ys : List ByteArray) (hl : ys.length < 100000000) : Sat Tryz.prog 76 [tmV t, slV (ys.map encS)] (boolV (t.vars.all (hasS ys))) := by
 have hv := vars_len t
 have hs := namesIn_sat t h
 have hw := implWithout_sat t.vars ys (by omega) hl
 have hn := wout_nil t.vars ys
 generalize t.vars = vs at hv hs hw hn
 obtain ⟨k, n, s, ts⟩ := t
 have hz : ((((wout vs ys).length : Nat) : Int) == 0) = ((wout vs ys).length == 0) := by rw [Bool.eq_iff_iff]; simp
 refine sat_of_code tbOk mixed Tryz.func76 rfl rfl rfl (by decide +kernel) (by decide +kernel) (Nat.le_of_ble_eq_true rfl) ?_
 simp -implicitDefEqProofs (disch := omega) only [go_sem, Tm.enc]
 refine CallK.mk hs ?_
 simp -implicitDefEqProofs (disch := omega) only [go_sem]
 refine CallK.mk hw ?_
 simp -implicitDefEqProofs (disch := omega) only [go_sem, List.length_map, hz, hn]
end Go.Ai
/- Valid rules: IsValidRule. -/
namespace Go.Ai
open Go.Proofs
set_option maxRecDepth 100000
theorem bis_drop (ts : List Tm) (i : Nat) (h : i < ts.length) : Tm.bis (ts.drop i) = (ts[i].bi || Tm.bis (ts.drop (i + 1))) := by
 rw [List.drop_eq_getElem_cons h]; simp only [Tm.bis]
theorem specBuiltin_1 (k n : Int) (s : ByteArray) (ts : List Tm) (hl : s.size + Tm.sizes ts < 80000000) (ih : ∀ t, t ∈ ts → Sat Tryz.prog 89 [tmV t] (boolV t.bi)) : Sat Tryz.prog 89 [tmV (.mk k n s ts)] (boolV (Tm.mk k n s ts).bi) := by
 have hts := len_sizes ts
 have hb := specIsBuiltin_sat s
 obtain ⟨r, hr⟩ : ∃ r, r = (Tm.mk k n s ts).bi := ⟨_, rfl⟩
 rw [← hr]
 simp only [Tm.bi] at hr
 generalize isBi s = b at hb hr
 refine sat_of_code tbOk mixed Tryz.func89 rfl rfl rfl (by decide +kernel) (by decide +kernel) (Nat.le_of_ble_eq_true rfl) ?_
 simp -implicitDefEqProofs (disch := omega) only [go_sem, Tm.enc]
 refine loopA_rule (ι := Nat) (fun i => mk 25 [(1, .one (.ptr 1 0)), (3, intV i)] [(1, .var [iC k, iC n, sC s, tC ts])])
  (fun i => i ≤ ts.length ∧ Tm.bis (ts.drop i) = Tm.bis ts) (fun i => ts.length - i) 0 ⟨Nat.zero_le _, by simp⟩ ?_ tbOk mixed (by decide +kernel) ?_
 ·exact le_mk (by simp [go_sem]) (by simp [go_sem])
 ·rintro i ⟨hi, he⟩
  rcases Nat.lt_or_ge i ts.length with hlt | hge
  ·have hg := encs_getD ts i hlt
   rw [bis_drop ts i hlt] at he
   simp -implicitDefEqProofs (disch := omega) only [go_sem, hg, hlt, enc_len]
   refine CallK.mk (ih _ (List.getElem_mem hlt)) ?_
   simp -implicitDefEqProofs (disch := omega) only [go_sem]
   exact ⟨fun h => by rw [h] at he; rw [hr, ← he]; simp, fun h => ⟨i + 1, ⟨hlt, by rw [h] at he; simpa using he⟩, by omega, le_mk (by simp [go_sem]) (by simp [go_sem])⟩⟩
  ·have : i = ts.length := by omega
   subst this
   rw [List.drop_length] at he
   have he : false = Tm.bis ts := he
   rw [← he, Bool.or_false] at hr
   simp -implicitDefEqProofs (disch := omega) only [go_sem, Nat.lt_irrefl]
   refine ⟨fun h => CallK.mk hb ?_, fun h => by rw [hr, h]; rfl⟩
   simp -implicitDefEqProofs (disch := omega) only [go_sem]
   rw [hr, h]; rfl
theorem specBi_sat : ∀ (t : Tm), t.size < 80000000 → Sat Tryz.prog 89 [tmV t] (boolV t.bi) := by
 refine Tm.ind (fun k n s ts ih h => specBuiltin_1 k n s ts (by simp only [Tm.size] at h; omega) (fun t ht => ih t ht ?_))
 have := size_mem ts t ht; simp only [Tm.size] at h; omega
theorem implLacks_1 (k n : Int) (s : ByteArray) (ts : List Tm) (hl : s.size + Tm.sizes ts < 80000000) (ih : ∀ t, t ∈ ts → Sat Tryz.prog 72 [tmV t] (boolV (!t.bi))) : Sat Tryz.prog 72 [tmV (.mk k n s ts)] (boolV (!(Tm.mk k n s ts).bi)) := by
 have hts := len_sizes ts
 have hb := implIsBuiltin_sat s
 obtain ⟨r, hr⟩ : ∃ r, r = !(Tm.mk k n s ts).bi := ⟨_, rfl⟩
 rw [← hr]
 simp only [Tm.bi] at hr
 generalize isBi s = b at hb hr
 refine sat_of_code tbOk mixed Tryz.func72 rfl rfl rfl (by decide +kernel) (by decide +kernel) (Nat.le_of_ble_eq_true rfl) ?_
 simp -implicitDefEqProofs (disch := omega) only [go_sem, Tm.enc]
 have loop : (k == 2 && b) = false → r = !Tm.bis ts := fun h => by rw [hr, h]; rfl
 refine ⟨fun h1 => CallK.mk hb ?_, fun h1 => ?_⟩
 ·simp -implicitDefEqProofs (disch := omega) only [go_sem]
  refine ⟨fun h2 => by rw [hr, h1, h2]; rfl, fun h2 => ?_⟩
  have hr := loop (by rw [h2]; simp)
  refine loopA_rule (ι := Nat) (fun i => mk 24 [(14, tmsV ts), (15, intV ts.length), (16, intV i)] [])
   (fun i => i ≤ ts.length ∧ Tm.bis (ts.drop i) = Tm.bis ts) (fun i => ts.length - i) 0 ⟨Nat.zero_le _, by simp⟩ ?_ tbOk mixed (by decide +kernel) ?_
  ·exact le_mk (by simp [go_sem]) (by simp [go_sem])
  ·rintro i ⟨hi, he⟩
   rcases Nat.lt_or_ge i ts.length with hlt | hge
   ·have hg := encs_getD ts i hlt
    rw [bis_drop ts i hlt] at he
    simp -implicitDefEqProofs (disch := omega) only [go_sem, hg, hlt, enc_len]
    refine CallK.mk (ih _ (List.getElem_mem hlt)) ?_
    simp -implicitDefEqProofs (disch := omega) only [go_sem]
    exact ⟨fun h => by rw [h] at he; rw [hr, ← he]; simp, fun h => ⟨i + 1, ⟨hlt, by rw [h] at he; simpa using he⟩, by omega, le_mk (by simp [go_sem]) (by simp [go_sem])⟩⟩
   ·have : i = ts.length := by omega
    subst this
    rw [List.drop_length] at he
    simp -implicitDefEqProofs (disch := omega) only [go_sem, Nat.lt_irrefl]
    rw [hr, ← he]; rfl
 ·have hr := loop (by rw [h1]; rfl)
  refine loopA_rule (ι := Nat) (fun i => mk 24 [(14, tmsV ts), (15, intV ts.length), (16, intV i)] [])
   (fun i => i ≤ ts.length ∧ Tm.bis (ts.drop i) = Tm.bis ts) (fun i => ts.length - i) 0 ⟨Nat.zero_le _, by simp⟩ ?_ tbOk mixed (by decide +kernel) ?_
  ·exact le_mk (by simp [go_sem]) (by simp [go_sem])
  ·rintro i ⟨hi, he⟩
   rcases Nat.lt_or_ge i ts.length with hlt | hge
   ·have hg := encs_getD ts i hlt
    rw [bis_drop ts i hlt] at he
    simp -implicitDefEqProofs (disch := omega) only [go_sem, hg, hlt, enc_len]
    refine CallK.mk (ih _ (List.getElem_mem hlt)) ?_
    simp -implicitDefEqProofs (disch := omega) only [go_sem]
    exact ⟨fun h => by rw [h] at he; rw [hr, ← he]; simp, fun h => ⟨i + 1, ⟨hlt, by rw [h] at he; simpa using he⟩, by omega, le_mk (by simp [go_sem]) (by simp [go_sem])⟩⟩
   ·have : i = ts.length := by omega
    subst this
    rw [List.drop_length] at he
    simp -implicitDefEqProofs (disch := omega) only [go_sem, Nat.lt_irrefl]
    rw [hr, ← he]; rfl
theorem implLacks_sat : ∀ (t : Tm), t.size < 80000000 → Sat Tryz.prog 72 [tmV t] (boolV (!t.bi)) := by
 refine Tm.ind (fun k n s ts ih h => implLacks_1 k n s ts (by simp only [Tm.size] at h; omega) (fun t ht => ih t ht ?_))
 have := size_mem ts t ht; simp only [Tm.size] at h; omega
def signS (k : Int) : ByteArray := if k = 1 then ⟨#[32, 61, 61, 32]⟩ else if k = 2 then ⟨#[32, 33, 61, 32]⟩ else if k = 3 then ⟨#[32, 60, 32]⟩ else sE
theorem signS_emp (k : Int) : eqS (signS k) sE = !guardK k := by
 unfold signS guardK
 split
 ·subst_vars; rw [(eqS_ne _ _).2 (by decide)]; rfl
 ·split
  ·subst_vars; rw [(eqS_ne _ _).2 (by decide)]; rfl
  ·split
   ·subst_vars; rw [(eqS_ne _ _).2 (by decide)]; rfl
   ·rw [eqS_refl]
    have : ¬ (1 ≤ k ∧ k ≤ 3) := by omega
    symm
    simp only [Bool.not_eq_true', Bool.and_eq_false_iff, decide_eq_false_iff_not]
    omega
theorem specSign_sat (k : Int) : Sat Tryz.prog 162 [intV k] (strV (signS k)) := by
 by_cases hk : 1 ≤ k ∧ k ≤ 3
 ·have h3 : k = 1 ∨ k = 2 ∨ k = 3 := by omega
  rcases h3 with rfl | rfl | rfl
  all_goals
   refine sat_of_code tbOk mixed Tryz.func162 rfl rfl rfl (by decide +kernel) (by decide +kernel) (Nat.le_of_ble_eq_true rfl) ?_
   simp -implicitDefEqProofs (disch := omega) only [go_sem]
   refine CallK.mk (l1In_sat _ 1 3) ?_
   simp -implicitDefEqProofs (disch := omega) only [go_sem, Int.reduceToNat, Int.reduceLE, Int.reduceLT, decide_true, Bool.and_self, Int.cast_ofNat_Int]
   rfl
 ·have hb := l1In_sat k 1 3
  have hf : (decide (1 ≤ k) && decide (k ≤ 3)) = false := by
   simp only [Bool.and_eq_false_iff, decide_eq_false_iff_not]; omega
  rw [hf] at hb
  refine sat_of_code tbOk mixed Tryz.func162 rfl rfl rfl (by decide +kernel) (by decide +kernel) (Nat.le_of_ble_eq_true rfl) ?_
  simp -implicitDefEqProofs (disch := omega) only [go_sem]
  refine CallK.mk hb ?_
  simp -implicitDefEqProofs (disch := omega) only [go_sem]
  unfold signS
  rw [if_neg (by omega), if_neg (by omega), if_neg (by omega)]
theorem implGuardKind_sat (k : Int) : Sat Tryz.prog 144 [intV k] (boolV (guardK k)) := by
 refine sat_of_code tbOk mixed Tryz.func144 rfl rfl rfl (by decide +kernel) (by decide +kernel) (Nat.le_of_ble_eq_true rfl) ?_
 simp -implicitDefEqProofs (disch := omega) only [go_sem]
 unfold guardK
 grind
theorem specGuard_sat (sg : GSignature) (hk : opOk sg) (vs : List GVarSort) (hv : vs.length < 100000000) (g : GGuard) (hg : g.size < 40000000) : Sat Tryz.prog 92 [aggV sg.enc, aggV g.enc, slV (vs.map GVarSort.enc)] (boolV (guardS sg vs g)) := by
 obtain ⟨kd, le, ri⟩ := g
 simp only [GGuard.size] at hg
 have h1 := specValid_sat le (by omega)
 have h2 := specValid_sat ri (by omega)
 have h3 := specSign_sat kd
 have h3e := signS_emp kd
 have h4 := specSortOf_sat sg hk vs hv le (by omega)
 have h5 := specSortOf_sat sg hk vs hv ri (by omega)
 obtain ⟨r, hr⟩ : ∃ r, r = guardS sg vs ⟨kd, le, ri⟩ := ⟨_, rfl⟩
 rw [← hr]
 unfold guardS at hr
 simp only at hr
 generalize signS kd = sn at h3 h3e
 generalize guardK kd = b3 at h3e hr
 generalize le.valid = b1 at h1 hr
 generalize ri.valid = b2 at h2 hr
 generalize le.sort sg vs = q1 at h4 hr
 generalize ri.sort sg vs = q2 at h5 hr
 have hse : sg.enc = [.sl (sg.so.map encS), .sl (sg.op.map GOp.enc)] := rfl
 obtain ⟨lk, ln, ls, lt⟩ := le
 obtain ⟨rk, rn, rs, rt⟩ := ri
 refine sat_of_code tbOk mixed Tryz.func92 rfl rfl rfl (by decide +kernel) (by decide +kernel) (Nat.le_of_ble_eq_true rfl) ?_
 simp -implicitDefEqProofs (disch := omega) only [go_sem, GGuard.enc, Tm.enc, encI, hse, List.cons_append, List.nil_append]
 refine CallK.mk h1 ?_
 simp -implicitDefEqProofs (disch := omega) only [go_sem, List.cons_append, List.nil_append]
 refine ⟨fun k1 => CallK.mk h2 ?_, fun k1 => by rw [hr, k1]; simp⟩
 simp -implicitDefEqProofs (disch := omega) only [go_sem]
 refine ⟨fun k2 => CallK.mk h3 ?_, fun k2 => by rw [hr, k2]; simp⟩
 simp -implicitDefEqProofs (disch := omega) only [go_sem]
 refine ⟨fun k3 => ?_, fun k3 => CallK.mk h4 ?_⟩
 ·have k3 : eqS sn sE = true := by simpa [eqS] using k3
  rw [h3e] at k3
  simp at k3
  rw [hr, k3]; simp
 ·have k3 : eqS sn sE = false := k3
  rw [h3e] at k3
  simp at k3
  simp only [eqS, k1, k2, k3, Bool.true_and] at hr
  simp -implicitDefEqProofs (disch := omega) only [go_sem]
  refine ⟨fun k4 => CallK.mk h5 ?_, fun k4 => by rw [hr, k4]; simp⟩
  simp -implicitDefEqProofs (disch := omega) only [go_sem]
  grind
def guardI (sg : GSignature) (vs : List GVarSort) (names : List ByteArray) (g : GGuard) : Bool :=
 guardK g.kd && g.le.valid && g.ri.valid && g.le.vars.all (hasS names) && g.ri.vars.all (hasS names) && !eqS (g.le.sort sg vs) sE && eqS (g.le.sort sg vs) (g.ri.sort sg vs) && !(g.kd == 3 && !eqS (g.le.sort sg vs) sWord)
theorem all_drop {α : Type} (p : α → Bool) (xs : List α) (i : Nat) (h : i < xs.length) : (xs.drop i).all p = (p xs[i] && (xs.drop (i + 1)).all p) := by
 rw [List.drop_eq_getElem_cons h, List.all_cons]
theorem implGuards_sat (sg : GSignature) (hk : opOk sg) (vs : List GVarSort) (hv : vs.length < 100000000) (names : List ByteArray) (hn : names.length < 100000000) (gs : List GGuard) (hl : gs.length < 100000000) (hg : ∀ g, g ∈ gs → g.size < 40000000) : Sat Tryz.prog 77 [aggV sg.enc, slV (gs.map GGuard.enc), slV (vs.map GVarSort.enc), slV (names.map encS)] (boolV (gs.all (guardI sg vs names) && decide (gs.length ≤ 2))) := by
 obtain ⟨r, hr⟩ : ∃ r, r = gs.all (guardI sg vs names) := ⟨_, rfl⟩
 rw [← hr]
 have hse : sg.enc = [.sl (sg.so.map encS), .sl (sg.op.map GOp.enc)] := rfl
 refine sat_of_code tbOk mixed Tryz.func77 rfl rfl rfl (by decide +kernel) (by decide +kernel) (Nat.le_of_ble_eq_true rfl) ?_
 simp -implicitDefEqProofs (disch := omega) only [go_sem, hse]
 refine loopA_rule (ι := Nat) (fun i => mk 79 [(1, slV (gs.map GGuard.enc)), (2, slV (vs.map GVarSort.enc)), (3, slV (names.map encS)), (4, .one (.ptr 4 0)), (13, slV (gs.map GGuard.enc)), (14, intV gs.length), (15, intV i)] [(4, .var [.c (.sl (sg.so.map encS)), .c (.sl (sg.op.map GOp.enc))])]) (fun i => i ≤ gs.length ∧ (gs.drop i).all (guardI sg vs names) = r) (fun i => gs.length - i) 0 ⟨Nat.zero_le _, by simp [hr]⟩ ?_ tbOk mixed (by decide +kernel) ?_
 ·exact le_mk (by simp [go_sem]) (by simp [go_sem])
 ·rintro i ⟨hi, he⟩
  rcases Nat.lt_or_ge i gs.length with hlt | hge
  ·have hgd := map_getD (ec := GGuard.enc) hlt
   have hgs := hg _ (List.getElem_mem hlt)
   rw [all_drop _ gs i hlt] at he
   generalize gs[i] = g at hgd hgs he
   obtain ⟨kd, le, ri⟩ := g
   simp only [GGuard.size] at hgs
   have h1 := implValid_sat le (by omega)
   have h2 := implValid_sat ri (by omega)
   have h3 := implGuardKind_sat kd
   have h4 := implSortOf_sat sg hk vs hv le (by omega)
   have h5 := implSortOf_sat sg hk vs hv ri (by omega)
   have h6 := implWithin_sat le (by omega) names hn
   have h7 := implWithin_sat ri (by omega) names hn
   obtain ⟨rest, hre⟩ : ∃ rest, rest = (gs.drop (i + 1)).all (guardI sg vs names) := ⟨_, rfl⟩
   rw [← hre] at he
   unfold guardI at he
   simp only at he
   generalize guardK kd = b3 at h3 he
   generalize le.valid = b1 at h1 he
   generalize ri.valid = b2 at h2 he
   generalize le.sort sg vs = q1 at h4 he
   generalize ri.sort sg vs = q2 at h5 he
   generalize le.vars.all (hasS names) = b4 at h6 he
   generalize ri.vars.all (hasS names) = b5 at h7 he
   obtain ⟨lk, ln, ls, lt⟩ := le
   obtain ⟨rk, rn, rs, rt⟩ := ri
   simp only [GGuard.enc, Tm.enc, encI, List.cons_append, List.nil_append] at hgd
   simp -implicitDefEqProofs (disch := omega) only [go_sem, hgd, hlt, List.length_map]
   refine CallK.mk h3 ?_
   simp -implicitDefEqProofs (disch := omega) only [go_sem, hgd, hlt, List.length_map]
   refine ⟨fun k3 => CallK.mk h1 ?_, fun k3 => by rw [← he, k3]; simp⟩
   simp -implicitDefEqProofs (disch := omega) only [go_sem, hgd, hlt, List.length_map]
   refine ⟨fun k1 => CallK.mk h2 ?_, fun k1 => by rw [← he, k1]; simp⟩
   simp -implicitDefEqProofs (disch := omega) only [go_sem, hgd, hlt, List.length_map]
   refine ⟨fun k2 => CallK.mk h6 ?_, fun k2 => by rw [← he, k2]; simp⟩
   simp -implicitDefEqProofs (disch := omega) only [go_sem, hgd, hlt, List.length_map]
   refine ⟨fun k4 => CallK.mk h7 ?_, fun k4 => by rw [← he, k4]; simp⟩
   simp -implicitDefEqProofs (disch := omega) only [go_sem, hgd, hlt, List.length_map]
   refine ⟨fun k5 => by rw [← he, k5]; simp, fun k5 => CallK.mk h4 ?_⟩
   simp -implicitDefEqProofs (disch := omega) only [go_sem, hgd, hlt, List.length_map]
   refine CallK.mk h5 ?_
   simp -implicitDefEqProofs (disch := omega) only [go_sem, hgd, hlt, List.length_map]
   rw [k1, k2, k3, k4, k5] at he
   simp only [Bool.true_and, eqS, sE, sWord] at he
   refine ⟨fun k6 => ⟨fun k7 => ⟨fun k8 => ⟨fun k9 => ?_, fun k9 => ⟨i + 1, ⟨hlt, ?_⟩, by omega, le_mk (by simp [go_sem]) (by simp [go_sem])⟩⟩, fun k8 => ⟨i + 1, ⟨hlt, ?_⟩, by omega, le_mk (by simp [go_sem]) (by simp [go_sem])⟩⟩, fun k7 => ?_⟩, fun k6 => ?_⟩
   all_goals grind
  ·have : i = gs.length := by omega
   subst this
   rw [List.drop_length] at he
   have he : true = r := he
   rw [← he]
   simp -implicitDefEqProofs (disch := omega) only [go_sem, Nat.lt_irrefl, List.length_map, Bool.true_and]
   rw [Bool.eq_iff_iff]; simp
   omega
theorem hasS_mem (xs : List ByteArray) (s : ByteArray) : hasS xs s = true ↔ s ∈ xs := by
 simp only [hasS, List.any_eq_true]
 exact ⟨fun ⟨x, h1, h2⟩ => (eqS_eq x s).1 h2 ▸ h1, fun h => ⟨s, h, (eqS_eq s s).2 rfl⟩⟩
theorem wout_sort (xs ys : List ByteArray) : ((wout (sortN xs) (sortN ys)).length == 0) = xs.all (hasS ys) := by
 rw [wout_nil, Bool.eq_iff_iff, List.all_eq_true, List.all_eq_true]
 simp only [hasS_mem, sortN_mem]
theorem specRule_sat (sg : GSignature) (hk : opOk sg) (x : GRule) (hx : x.size < 30000000) : Sat Tryz.prog 19 [aggV sg.enc, aggV x.enc] (boolV (ruleB sg x)) := by
 obtain ⟨na, le, ri, gu⟩ := x
 simp only [GRule.size, szS] at hx
 have hgl := len_szL GGuard.size gu
 have hgm := szL_mem GGuard.size gu
 have h1 := specIsName_sat na (by omega)
 have h2 := specValid_sat le (by omega)
 have h3 := specValid_sat ri (by omega)
 have h4 := specBi_sat le (by omega)
 have h5 := specFindOp_sat sg le.name hk
 obtain ⟨o, ho⟩ : ∃ o, o = (findOp sg le.name).getD opD := ⟨_, rfl⟩
 rw [← ho] at h5
 have h6 := specInferVars_sat sg hk le (by omega) o.re
 have hcs := cnt_size le
 have hvl : (inferV sg le o.re).1.length < 100000000 := by
  have := inf_len sg le o.re []
  simp only [List.length_nil] at this
  unfold inferV
  split
  ·simp only; omega
  ·simp
 have h7 := specSortOf_sat sg hk (inferV sg le o.re).1 hvl ri (by omega)
 have h8 := specVarsOf_sat le (by omega)
 have h9 := specVarsOf_sat ri (by omega)
 have hv1 := vars_len le
 have hv2 := vars_len ri
 have hs1 := sortN_len le.vars
 have hs2 := sortN_len ri.vars
 have h10 := specWithout_sat (sortN ri.vars) (sortN le.vars) (by omega) (by omega)
 have hw := wout_sort ri.vars le.vars
 have h11 := fun g hg => specGuard_sat sg hk (inferV sg le o.re).1 hvl g (by have := hgm g hg; omega)
 obtain ⟨r, hr⟩ : ∃ r, r = ruleB sg ⟨na, le, ri, gu⟩ := ⟨_, rfl⟩
 rw [← hr]
 unfold ruleB at hr
 simp only [← ho] at hr
 have hlk : le.kind = le.kind := rfl
 generalize isNm na = b1 at h1 hr
 generalize le.valid = b2 at h2 hr
 generalize ri.valid = b3 at h3 hr
 generalize le.bi = b4 at h4 hr
 generalize inferV sg le o.re = iv at h6 hvl h7 h11 hr
 generalize ri.sort sg iv.1 = q at h7 hr
 rw [← hw] at hr
 have hwl : (wout (sortN ri.vars) (sortN le.vars)).length < 100000000 := by have := wout_len (sortN ri.vars) (sortN le.vars); omega
 generalize wout (sortN ri.vars) (sortN le.vars) = ws at h10 hr hwl
 generalize sortN le.vars = v1 at h8 h10
 generalize sortN ri.vars = v2 at h9 h10
 have hse : sg.enc = [.sl (sg.so.map encS), .sl (sg.op.map GOp.enc)] := rfl
 obtain ⟨lk, ln, ls, lt⟩ := le
 obtain ⟨rk, rn, rs, rt⟩ := ri
 obtain ⟨ona, oar, ore⟩ := o
 simp only [Tm.kind, Tm.name] at hr h5 h6
 refine sat_of_code tbOk mixed Tryz.func19 rfl rfl rfl (by decide +kernel) (by decide +kernel) (Nat.le_of_ble_eq_true rfl) ?_
 simp -implicitDefEqProofs (disch := omega) only [go_sem, GRule.enc, Tm.enc, encI, encS, encL, hse, List.cons_append, List.nil_append]
 refine CallK.mk h1 ?_
 simp -implicitDefEqProofs (disch := omega) only [go_sem, List.length_map]
 refine ⟨fun k1 => CallK.mk h2 ?_, fun k1 => by rw [hr, k1]; simp⟩
 simp -implicitDefEqProofs (disch := omega) only [go_sem, List.length_map]
 refine ⟨fun k2 => CallK.mk h3 ?_, fun k2 => by rw [hr, k2]; simp⟩
 simp -implicitDefEqProofs (disch := omega) only [go_sem, List.length_map]
 refine ⟨fun k3 => ⟨fun k4 => CallK.mk h4 ?_, fun k4 => by rw [hr]; simp [k4]⟩, fun k3 => by rw [hr, k3]; simp⟩
 have k4 : lk = 2 := by simpa using k4
 subst k4
 simp -implicitDefEqProofs (disch := omega) only [go_sem, List.length_map]
 refine ⟨fun k5 => ⟨fun k6 => by rw [hr, (by simp; omega : decide (gu.length ≤ 2) = false)]; simp, fun k6 => ?_⟩, fun k5 => by rw [hr, k5]; simp⟩
 have hr : r = (iv.2 && eqS q ore && (ws.length == 0) && gu.all (guardS sg iv.1)) := by
  rw [hr, k1, k2, k3, k5, (by simp; omega : decide (gu.length ≤ 2) = true)]; simp
 refine CallK.mk h5 ?_
 simp -implicitDefEqProofs (disch := omega) only [go_sem, GOp.enc, encS, encL, List.cons_append, List.nil_append]
 refine CallK.mk h6 ?_
 simp -implicitDefEqProofs (disch := omega) only [go_sem, List.length_map]
 refine ⟨fun k7 => CallK.mk h7 ?_, fun k7 => by rw [hr, k7]; rfl⟩
 simp -implicitDefEqProofs (disch := omega) only [go_sem, List.length_map]
 refine ⟨fun k8 => CallK.mk h9 ?_, fun k8 => ?_⟩
 ·simp -implicitDefEqProofs (disch := omega) only [go_sem, List.length_map]
  refine CallK.mk h8 ?_
  simp -implicitDefEqProofs (disch := omega) only [go_sem, List.length_map]
  refine CallK.mk h10 ?_
  simp -implicitDefEqProofs (disch := omega) only [go_sem, List.length_map]
  have k8' : eqS q ore = true := by simpa [eqS] using k8
  refine ⟨fun k9 => by rw [hr, (by rw [beq_eq_false_iff_ne]; omega : (ws.length == 0) = false)]; simp, fun k9 => ?_⟩
  have hr : r = gu.all (guardS sg iv.1) := by rw [hr, k7, k8', (by rw [beq_iff_eq]; omega : (ws.length == 0) = true)]; simp
  refine loopA_rule (ι := Nat) (fun i => mk 99 [(2, .one (.ptr 2 0)), (3, .one (.ptr 3 0)), (7, slV (iv.1.map GVarSort.enc)), (9, intV i)] [(2, .var [.c (.sl (sg.so.map encS)), .c (.sl (sg.op.map GOp.enc))]), (3, .var [sC na, iC 2, iC ln, sC ls, tC lt, iC rk, iC rn, sC rs, tC rt, .c (.sl (gu.map GGuard.enc))])]) (fun i => i ≤ gu.length ∧ (gu.drop i).all (guardS sg iv.1) = r) (fun i => gu.length - i) 0 ⟨Nat.zero_le _, by simp [hr]⟩ ?_ tbOk mixed (by decide +kernel) ?_
  ·exact le_mk (by simp [go_sem]) (by simp [go_sem])
  ·rintro i ⟨hi, he⟩
   rcases Nat.lt_or_ge i gu.length with hlt | hge
   ·have hgd := map_getD (ec := GGuard.enc) hlt
    have hgs := h11 _ (List.getElem_mem hlt)
    rw [all_drop _ gu i hlt] at he
    obtain ⟨rest, hre⟩ : ∃ rest, rest = (gu.drop (i + 1)).all (guardS sg iv.1) := ⟨_, rfl⟩
    rw [← hre] at he
    generalize guardS sg iv.1 gu[i] = b at hgs he
    generalize gu[i] = g at hgd hgs
    obtain ⟨kd, ⟨gk, gn, gs, gt⟩, ⟨hk2, hn2, hs2, ht2⟩⟩ := g
    simp only [GGuard.enc, Tm.enc, encI, List.cons_append, List.nil_append] at hgd
    simp -implicitDefEqProofs (disch := omega) only [go_sem, hgd, hlt, List.length_map]
    refine CallK.mk hgs ?_
    simp -implicitDefEqProofs (disch := omega) only [go_sem, hgd, hlt, List.length_map]
    exact ⟨fun k => by rw [← he, k]; rfl, fun k => ⟨i + 1, ⟨hlt, by rw [← he, k, ← hre]; rfl⟩, by omega, le_mk (by simp [go_sem]) (by simp [go_sem])⟩⟩
   ·have : i = gu.length := by omega
    subst this
    rw [List.drop_length] at he
    have he : true = r := he
    simp -implicitDefEqProofs (disch := omega) only [go_sem, Nat.lt_irrefl, List.length_map]
    exact he
 ·have k8' : eqS q ore = false := k8
  rw [hr, k8']; simp
def ruleI (sg : GSignature) (r : GRule) : Bool :=
 isNm r.na && r.le.valid && (r.le.kind == 2) && !r.le.bi && r.ri.valid && (findOp sg r.le.name).isSome &&
 (inferV sg r.le ((findOp sg r.le.name).getD opD).re).2 && eqS (r.ri.sort sg (inferV sg r.le ((findOp sg r.le.name).getD opD).re).1) ((findOp sg r.le.name).getD opD).re &&
 r.ri.vars.all (hasS r.le.vars) && (r.gu.all (guardI sg (inferV sg r.le ((findOp sg r.le.name).getD opD).re).1 r.le.vars) && decide (r.gu.length ≤ 2))
theorem implRule_sat (sg : GSignature) (hk : opOk sg) (x : GRule) (hx : x.size < 30000000) : Sat Tryz.prog 12 [aggV sg.enc, aggV x.enc] (boolV (ruleI sg x)) := by
 obtain ⟨na, le, ri, gu⟩ := x
 simp only [GRule.size, szS] at hx
 have hgl := len_szL GGuard.size gu
 have hgm := szL_mem GGuard.size gu
 have h1 := implIsName_sat na (by omega)
 have h2 := implValid_sat le (by omega)
 have h3 := implValid_sat ri (by omega)
 have h4 := implLacks_sat le (by omega)
 have h5 := implFindOp_sat sg le.name hk
 obtain ⟨o, ho⟩ : ∃ o, o = (findOp sg le.name).getD opD := ⟨_, rfl⟩
 rw [← ho] at h5
 have h6 := implInferVars_sat sg hk le (by omega) o.re
 have hcs := cnt_size le
 have hvl : (inferV sg le o.re).1.length < 100000000 := by
  have := inf_len sg le o.re []
  simp only [List.length_nil] at this
  unfold inferV
  split
  ·simp only; omega
  ·simp
 have h7 := implSortOf_sat sg hk (inferV sg le o.re).1 hvl ri (by omega)
 have hv1 := vars_len le
 have hv2 := vars_len ri
 have h8 := namesIn_sat le (by omega)
 have h9 := implWithin_sat ri (by omega) le.vars (by omega)
 have h10 := implGuards_sat sg hk (inferV sg le o.re).1 hvl le.vars (by omega) gu (by omega) (fun g hg => by have := hgm g hg; omega)
 obtain ⟨r, hr⟩ : ∃ r, r = ruleI sg ⟨na, le, ri, gu⟩ := ⟨_, rfl⟩
 rw [← hr]
 unfold ruleI at hr
 simp only [← ho] at hr
 generalize isNm na = b1 at h1 hr
 generalize le.valid = b2 at h2 hr
 generalize ri.valid = b3 at h3 hr
 generalize le.bi = b4 at h4 hr
 generalize (findOp sg le.name).isSome = b5 at h5 hr
 generalize inferV sg le o.re = iv at h6 hvl h7 h10 hr
 generalize ri.sort sg iv.1 = q at h7 hr
 generalize ri.vars.all (hasS le.vars) = b6 at h9 hr
 generalize (gu.all (guardI sg iv.1 le.vars) && decide (gu.length ≤ 2)) = b7 at h10 hr
 generalize le.vars = v1 at h8 h9 h10
 have hse : sg.enc = [.sl (sg.so.map encS), .sl (sg.op.map GOp.enc)] := rfl
 obtain ⟨lk, ln, ls, lt⟩ := le
 obtain ⟨rk, rn, rs, rt⟩ := ri
 obtain ⟨ona, oar, ore⟩ := o
 simp only [Tm.kind, Tm.name] at hr h5 h6
 refine sat_of_code tbOk mixed Tryz.func12 rfl rfl rfl (by decide +kernel) (by decide +kernel) (Nat.le_of_ble_eq_true rfl) ?_
 simp -implicitDefEqProofs (disch := omega) only [go_sem, GRule.enc, Tm.enc, encI, encS, encL, hse, List.cons_append, List.nil_append]
 refine CallK.mk h1 ?_
 simp -implicitDefEqProofs (disch := omega) only [go_sem, List.length_map]
 refine ⟨fun k1 => CallK.mk h2 ?_, fun k1 => by rw [hr, k1]; simp⟩
 simp -implicitDefEqProofs (disch := omega) only [go_sem, List.length_map]
 refine ⟨fun k2 => ⟨fun k4 => CallK.mk h4 ?_, fun k4 => by rw [hr]; simp [k4]⟩, fun k2 => by rw [hr, k2]; simp⟩
 have k4 : lk = 2 := by simpa using k4
 subst k4
 simp -implicitDefEqProofs (disch := omega) only [go_sem, List.length_map]
 refine ⟨fun k5 => CallK.mk h3 ?_, fun k5 => by rw [hr, k5]; simp⟩
 simp -implicitDefEqProofs (disch := omega) only [go_sem, List.length_map]
 refine ⟨fun k3 => by rw [hr, k3]; simp, fun k3 => CallK.mk h5 ?_⟩
 simp -implicitDefEqProofs (disch := omega) only [go_sem, GOp.enc, encS, encL, List.cons_append, List.nil_append]
 refine ⟨fun k6 => by rw [hr, k6]; simp, fun k6 => CallK.mk h6 ?_⟩
 simp -implicitDefEqProofs (disch := omega) only [go_sem, List.length_map]
 refine CallK.mk h8 ?_
 have hr : r = (iv.2 && eqS q ore && b6 && b7) := by rw [hr, k1, k2, k3, k5, k6]; simp
 simp -implicitDefEqProofs (disch := omega) only [go_sem, List.length_map]
 refine ⟨fun k7 => CallK.mk h7 ?_, fun k7 => by rw [hr, k7]; rfl⟩
 simp -implicitDefEqProofs (disch := omega) only [go_sem, List.length_map]
 refine ⟨fun k8 => CallK.mk h9 ?_, fun k8 => ?_⟩
 ·have k8' : eqS q ore = true := by simpa [eqS] using k8
  simp -implicitDefEqProofs (disch := omega) only [go_sem, List.length_map]
  refine ⟨fun k9 => by rw [hr, k9]; simp, fun k9 => CallK.mk h10 ?_⟩
  simp -implicitDefEqProofs (disch := omega) only [go_sem, List.length_map]
  rw [hr, k7, k8', k9]; rfl
 ·have k8' : eqS q ore = false := k8
  rw [hr, k8']; simp
end Go.Ai
