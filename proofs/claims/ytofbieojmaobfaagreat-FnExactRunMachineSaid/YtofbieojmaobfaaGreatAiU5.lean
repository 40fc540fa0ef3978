/- Names in order, names without others. -/
import Derived.Test.YtofbieojmaobfaaGreatAiT0
import Derived.Test.YtofbieojmaobfaaGreatAiU4
namespace Go.Ai
set_option linter.unusedVariables false
set_option linter.unusedSimpArgs false
open Go.Proofs
set_option maxRecDepth 100000

abbrev ltS (a b : ByteArray) : Bool := Op.bytesLess a.toList b.toList
/-- How many at the head are below. -/
def posN (x : ByteArray) : List ByteArray → Nat
  | [] => 0
  | y :: ys => if ltS y x then posN x ys + 1 else 0
def sortStep (out : List ByteArray) (x : ByteArray) : List ByteArray :=
  match out.drop (posN x out) with
  | y :: _ => if eqS y x then out else out.take (posN x out) ++ x :: out.drop (posN x out)
  | [] => out.take (posN x out) ++ [x]
def sortN (xs : List ByteArray) : List ByteArray := xs.foldl sortStep []
theorem posN_le (x : ByteArray) : ∀ (ys : List ByteArray), posN x ys ≤ ys.length
  | [] => Nat.le_refl _
  | y :: ys => by
    have := posN_le x ys
    simp only [posN]
    split <;> simp <;> omega
theorem posN_drop (x : ByteArray) (ys : List ByteArray) (i : Nat) (h : i < ys.length) : posN x (ys.drop i) = if ltS ys[i] x then posN x (ys.drop (i + 1)) + 1 else 0 := by
  rw [List.drop_eq_getElem_cons h]; simp only [posN]
theorem sortStep_len (out : List ByteArray) (x : ByteArray) : (sortStep out x).length ≤ out.length + 1 := by
  have hp := posN_le x out
  unfold sortStep
  split
  · split
    · omega
    · simp; omega
  · simp; omega
theorem sortStep_mem (out : List ByteArray) (x y : ByteArray) : y ∈ sortStep out x ↔ y ∈ out ∨ y = x := by
  have hsplit := List.take_append_drop (posN x out) out
  have hm : y ∈ out ↔ y ∈ out.take (posN x out) ∨ y ∈ out.drop (posN x out) := by rw [← List.mem_append, hsplit]
  unfold sortStep
  split
  · rename_i z zs hd
    split
    · rename_i hz
      have hz : z = x := (eqS_eq z x).1 hz
      have : x ∈ out := by rw [← hz]; exact List.mem_of_mem_drop (i := posN x out) (by rw [hd]; simp)
      constructor
      · exact fun h => .inl h
      · rintro (h | rfl)
        · exact h
        · exact this
    · rw [hm]
      simp only [List.mem_append, List.mem_cons]
      constructor
      · rintro (h | h | h)
        · exact .inl (.inl h)
        · exact .inr h
        · exact .inl (.inr h)
      · rintro ((h | h) | h)
        · exact .inl h
        · exact .inr (.inr h)
        · exact .inr (.inl h)
  · rename_i hd
    rw [hm, hd]
    simp
theorem foldl_sort_mem : ∀ (xs out : List ByteArray) (y : ByteArray), y ∈ xs.foldl sortStep out ↔ y ∈ out ∨ y ∈ xs
  | [], out, y => by simp
  | x :: xs, out, y => by
    simp only [List.foldl_cons, foldl_sort_mem xs, sortStep_mem, List.mem_cons, or_assoc]
theorem sortN_mem (xs : List ByteArray) (y : ByteArray) : y ∈ sortN xs ↔ y ∈ xs := by simp [sortN, foldl_sort_mem]
theorem foldl_sort_len : ∀ (xs out : List ByteArray), (xs.foldl sortStep out).length ≤ out.length + xs.length
  | [], out => by simp
  | x :: xs, out => by
    have h1 := sortStep_len out x
    have h2 := foldl_sort_len xs (sortStep out x)
    simp only [List.foldl_cons, List.length_cons]; omega
theorem sortN_len (xs : List ByteArray) : (sortN xs).length ≤ xs.length := by
  have := foldl_sort_len xs []
  simpa [sortN] using this
theorem foldl_take_succ (xs : List ByteArray) (i : Nat) (h : i < xs.length) : (xs.take (i + 1)).foldl sortStep [] = sortStep ((xs.take i).foldl sortStep []) xs[i] := by
  rw [List.take_add_one, List.getElem?_eq_getElem h, List.foldl_append]; rfl
theorem encS_all (xs : List ByteArray) : (∀ r, r ∈ xs.map encS → r.length = 1) = True := eq_true (by
  intro r hr
  obtain ⟨x, _, rfl⟩ := List.mem_map.1 hr
  rfl)
theorem rowsS_all (xs : List ByteArray) : (∀ r, r ∈ rowsOf encS xs → r.length = 1) = True := eq_true (rowsOf_l (fun _ => rfl))
theorem all_sing {α : Type} (l : List α) (n : Nat) : (∀ r, r ∈ [l] → r.length = n) = (l.length = n) := by simp
theorem specSortNames_sat (xs : List ByteArray) (hl : xs.length < 100000000) : Sat Tryz.prog 241 [slV (xs.map encS)] (slV ((sortN xs).map encS)) := by
  obtain ⟨r, hr⟩ : ∃ r, r = sortN xs := ⟨_, rfl⟩
  rw [← hr]
  refine sat_of_code tbOk mixed Tryz.func241 rfl rfl rfl (by decide +kernel) (by decide +kernel) (Nat.le_of_ble_eq_true rfl) ?_
  simp -implicitDefEqProofs (disch := omega) only [go_sem]
  refine loopA_rule (ι := Nat) (fun i => mk 64 [(0, slV (xs.map encS)), (3, slV (((xs.take i).foldl sortStep []).map encS)), (4, intV i)] []) (fun i => i ≤ xs.length) (fun i => xs.length - i) 0 (Nat.zero_le _) ?_ tbOk mixed (by decide +kernel) ?_
  · refine (wk_data (t := 3) (l := 7) (rows' := []) rfl rfl rfl (by decide) rfl).trans ?_
    exact le_mk (by simp [go_sem]) (by simp [go_sem])
  · intro i hi
    have hfl := foldl_sort_len (xs.take i) []
    simp only [List.length_take, List.length_nil] at hfl
    rcases Nat.lt_or_ge i xs.length with hlt | hge
    · have hg := map_getD (ec := encS) hlt
      have hst := foldl_take_succ xs i hlt
      generalize (xs.take i).foldl sortStep [] = out at hfl hst
      generalize xs[i] = x at hg hst
      simp only [encS] at hg
      have hp := posN_le x out
      simp -implicitDefEqProofs (disch := omega) only [go_sem, hg, hlt, List.length_map]
      refine loopA_rule (ι := Nat) (fun j => mk 64 [(0, slV (xs.map encS)), (3, slV (out.map encS)), (4, intV i), (5, intV j)] []) (fun j => j + posN x (out.drop j) = posN x out ∧ j ≤ out.length) (fun j => out.length - j) 0 ⟨by simp, Nat.zero_le _⟩ ?_ tbOk mixed (by decide +kernel) ?_
      · exact le_mk (by simp [go_sem]) (by simp [go_sem])
      · rintro j ⟨hj, hjl⟩
        rcases Nat.lt_or_ge j out.length with hlt2 | hge2
        · have hg2 := map_getD (ec := encS) hlt2
          rw [posN_drop x out j hlt2] at hj
          have hd : sortStep out x = if (ltS out[j] x) then sortStep out x else (if eqS out[j] x then out else out.take j ++ x :: out.drop j) := by
            split
            · rfl
            · rename_i hn
              rw [if_neg hn, Nat.add_zero] at hj
              unfold sortStep
              rw [← hj, List.drop_eq_getElem_cons hlt2]
          generalize out[j] = y at hg2 hj hd
          simp only [encS] at hg2
          simp -implicitDefEqProofs (disch := omega) only [go_sem, hg, hg2, hlt, hlt2, List.length_map, encS_all, rowsS_all, all_sing, ← List.map_take, ← List.map_drop, List.length_take, List.length_drop]
          refine ⟨fun h1 => ⟨j + 1, ⟨?_, hlt2⟩, by omega, le_mk (by simp [go_sem]) (by simp [go_sem])⟩, fun h1 => ⟨fun h2 => ⟨i + 1, hlt, by omega, ?_⟩, fun h2 => ?_⟩⟩
          · rw [if_pos h1] at hj; omega
          · have h2' : eqS y x = true := by simpa [eqS] using h2
            rw [if_neg (by rw [ltS, h1]; simp), if_pos h2'] at hd
            rw [hst, hd]
            exact le_mk (by simp [go_sem]) (by simp [go_sem])
          · have h2' : eqS y x = false := h2
            rw [if_neg (by rw [ltS, h1]; simp), if_neg (by rw [h2']; simp)] at hd
            exact ⟨hjl, fun _ => ⟨⟨by omega, by omega⟩, fun _ => ⟨⟨by omega, by omega⟩, fun _ => ⟨hjl, fun _ => ⟨⟨by omega, by omega⟩, fun _ => ⟨i + 1, hlt, by omega, by
            rw [hst, hd]
            refine (le_mk (L' := [(0, slV (xs.map encS)), (3, .one (.own 46 (rowsOf encS (out.take j ++ x :: out.drop j)).length)), (4, intV (i + 1 : Nat))]) (B' := [(46, .arr 9 1 (rowsOf encS (out.take j ++ x :: out.drop j)) false)]) (by simp [go_sem]; omega) (by simp [go_sem]; simp [rowsOf, encS])).trans ?_
            refine (wk_data (t := 3) (l := 46) rfl rfl rfl (by decide) rowsOf_unN).trans ?_
            exact le_mk (by simp [go_sem]) (by simp [go_sem])⟩⟩⟩⟩⟩⟩
        · have e1 : out.drop j = [] := List.drop_of_length_le hge2
          rw [e1] at hj
          have hd : sortStep out x = out.take j ++ x :: out.drop j := by
            unfold sortStep
            have : posN x out = j := by simp [posN] at hj; omega
            rw [this, e1]
          simp -implicitDefEqProofs (disch := omega) only [go_sem, hg, hlt, Nat.not_lt.2 hge2, List.length_map, encS_all, rowsS_all, all_sing, ← List.map_take, ← List.map_drop, List.length_take, List.length_drop]
          exact ⟨hjl, fun _ => ⟨⟨by omega, by omega⟩, fun _ => ⟨⟨by omega, by omega⟩, fun _ => ⟨hjl, fun _ => ⟨⟨by omega, by omega⟩, fun _ => ⟨i + 1, hlt, by omega, by
          rw [hst, hd]
          refine (le_mk (L' := [(0, slV (xs.map encS)), (3, .one (.own 46 (rowsOf encS (out.take j ++ x :: out.drop j)).length)), (4, intV (i + 1 : Nat))]) (B' := [(46, .arr 9 1 (rowsOf encS (out.take j ++ x :: out.drop j)) false)]) (by simp [go_sem]; omega) (by simp [go_sem]; simp [rowsOf, encS])).trans ?_
          refine (wk_data (t := 3) (l := 46) rfl rfl rfl (by decide) rowsOf_unN).trans ?_
          exact le_mk (by simp [go_sem]) (by simp [go_sem])⟩⟩⟩⟩⟩⟩
    · have : i = xs.length := by omega
      subst this
      rw [List.take_length] at hfl ⊢
      have : xs.foldl sortStep [] = r := by rw [hr]; rfl
      rw [this]
      simp -implicitDefEqProofs (disch := omega) only [go_sem, Nat.lt_irrefl, List.length_map]
theorem specVarsOf_sat (t : Tm) (h : t.size < 80000000) : Sat Tryz.prog 214 [tmV t] (slV ((sortN t.vars).map encS)) := by
  have hv := vars_len t
  have hs := l3Vars_sat t [] (by simpa using (by omega : t.size < 90000000))
  rw [List.nil_append] at hs
  have hn := specSortNames_sat t.vars (by omega)
  generalize t.vars = vs at hv hs hn
  obtain ⟨k, n, s, ts⟩ := t
  refine sat_of_code tbOk mixed Tryz.func214 rfl rfl rfl (by decide +kernel) (by decide +kernel) (Nat.le_of_ble_eq_true rfl) ?_
  simp -implicitDefEqProofs (disch := omega) only [go_sem, Tm.enc]
  refine CallK.acc 1 hs ⟨rfl, rfl, rfl, rfl⟩ rfl ?_
  simp -implicitDefEqProofs (disch := omega) only [go_sem, List.getElem?_cons_succ, List.getElem?_cons_zero, rowsOf_toC]
  refine CallK.mk hn ?_
  simp -implicitDefEqProofs (disch := omega) only [go_sem]
theorem idxS_has (s : ByteArray) : ∀ (xs : List ByteArray) (k : Int), 0 ≤ k → (0 ≤ idxS s xs k ↔ hasS xs s = true)
  | [], k, _ => by simp [idxS, hasS]
  | x :: xs, k, hk => by
    simp only [idxS, hasS, List.any_cons]
    split
    · rename_i h; rw [h]; simp [hk]
    · rename_i h
      have h' : eqS x s = false := by simpa using h
      have := idxS_has s xs (k + 1) (by omega)
      rw [h', Bool.false_or]
      exact this
theorem has_idx (s : ByteArray) (xs : List ByteArray) : decide (idxS s xs 0 ≥ 0) = hasS xs s := by
  rw [Bool.eq_iff_iff, decide_eq_true_eq]
  exact idxS_has s xs 0 (Int.le_refl 0)
theorem has_idx' (s : ByteArray) (xs : List ByteArray) : decide (idxS s xs 0 < 0) = !hasS xs s := by
  have := idxS_has s xs 0 (Int.le_refl 0)
  rw [Bool.eq_iff_iff, decide_eq_true_eq]
  cases h : hasS xs s <;> simp [h] at this ⊢ <;> omega
theorem sliceIndexS_sat (xs : List ByteArray) (hl : xs.length < 100000000) (s : ByteArray) : Sat Tryz.prog 244 [slV (xs.map encS), strV s] (intV (idxS s xs 0)) := by
  refine sat_of_code tbOk mixed Tryz.func244 rfl rfl rfl (by decide +kernel) (by decide +kernel) (Nat.le_of_ble_eq_true rfl) ?_
  simp -implicitDefEqProofs (disch := omega) only [go_sem]
  refine loopA_rule (ι := Nat) (fun i => mk 19 [(0, slV (xs.map encS)), (1, strV s), (7, intV xs.length), (8, intV i)] []) (fun i => i ≤ xs.length ∧ idxS s (xs.drop i) i = idxS s xs 0) (fun i => xs.length - i) 0 ⟨Nat.zero_le _, by simp⟩ ?_ tbOk mixed (by decide +kernel) ?_
  · exact le_mk (by simp [go_sem]) (by simp [go_sem])
  · rintro i ⟨hi, he⟩
    rcases Nat.lt_or_ge i xs.length with hlt | hge
    · have hg := map_getD (ec := encS) hlt
      rw [idxS_drop s xs i hlt] at he
      generalize xs[i] = x at hg he
      simp only [encS] at hg
      simp -implicitDefEqProofs (disch := omega) only [go_sem, hg, hlt, List.length_map]
      refine ⟨fun h => ?_, fun h => ⟨i + 1, ⟨hlt, ?_⟩, by omega, le_mk (by simp [go_sem]) (by simp [go_sem])⟩⟩
      · have he' : eqS x s = true := by simp [eqS, h]
        simpa only [he', if_true] using he
      · have he' : eqS x s = false := by
          simp only [eqS]
          simp only [beq_eq_false_iff_ne, ne_eq] at h ⊢
          exact fun e => h e.symm
        simpa only [he', Bool.false_eq_true, if_false, Int.natCast_add, Int.natCast_one] using he
    · have e1 : xs.drop i = [] := List.drop_of_length_le hge
      rw [e1] at he
      simp -implicitDefEqProofs (disch := omega) only [go_sem, Nat.not_lt.2 hge, List.length_map]
      rw [← he]; rfl
theorem sliceContainsS_sat (xs : List ByteArray) (hl : xs.length < 100000000) (s : ByteArray) : Sat Tryz.prog 222 [slV (xs.map encS), strV s] (boolV (hasS xs s)) := by
  have h := sliceIndexS_sat xs hl s
  have h2 := has_idx s xs
  refine sat_of_code tbOk mixed Tryz.func222 rfl rfl rfl (by decide +kernel) (by decide +kernel) (Nat.le_of_ble_eq_true rfl) ?_
  simp -implicitDefEqProofs (disch := omega) only [go_sem]
  refine CallK.mk h ?_
  simp -implicitDefEqProofs (disch := omega) only [go_sem, h2]
theorem wout_take (xs ys : List ByteArray) (i : Nat) (h : i < xs.length) : wout (xs.take (i + 1)) ys = wout (xs.take i) ys ++ (if hasS ys xs[i] then [] else [xs[i]]) := by
  rw [List.take_add_one, List.getElem?_eq_getElem h]
  simp only [wout, List.filter_append, Option.toList_some]
  congr 1
  simp only [List.filter_cons, List.filter_nil]
  cases hasS ys xs[i] <;> simp
theorem wout_len (xs ys : List ByteArray) : (wout xs ys).length ≤ xs.length := List.length_filter_le _ _
theorem specWithout_sat (xs ys : List ByteArray) (hl : xs.length < 100000000) (hl2 : ys.length < 100000000) : Sat Tryz.prog 213 [slV (xs.map encS), slV (ys.map encS)] (slV ((wout xs ys).map encS)) := by
  obtain ⟨r, hr⟩ : ∃ r, r = wout xs ys := ⟨_, rfl⟩
  rw [← hr]
  refine sat_of_code tbOk mixed Tryz.func213 rfl rfl rfl (by decide +kernel) (by decide +kernel) (Nat.le_of_ble_eq_true rfl) ?_
  simp -implicitDefEqProofs (disch := omega) only [go_sem]
  refine loopA_rule (ι := Nat) (fun i => mk 29 [(0, slV (xs.map encS)), (1, slV (ys.map encS)), (5, .one (.own 7 (wout (xs.take i) ys).length)), (6, intV i)] [(7, .arr 9 1 (rowsOf encS (wout (xs.take i) ys)) false)]) (fun i => i ≤ xs.length) (fun i => xs.length - i) 0 (Nat.zero_le _) ?_ tbOk mixed (by decide +kernel) ?_
  · exact le_mk (by simp [go_sem, wout]) (by simp [go_sem, wout, rowsOf])
  · intro i hi
    have hwl := wout_len (xs.take i) ys
    simp only [List.length_take] at hwl
    rcases Nat.lt_or_ge i xs.length with hlt | hge
    · have hg := map_getD (ec := encS) hlt
      have hw := wout_take xs ys i hlt
      have hix := specIndexOf_sat ys hl2 xs[i]
      have hib := has_idx' xs[i] ys
      generalize wout (xs.take i) ys = out at hwl hw
      generalize xs[i] = x at hg hw hix hib
      simp only [encS] at hg
      simp -implicitDefEqProofs (disch := omega) only [go_sem, hg, hlt, List.length_map]
      refine CallK.mk hix ?_
      simp -implicitDefEqProofs (disch := omega) only [go_sem, hg, hlt, List.length_map, hib]
      refine ⟨fun h => ?_, fun h => ⟨i + 1, hlt, by omega, ?_⟩⟩
      · refine ⟨⟨by simp, by omega, by omega⟩, fun _ => ⟨i + 1, hlt, by omega, ?_⟩⟩
        rw [hw, h, if_neg (by simp)]
        exact le_mk (by simp [go_sem]) (by simp [go_sem]; simp [rowsOf, encS])
      · rw [hw, if_pos (by simpa using h), List.append_nil]
        exact le_mk (by simp [go_sem]) (by simp [go_sem])
    · have : i = xs.length := by omega
      subst this
      rw [List.take_length, ← hr]
      simp -implicitDefEqProofs (disch := omega) only [go_sem, Nat.lt_irrefl, List.length_map]
theorem implWithout_sat (xs ys : List ByteArray) (hl : xs.length < 100000000) (hl2 : ys.length < 100000000) : Sat Tryz.prog 246 [slV (xs.map encS), slV (ys.map encS)] (slV ((wout xs ys).map encS)) := by
  obtain ⟨r, hr⟩ : ∃ r, r = wout xs ys := ⟨_, rfl⟩
  rw [← hr]
  refine sat_of_code tbOk mixed Tryz.func246 rfl rfl rfl (by decide +kernel) (by decide +kernel) (Nat.le_of_ble_eq_true rfl) ?_
  simp -implicitDefEqProofs (disch := omega) only [go_sem]
  refine loopA_rule (ι := Nat) (fun i => mk 24 [(1, slV (ys.map encS)), (5, .one (.own 9000 (wout (xs.take i) ys).length)), (8, slV (xs.map encS)), (9, intV xs.length), (10, intV i)] [(9000, .arr 9 1 (rowsOf encS (wout (xs.take i) ys)) false)]) (fun i => i ≤ xs.length) (fun i => xs.length - i) 0 (Nat.zero_le _) ?_ tbOk mixed (by decide +kernel) ?_
  · refine (wk_nil (t := 5) 9000 9 1 rfl (by decide) rfl (by decide)).trans ?_
    exact le_mk (by simp [go_sem, wout]) (by simp [go_sem, wout, rowsOf])
  · intro i hi
    have hwl := wout_len (xs.take i) ys
    simp only [List.length_take] at hwl
    rcases Nat.lt_or_ge i xs.length with hlt | hge
    · have hg := map_getD (ec := encS) hlt
      have hw := wout_take xs ys i hlt
      have hix := sliceContainsS_sat ys hl2 xs[i]
      generalize wout (xs.take i) ys = out at hwl hw
      generalize xs[i] = x at hg hw hix
      simp only [encS] at hg
      simp -implicitDefEqProofs (disch := omega) only [go_sem, hg, hlt, List.length_map]
      refine CallK.mk hix ?_
      simp -implicitDefEqProofs (disch := omega) only [go_sem, hg, hlt, List.length_map]
      refine ⟨fun h => ?_, fun h => ⟨i + 1, hlt, by omega, ?_⟩⟩
      · refine ⟨⟨by simp, by omega, by omega⟩, fun _ => ⟨i + 1, hlt, by omega, ?_⟩⟩
        rw [hw, h, if_neg (by simp)]
        exact le_mk (by simp [go_sem]) (by simp [go_sem]; simp [rowsOf, encS])
      · rw [hw, if_pos (by simpa using h), List.append_nil]
        exact le_mk (by simp [go_sem]) (by simp [go_sem])
    · have : i = xs.length := by omega
      subst this
      rw [List.take_length, ← hr]
      simp -implicitDefEqProofs (disch := omega) only [go_sem, Nat.lt_irrefl, List.length_map]
theorem wout_nil (xs ys : List ByteArray) : ((wout xs ys).length == 0) = xs.all (hasS ys) := by
  rw [Bool.eq_iff_iff]
  simp [wout, List.filter_eq_nil_iff]
theorem implWithin_sat (t : Tm) (h : t.size < 80000000) (ys : List ByteArray) (hl : ys.length < 100000000) : Sat Tryz.prog 226 [tmV t, slV (ys.map encS)] (boolV (t.vars.all (hasS ys))) := by
  have hv := vars_len t
  have hs := namesIn_sat t h
  have hw := implWithout_sat t.vars ys (by omega) hl
  have hn := wout_nil t.vars ys
  generalize t.vars = vs at hv hs hw hn
  obtain ⟨k, n, s, ts⟩ := t
  have hz : ((((wout vs ys).length : Nat) : Int) == 0) = ((wout vs ys).length == 0) := by rw [Bool.eq_iff_iff]; simp
  refine sat_of_code tbOk mixed Tryz.func226 rfl rfl rfl (by decide +kernel) (by decide +kernel) (Nat.le_of_ble_eq_true rfl) ?_
  simp -implicitDefEqProofs (disch := omega) only [go_sem, Tm.enc]
  refine CallK.mk hs ?_
  simp -implicitDefEqProofs (disch := omega) only [go_sem]
  refine CallK.mk hw ?_
  simp -implicitDefEqProofs (disch := omega) only [go_sem, List.length_map, hz, hn]
end Go.Ai
