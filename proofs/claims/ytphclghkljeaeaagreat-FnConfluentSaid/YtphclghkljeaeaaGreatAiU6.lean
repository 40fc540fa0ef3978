/- Names in order, names without others. -/
import Derived.Test.YtphclghkljeaeaaGreatAiT0
import Derived.Test.YtphclghkljeaeaaGreatAiU4
set_option linter.unusedVariables false
set_option linter.unusedSimpArgs false
namespace Go.Ai
open Go.Proofs
set_option maxRecDepth 100000
abbrev ltS (a b : ByteArray) : Bool := Op.bytesLess a.toList b.toList
def lG0 (x : ByteArray) : List ByteArray → Nat
 | [] => 0
 | y :: ys => if ltS y x then lG0 x ys + 1 else 0
def zy0 (out : List ByteArray) (x : ByteArray) : List ByteArray :=
 match out.drop (lG0 x out) with
 | y :: _ => if eqS y x then out else out.take (lG0 x out) ++ x :: out.drop (lG0 x out)
 | [] => out.take (lG0 x out) ++ [x]
def qp0 (xs : List ByteArray) : List ByteArray := xs.foldl zy0 []
theorem sU0 (x : ByteArray) : ∀ (ys : List ByteArray), lG0 x ys ≤ ys.length
 | [] => Nat.le_refl _
 | y :: ys => by
  have := sU0 x ys
  simp only [lG0]
  split <;> simp <;> omega
theorem kK1 (x : ByteArray) (ys : List ByteArray) (i : Nat) (h : i < ys.length) : lG0 x (ys.drop i) = if ltS ys[i] x then lG0 x (ys.drop (i + 1)) + 1 else 0 := by
 rw [List.drop_eq_getElem_cons h]; simp only [lG0]
theorem nK0 (out : List ByteArray) (x : ByteArray) : (zy0 out x).length ≤ out.length + 1 := by
 have hp := sU0 x out
 unfold zy0
 split
 ·split
  ·omega
  ·simp; omega
 ·simp; omega
theorem nL0 (out : List ByteArray) (x y : ByteArray) : y ∈ zy0 out x ↔ y ∈ out ∨ y = x := by
 have hsplit := List.take_append_drop (lG0 x out) out
 have hm : y ∈ out ↔ y ∈ out.take (lG0 x out) ∨ y ∈ out.drop (lG0 x out) := by rw [← List.mem_append, hsplit]
 unfold zy0
 split
 ·rename_i z zs hd
  split
  ·rename_i hz
   have hz : z = x := (qZ0 z x).1 hz
   have : x ∈ out := by rw [← hz]; exact List.mem_of_mem_drop (i := lG0 x out) (by rw [hd]; simp)
   constructor
   ·exact fun h => .inl h
   ·rintro (h | rfl)
    ·exact h
    ·exact this
  ·rw [hm]
   simp only [List.mem_append, List.mem_cons]
   constructor
   ·rintro (h | h | h)
    ·exact .inl (.inl h)
    ·exact .inr h
    ·exact .inl (.inr h)
   ·rintro ((h | h) | h)
    ·exact .inl h
    ·exact .inr (.inr h)
    ·exact .inr (.inl h)
 ·rename_i hd
  rw [hm, hd]
  simp
theorem ks0 : ∀ (xs out : List ByteArray) (y : ByteArray), y ∈ xs.foldl zy0 out ↔ y ∈ out ∨ y ∈ xs
 | [], out, y => by simp
 | x :: xs, out, y => by
  simp only [List.foldl_cons, ks0 xs, nL0, List.mem_cons, or_assoc]
theorem kY0 (xs : List ByteArray) (y : ByteArray) : y ∈ qp0 xs ↔ y ∈ xs := by simp [qp0, ks0]
theorem jH0 : ∀ (xs out : List ByteArray), (xs.foldl zy0 out).length ≤ out.length + xs.length
 | [], out => by simp
 | x :: xs, out => by
  have h1 := nK0 out x
  have h2 := jH0 xs (zy0 out x)
  simp only [List.foldl_cons, List.length_cons]; omega
theorem yE0 (xs : List ByteArray) : (qp0 xs).length ≤ xs.length := by
 have := jH0 xs []
 simpa [qp0] using this
theorem fa0 (xs : List ByteArray) (i : Nat) (h : i < xs.length) : (xs.take (i + 1)).foldl zy0 [] = zy0 ((xs.take i).foldl zy0 []) xs[i] := by
 rw [List.take_add_one, List.getElem?_eq_getElem h, List.foldl_append]; rfl
theorem tY0 (xs : List ByteArray) : (∀ r, r ∈ xs.map encS → r.length = 1) = True := eq_true (by
 intro r hr
 obtain ⟨x, _, rfl⟩ := List.mem_map.1 hr
 rfl)
theorem nD0 (xs : List ByteArray) : (∀ r, r ∈ zA0 encS xs → r.length = 1) = True := eq_true (wt0 (fun _ => rfl))
theorem tD0 {α : Type} (l : List α) (n : Nat) : (∀ r, r ∈ [l] → r.length = n) = (l.length = n) := by simp
theorem ja0 (xs : List ByteArray) (hl : xs.length < 100000000) : Sat Tryz.prog 249 [slV (xs.map encS)] (slV ((qp0 xs).map encS)) := by
 obtain ⟨r, hr⟩ : ∃ r, r = qp0 xs := ⟨_, rfl⟩
 rw [← hr]
 refine soc zF0 zB0 Tryz.func249 ?_
 refine yQ0 ?_
 refine zC0 (ι := Nat) (fun i => mk 64 [(0, slV (xs.map encS)), (3, slV (((xs.take i).foldl zy0 []).map encS)), (4, zG0 i)] []) (fun i => i ≤ xs.length) (fun i => xs.length - i) 0 (Nat.zero_le _) ?_ zF0 zB0 (by decide +kernel) ?_
 ·refine (xq0 (t := 3) (l := 7) (rows' := []) rfl rfl rfl (by decide) rfl).trans ?_
  exact lek
 ·intro i hi
  have hfl := jH0 (xs.take i) []
  simp only [List.length_take, List.length_nil] at hfl
  rcases Nat.lt_or_ge i xs.length with hlt | hge
  ·have hg := zE0 (ec := encS) hlt
   have hst := fa0 xs i hlt
   generalize (xs.take i).foldl zy0 [] = out at hfl hst
   generalize xs[i] = x at hg hst
   simp only [encS] at hg
   have hp := sU0 x out
   refine pi0 ?_
   refine zC0 (ι := Nat) (fun j => mk 64 [(0, slV (xs.map encS)), (3, slV (out.map encS)), (4, zG0 i), (5, zG0 j)] []) (fun j => j + lG0 x (out.drop j) = lG0 x out ∧ j ≤ out.length) (fun j => out.length - j) 0 ⟨by simp, Nat.zero_le _⟩ ?_ zF0 zB0 (by decide +kernel) ?_
   ·exact lek
   ·rintro j ⟨hj, hjl⟩
    rcases Nat.lt_or_ge j out.length with hlt2 | hge2
    ·have hg2 := zE0 (ec := encS) hlt2
     rw [kK1 x out j hlt2] at hj
     have hd : zy0 out x = if (ltS out[j] x) then zy0 out x else (if eqS out[j] x then out else out.take j ++ x :: out.drop j) := by
      split
      ·rfl
      ·rename_i hn
       rw [if_neg hn, Nat.add_zero] at hj
       unfold zy0
       rw [← hj, List.drop_eq_getElem_cons hlt2]
     generalize out[j] = y at hg2 hj hd
     simp only [encS] at hg2
     simp -implicitDefEqProofs (disch := omega) only [go_sem, hg, hg2, hlt, hlt2, List.length_map, tY0, nD0, tD0, ← List.map_take, ← List.map_drop, List.length_take, List.length_drop]
     refine ⟨fun h1 => ⟨j + 1, ⟨?_, hlt2⟩, by omega, lek⟩, fun h1 => ⟨fun h2 => ⟨i + 1, hlt, by omega, ?_⟩, fun h2 => ?_⟩⟩
     ·rw [if_pos h1] at hj; omega
     ·have h2' : eqS y x = true := by simpa [eqS] using h2
      rw [if_neg (by rw [ltS, h1]; simp), if_pos h2'] at hd
      rw [hst, hd]
      exact lek
     ·have h2' : eqS y x = false := h2
      rw [if_neg (by rw [ltS, h1]; simp), if_neg (by rw [h2']; simp)] at hd
      exact ⟨hjl, fun _ => ⟨⟨by omega, by omega⟩, fun _ => ⟨⟨by omega, by omega⟩, fun _ => ⟨hjl, fun _ => ⟨⟨by omega, by omega⟩, fun _ => ⟨i + 1, hlt, by omega, by
      rw [hst, hd]
      refine (zM0 (L' := [(0, slV (xs.map encS)), (3, .one (.own 46 (zA0 encS (out.take j ++ x :: out.drop j)).length)), (4, zG0 (i + 1 : Nat))]) (B' := [(46, .arr 9 1 (zA0 encS (out.take j ++ x :: out.drop j)) false)]) (by simp [go_sem]; omega) (by simp [go_sem]; simp [zA0, encS])).trans ?_
      refine (xq0 (t := 3) (l := 46) rfl rfl rfl (by decide) wH0).trans ?_
      exact lek⟩⟩⟩⟩⟩⟩
    ·have e1 : out.drop j = [] := List.drop_of_length_le hge2
     rw [e1] at hj
     have hd : zy0 out x = out.take j ++ x :: out.drop j := by
      unfold zy0
      have : lG0 x out = j := by simp [lG0] at hj; omega
      rw [this, e1]
     simp -implicitDefEqProofs (disch := omega) only [go_sem, hg, hlt, Nat.not_lt.2 hge2, List.length_map, tY0, nD0, tD0, ← List.map_take, ← List.map_drop, List.length_take, List.length_drop]
     exact ⟨hjl, fun _ => ⟨⟨by omega, by omega⟩, fun _ => ⟨⟨by omega, by omega⟩, fun _ => ⟨hjl, fun _ => ⟨⟨by omega, by omega⟩, fun _ => ⟨i + 1, hlt, by omega, by
     rw [hst, hd]
     refine (zM0 (L' := [(0, slV (xs.map encS)), (3, .one (.own 46 (zA0 encS (out.take j ++ x :: out.drop j)).length)), (4, zG0 (i + 1 : Nat))]) (B' := [(46, .arr 9 1 (zA0 encS (out.take j ++ x :: out.drop j)) false)]) (by simp [go_sem]; omega) (by simp [go_sem]; simp [zA0, encS])).trans ?_
     refine (xq0 (t := 3) (l := 46) rfl rfl rfl (by decide) wH0).trans ?_
     exact lek⟩⟩⟩⟩⟩⟩
  ·have : i = xs.length := by omega
   subst this
   rw [List.take_length] at hfl ⊢
   have : xs.foldl zy0 [] = r := by rw [hr]; rfl
   rw [this]
   simp -implicitDefEqProofs (disch := omega) only [go_sem, Nat.lt_irrefl, List.length_map]
theorem jM0 (t : Tm) (h : t.size < 80000000) : Sat Tryz.prog 203 [tmV t] (slV ((qp0 t.vars).map encS)) := by
 have hv := qk0 t
 have hs := cn0 t [] (by simpa using (by omega : t.size < 90000000))
 rw [List.nil_append] at hs
 have hn := ja0 t.vars (by omega)
 generalize t.vars = vs at hv hs hn
 obtain ⟨k, n, s, ts⟩ := t
 refine soc zF0 zB0 Tryz.func203 ?_
 refine bp0 ?_
 refine CallK.acc 1 hs ⟨rfl, rfl, rfl, rfl⟩ rfl ?_
 refine bY1 ?_
 refine CallK.mk hn ?_
 simp -implicitDefEqProofs only [go_sem]
theorem gD0 (s : ByteArray) : ∀ (xs : List ByteArray) (k : Int), 0 ≤ k → (0 ≤ bo0 s xs k ↔ xM0 xs s = true)
 | [], k, _ => by simp [bo0, xM0]
 | x :: xs, k, hk => by
  simp only [bo0, xM0, List.any_cons]
  split
  ·rename_i h; rw [h]; simp [hk]
  ·rename_i h
   have h' : eqS x s = false := by simpa using h
   have := gD0 s xs (k + 1) (by omega)
   rw [h', Bool.false_or]
   exact this
theorem jU1 (s : ByteArray) (xs : List ByteArray) : decide (bo0 s xs 0 ≥ 0) = xM0 xs s := by
 rw [Bool.eq_iff_iff, decide_eq_true_eq]
 exact gD0 s xs 0 (Int.le_refl 0)
theorem xL1 (s : ByteArray) (xs : List ByteArray) : decide (bo0 s xs 0 < 0) = !xM0 xs s := by
 have := gD0 s xs 0 (Int.le_refl 0)
 rw [Bool.eq_iff_iff, decide_eq_true_eq]
 cases h : xM0 xs s <;> simp [h] at this ⊢ <;> omega
theorem bU0 (xs : List ByteArray) (hl : xs.length < 100000000) (s : ByteArray) : Sat Tryz.prog 261 [slV (xs.map encS), qd0 s] (zG0 (bo0 s xs 0)) := by
 refine soc zF0 zB0 Tryz.func261 ?_
 refine yQ0 ?_
 refine zC0 (ι := Nat) (fun i => mk 19 [(0, slV (xs.map encS)), (1, qd0 s), (7, zG0 xs.length), (8, zG0 i)] []) (fun i => i ≤ xs.length ∧ bo0 s (xs.drop i) i = bo0 s xs 0) (fun i => xs.length - i) 0 ⟨Nat.zero_le _, by simp⟩ ?_ zF0 zB0 (by decide +kernel) ?_
 ·exact lek
 ·rintro i ⟨hi, he⟩
  rcases Nat.lt_or_ge i xs.length with hlt | hge
  ·have hg := zE0 (ec := encS) hlt
   rw [mF0 s xs i hlt] at he
   generalize xs[i] = x at hg he
   simp only [encS] at hg
   refine pi0 ?_
   refine ⟨fun h => ?_, fun h => ⟨i + 1, ⟨hlt, ?_⟩, by omega, lek⟩⟩
   ·have he' : eqS x s = true := by simp [eqS, h]
    simpa only [he', if_true] using he
   ·have he' : eqS x s = false := by
     simp only [eqS]
     simp only [beq_eq_false_iff_ne, ne_eq] at h ⊢
     exact fun e => h e.symm
    simpa only [he', Bool.false_eq_true, if_false, Int.natCast_add, Int.natCast_one] using he
  ·have e1 : xs.drop i = [] := List.drop_of_length_le hge
   rw [e1] at he
   refine nm0 ?_
   rw [← he]; rfl
theorem jF0 (xs : List ByteArray) (hl : xs.length < 100000000) (s : ByteArray) : Sat Tryz.prog 232 [slV (xs.map encS), qd0 s] (boolV (xM0 xs s)) := by
 have h := bU0 xs hl s
 have h2 := jU1 s xs
 refine soc zF0 zB0 Tryz.func232 ?_
 refine zY0 ?_
 refine CallK.mk h ?_
 simp -implicitDefEqProofs only [go_sem, h2]
theorem nj0 (xs ys : List ByteArray) (i : Nat) (h : i < xs.length) : pp0 (xs.take (i + 1)) ys = pp0 (xs.take i) ys ++ (if xM0 ys xs[i] then [] else [xs[i]]) := by
 rw [List.take_add_one, List.getElem?_eq_getElem h]
 simp only [pp0, List.filter_append, Option.toList_some]
 congr 1
 simp only [List.filter_cons, List.filter_nil]
 cases xM0 ys xs[i] <;> simp
theorem lE0 (xs ys : List ByteArray) : (pp0 xs ys).length ≤ xs.length := List.length_filter_le _ _
theorem bf0 (xs ys : List ByteArray) (hl : xs.length < 100000000) (hl2 : ys.length < 100000000) : Sat Tryz.prog 202 [slV (xs.map encS), slV (ys.map encS)] (slV ((pp0 xs ys).map encS)) := by
 obtain ⟨r, hr⟩ : ∃ r, r = pp0 xs ys := ⟨_, rfl⟩
 rw [← hr]
 refine soc zF0 zB0 Tryz.func202 ?_
 refine yQ0 ?_
 refine zC0 (ι := Nat) (fun i => mk 29 [(0, slV (xs.map encS)), (1, slV (ys.map encS)), (5, .one (.own 7 (pp0 (xs.take i) ys).length)), (6, zG0 i)] [(7, .arr 9 1 (zA0 encS (pp0 (xs.take i) ys)) false)]) (fun i => i ≤ xs.length) (fun i => xs.length - i) 0 (Nat.zero_le _) ?_ zF0 zB0 (by decide +kernel) ?_
 ·exact zM0 (by simp [go_sem, pp0]) (by simp [go_sem, pp0, zA0])
 ·intro i hi
  have hwl := lE0 (xs.take i) ys
  simp only [List.length_take] at hwl
  rcases Nat.lt_or_ge i xs.length with hlt | hge
  ·have hg := zE0 (ec := encS) hlt
   have hw := nj0 xs ys i hlt
   have hix := yo0 ys hl2 xs[i]
   have hib := xL1 xs[i] ys
   generalize pp0 (xs.take i) ys = out at hwl hw
   generalize xs[i] = x at hg hw hix hib
   simp only [encS] at hg
   refine pi0 ?_
   refine CallK.mk hix ?_
   simp -implicitDefEqProofs (disch := omega) only [go_sem, hg, hlt, List.length_map, hib]
   refine ⟨fun h => ?_, fun h => ⟨i + 1, hlt, by omega, ?_⟩⟩
   ·refine ⟨⟨by simp, by omega, by omega⟩, fun _ => ⟨i + 1, hlt, by omega, ?_⟩⟩
    rw [hw, h, if_neg (by simp)]
    exact zM0 (by simp [go_sem]) (by simp [go_sem]; simp [zA0, encS])
   ·rw [hw, if_pos (by simpa using h), List.append_nil]
    exact lek
  ·have : i = xs.length := by omega
   subst this
   rw [List.take_length, ← hr]
   simp -implicitDefEqProofs (disch := omega) only [go_sem, Nat.lt_irrefl, List.length_map]
theorem fi0 (xs ys : List ByteArray) (hl : xs.length < 100000000) (hl2 : ys.length < 100000000) : Sat Tryz.prog 263 [slV (xs.map encS), slV (ys.map encS)] (slV ((pp0 xs ys).map encS)) := by
 obtain ⟨r, hr⟩ : ∃ r, r = pp0 xs ys := ⟨_, rfl⟩
 rw [← hr]
 refine soc zF0 zB0 Tryz.func263 ?_
 refine yQ0 ?_
 refine zC0 (ι := Nat) (fun i => mk 24 [(1, slV (ys.map encS)), (5, .one (.own 9000 (pp0 (xs.take i) ys).length)), (8, slV (xs.map encS)), (9, zG0 xs.length), (10, zG0 i)] [(9000, .arr 9 1 (zA0 encS (pp0 (xs.take i) ys)) false)]) (fun i => i ≤ xs.length) (fun i => xs.length - i) 0 (Nat.zero_le _) ?_ zF0 zB0 (by decide +kernel) ?_
 ·refine (dV0 (t := 5) 9000 9 1 rfl (by decide) rfl (by decide)).trans ?_
  exact zM0 (by simp [go_sem, pp0]) (by simp [go_sem, pp0, zA0])
 ·intro i hi
  have hwl := lE0 (xs.take i) ys
  simp only [List.length_take] at hwl
  rcases Nat.lt_or_ge i xs.length with hlt | hge
  ·have hg := zE0 (ec := encS) hlt
   have hw := nj0 xs ys i hlt
   have hix := jF0 ys hl2 xs[i]
   generalize pp0 (xs.take i) ys = out at hwl hw
   generalize xs[i] = x at hg hw hix
   simp only [encS] at hg
   refine pi0 ?_
   refine bs1 hix ?_
   refine ⟨fun h => ?_, fun h => ⟨i + 1, hlt, by omega, ?_⟩⟩
   ·refine ⟨⟨by simp, by omega, by omega⟩, fun _ => ⟨i + 1, hlt, by omega, ?_⟩⟩
    rw [hw, h, if_neg (by simp)]
    exact zM0 (by simp [go_sem]) (by simp [go_sem]; simp [zA0, encS])
   ·rw [hw, if_pos (by simpa using h), List.append_nil]
    exact lek
  ·have : i = xs.length := by omega
   subst this
   rw [List.take_length, ← hr]
   simp -implicitDefEqProofs (disch := omega) only [go_sem, Nat.lt_irrefl, List.length_map]
theorem zW1 (xs ys : List ByteArray) : ((pp0 xs ys).length == 0) = xs.all (xM0 ys) := by
 rw [Bool.eq_iff_iff]
 simp [pp0, List.filter_eq_nil_iff]
theorem jK0 (t : Tm) (h : t.size < 80000000) (ys : List ByteArray) (hl : ys.length < 100000000) : Sat Tryz.prog 236 [tmV t, slV (ys.map encS)] (boolV (t.vars.all (xM0 ys))) := by
 have hv := qk0 t
 have hs := vF0 t h
 have hw := fi0 t.vars ys (by omega) hl
 have hn := zW1 t.vars ys
 generalize t.vars = vs at hv hs hw hn
 obtain ⟨k, n, s, ts⟩ := t
 have hz : ((((pp0 vs ys).length : Nat) : Int) == 0) = ((pp0 vs ys).length == 0) := by rw [Bool.eq_iff_iff]; simp
 refine soc zF0 zB0 Tryz.func236 ?_
 refine bp0 ?_
 refine c3' hs ?_
 refine CallK.mk hw ?_
 simp -implicitDefEqProofs only [go_sem, List.length_map, hz, hn]
end Go.Ai
/- Valid rules: IsValidRule. -/
namespace Go.Ai
open Go.Proofs
set_option maxRecDepth 100000
theorem dj0 (ts : List Tm) (i : Nat) (h : i < ts.length) : Tm.bis (ts.drop i) = (ts[i].bi || Tm.bis (ts.drop (i + 1))) := by
 rw [List.drop_eq_getElem_cons h]; simp only [Tm.bis]
theorem gq0 (k n : Int) (s : ByteArray) (ts : List Tm) (hl : s.size + Tm.sizes ts < 80000000) (ih : ∀ t, t ∈ ts → Sat Tryz.prog 200 [tmV t] (boolV t.bi)) : Sat Tryz.prog 200 [tmV (.mk k n s ts)] (boolV (Tm.mk k n s ts).bi) := by
 have hts := zJ0 ts
 have hb := zg0 s
 obtain ⟨r, hr⟩ : ∃ r, r = (Tm.mk k n s ts).bi := ⟨_, rfl⟩
 rw [← hr]
 simp only [Tm.bi] at hr
 generalize px0 s = b at hb hr
 refine soc zF0 zB0 Tryz.func200 ?_
 refine kF0 ?_
 refine zC0 (ι := Nat) (fun i => mk 25 [(1, .one (.ptr 1 0)), (3, zG0 i)] [(1, .var [iC k, iC n, sC s, tC ts])])
  (fun i => i ≤ ts.length ∧ Tm.bis (ts.drop i) = Tm.bis ts) (fun i => ts.length - i) 0 ⟨Nat.zero_le _, by simp⟩ ?_ zF0 zB0 (by decide +kernel) ?_
 ·exact lek
 ·rintro i ⟨hi, he⟩
  rcases Nat.lt_or_ge i ts.length with hlt | hge
  ·have hg := zI0 ts i hlt
   rw [dj0 ts i hlt] at he
   refine xZ0 ?_
   refine c0' (ih _ (List.getElem_mem hlt)) ?_
   exact ⟨fun h => by rw [h] at he; rw [hr, ← he]; simp, fun h => ⟨i + 1, ⟨hlt, by rw [h] at he; simpa using he⟩, by omega, lek⟩⟩
  ·have : i = ts.length := by omega
   subst this
   rw [List.drop_length] at he
   have he : false = Tm.bis ts := he
   rw [← he, Bool.or_false] at hr
   refine pZ1 ?_
   refine ⟨fun h => CallK.mk hb ?_, fun h => by rw [hr, h]; rfl⟩
   refine yQ0 ?_
   rw [hr, h]; rfl
theorem wl1 : ∀ (t : Tm), t.size < 80000000 → Sat Tryz.prog 200 [tmV t] (boolV t.bi) := by
 refine Tm.ind (fun k n s ts ih h => gq0 k n s ts (by simp only [Tm.size] at h; omega) (fun t ht => ih t ht ?_))
 have := zU0 ts t ht; simp only [Tm.size] at h; omega
theorem rp0 (k n : Int) (s : ByteArray) (ts : List Tm) (hl : s.size + Tm.sizes ts < 80000000) (ih : ∀ t, t ∈ ts → Sat Tryz.prog 233 [tmV t] (boolV (!t.bi))) : Sat Tryz.prog 233 [tmV (.mk k n s ts)] (boolV (!(Tm.mk k n s ts).bi)) := by
 have hts := zJ0 ts
 have hb := za0 s
 obtain ⟨r, hr⟩ : ∃ r, r = !(Tm.mk k n s ts).bi := ⟨_, rfl⟩
 rw [← hr]
 simp only [Tm.bi] at hr
 generalize px0 s = b at hb hr
 refine soc zF0 zB0 Tryz.func233 ?_
 refine kF0 ?_
 have loop : (k == 2 && b) = false → r = !Tm.bis ts := fun h => by rw [hr, h]; rfl
 refine ⟨fun h1 => CallK.mk hb ?_, fun h1 => ?_⟩
 ·refine yQ0 ?_
  refine ⟨fun h2 => by rw [hr, h1, h2]; rfl, fun h2 => ?_⟩
  have hr := loop (by rw [h2]; simp)
  refine zC0 (ι := Nat) (fun i => mk 24 [(14, pP0 ts), (15, zG0 ts.length), (16, zG0 i)] [])
   (fun i => i ≤ ts.length ∧ Tm.bis (ts.drop i) = Tm.bis ts) (fun i => ts.length - i) 0 ⟨Nat.zero_le _, by simp⟩ ?_ zF0 zB0 (by decide +kernel) ?_
  ·exact lek
  ·rintro i ⟨hi, he⟩
   rcases Nat.lt_or_ge i ts.length with hlt | hge
   ·have hg := zI0 ts i hlt
    rw [dj0 ts i hlt] at he
    refine xZ0 ?_
    refine c0' (ih _ (List.getElem_mem hlt)) ?_
    exact ⟨fun h => by rw [h] at he; rw [hr, ← he]; simp, fun h => ⟨i + 1, ⟨hlt, by rw [h] at he; simpa using he⟩, by omega, lek⟩⟩
   ·have : i = ts.length := by omega
    subst this
    rw [List.drop_length] at he
    refine pZ1 ?_
    rw [hr, ← he]; rfl
 ·have hr := loop (by rw [h1]; rfl)
  refine zC0 (ι := Nat) (fun i => mk 24 [(14, pP0 ts), (15, zG0 ts.length), (16, zG0 i)] [])
   (fun i => i ≤ ts.length ∧ Tm.bis (ts.drop i) = Tm.bis ts) (fun i => ts.length - i) 0 ⟨Nat.zero_le _, by simp⟩ ?_ zF0 zB0 (by decide +kernel) ?_
  ·exact lek
  ·rintro i ⟨hi, he⟩
   rcases Nat.lt_or_ge i ts.length with hlt | hge
   ·have hg := zI0 ts i hlt
    rw [dj0 ts i hlt] at he
    refine xZ0 ?_
    refine c0' (ih _ (List.getElem_mem hlt)) ?_
    exact ⟨fun h => by rw [h] at he; rw [hr, ← he]; simp, fun h => ⟨i + 1, ⟨hlt, by rw [h] at he; simpa using he⟩, by omega, lek⟩⟩
   ·have : i = ts.length := by omega
    subst this
    rw [List.drop_length] at he
    refine pZ1 ?_
    rw [hr, ← he]; rfl
theorem gH0 : ∀ (t : Tm), t.size < 80000000 → Sat Tryz.prog 233 [tmV t] (boolV (!t.bi)) := by
 refine Tm.ind (fun k n s ts ih h => rp0 k n s ts (by simp only [Tm.size] at h; omega) (fun t ht => ih t ht ?_))
 have := zU0 ts t ht; simp only [Tm.size] at h; omega
def kn1 (k : Int) : ByteArray := if k = 1 then ⟨#[32, 61, 61, 32]⟩ else if k = 2 then ⟨#[32, 33, 61, 32]⟩ else if k = 3 then ⟨#[32, 60, 32]⟩ else sE
theorem ko1 (k : Int) : eqS (kn1 k) sE = !xx0 k := by
 unfold kn1 xx0
 split
 ·subst_vars; rw [(eqS_ne _ _).2 (by decide)]; rfl
 ·split
  ·subst_vars; rw [(eqS_ne _ _).2 (by decide)]; rfl
  ·split
   ·subst_vars; rw [(eqS_ne _ _).2 (by decide)]; rfl
   ·rw [vi0]
    have : ¬ (1 ≤ k ∧ k ≤ 3) := by omega
    symm
    simp only [Bool.not_eq_true', Bool.and_eq_false_iff, decide_eq_false_iff_not]
    omega
theorem nV0 (k : Int) : Sat Tryz.prog 250 [zG0 k] (qd0 (kn1 k)) := by
 by_cases hk : 1 ≤ k ∧ k ≤ 3
 ·have h3 : k = 1 ∨ k = 2 ∨ k = 3 := by omega
  rcases h3 with rfl | rfl | rfl
  all_goals
   refine soc zF0 zB0 Tryz.func250 ?_
   refine zY0 ?_
   refine CallK.mk (qw0 _ 1 3) ?_
   refine zC2 ?_
   rfl
 ·have hb := qw0 k 1 3
  have hf : (decide (1 ≤ k) && decide (k ≤ 3)) = false := by
   simp only [Bool.and_eq_false_iff, decide_eq_false_iff_not]; omega
  rw [hf] at hb
  refine soc zF0 zB0 Tryz.func250 ?_
  refine zY0 ?_
  refine c3' hb ?_
  unfold kn1
  rw [if_neg (by omega), if_neg (by omega), if_neg (by omega)]
theorem xO0 (k : Int) : Sat Tryz.prog 264 [zG0 k] (boolV (xx0 k)) := by
 refine soc zF0 zB0 Tryz.func264 ?_
 refine zY0 ?_
 unfold xx0
 grind
theorem gu0 (sg : GSignature) (hk : gV0 sg) (vs : List GVarSort) (hv : vs.length < 100000000) (g : GGuard) (hg : g.size < 40000000) : Sat Tryz.prog 204 [zv0 sg.enc, zv0 g.enc, slV (vs.map GVarSort.enc)] (boolV (yM0 sg vs g)) := by
 obtain ⟨kd, le, ri⟩ := g
 simp only [GGuard.size] at hg
 have h1 := qj0 le (by omega)
 have h2 := qj0 ri (by omega)
 have h3 := nV0 kd
 have h3e := ko1 kd
 have h4 := qt0 sg hk vs hv le (by omega)
 have h5 := qt0 sg hk vs hv ri (by omega)
 obtain ⟨r, hr⟩ : ∃ r, r = yM0 sg vs ⟨kd, le, ri⟩ := ⟨_, rfl⟩
 rw [← hr]
 unfold yM0 at hr
 simp only at hr
 generalize kn1 kd = sn at h3 h3e
 generalize xx0 kd = b3 at h3e hr
 generalize le.valid = b1 at h1 hr
 generalize ri.valid = b2 at h2 hr
 generalize le.sort sg vs = q1 at h4 hr
 generalize ri.sort sg vs = q2 at h5 hr
 have hse : sg.enc = [.sl (sg.so.map encS), .sl (sg.op.map GOp.enc)] := rfl
 obtain ⟨lk, ln, ls, lt⟩ := le
 obtain ⟨rk, rn, rs, rt⟩ := ri
 refine soc zF0 zB0 Tryz.func204 ?_
 simp -implicitDefEqProofs only [go_sem, GGuard.enc, Tm.enc, encI, hse, List.cons_append, List.nil_append]
 refine CallK.mk h1 ?_
 simp -implicitDefEqProofs only [go_sem, List.cons_append, List.nil_append]
 refine ⟨fun k1 => CallK.mk h2 ?_, fun k1 => by rw [hr, k1]; simp⟩
 refine zY0 ?_
 refine ⟨fun k2 => CallK.mk h3 ?_, fun k2 => by rw [hr, k2]; simp⟩
 refine zY0 ?_
 refine ⟨fun k3 => ?_, fun k3 => CallK.mk h4 ?_⟩
 ·have k3 : eqS sn sE = true := by simpa [eqS] using k3
  rw [h3e] at k3
  simp at k3
  rw [hr, k3]; simp
 ·have k3 : eqS sn sE = false := k3
  rw [h3e] at k3
  simp at k3
  simp only [eqS, k1, k2, k3, Bool.true_and] at hr
  refine zY0 ?_
  refine ⟨fun k4 => CallK.mk h5 ?_, fun k4 => by rw [hr, k4]; simp⟩
  refine zY0 ?_
  grind
def kt0 (sg : GSignature) (vs : List GVarSort) (names : List ByteArray) (g : GGuard) : Bool :=
 xx0 g.kd && g.le.valid && g.ri.valid && g.le.vars.all (xM0 names) && g.ri.vars.all (xM0 names) && !eqS (g.le.sort sg vs) sE && eqS (g.le.sort sg vs) (g.ri.sort sg vs) && !(g.kd == 3 && !eqS (g.le.sort sg vs) kX0)
theorem wQ0 {α : Type} (p : α → Bool) (xs : List α) (i : Nat) (h : i < xs.length) : (xs.drop i).all p = (p xs[i] && (xs.drop (i + 1)).all p) := by
 rw [List.drop_eq_getElem_cons h, List.all_cons]
theorem bz0 (sg : GSignature) (hk : gV0 sg) (vs : List GVarSort) (hv : vs.length < 100000000) (names : List ByteArray) (hn : names.length < 100000000) (gs : List GGuard) (hl : gs.length < 100000000) (hg : ∀ g, g ∈ gs → g.size < 40000000) : Sat Tryz.prog 237 [zv0 sg.enc, slV (gs.map GGuard.enc), slV (vs.map GVarSort.enc), slV (names.map encS)] (boolV (gs.all (kt0 sg vs names) && decide (gs.length ≤ 2))) := by
 obtain ⟨r, hr⟩ : ∃ r, r = gs.all (kt0 sg vs names) := ⟨_, rfl⟩
 rw [← hr]
 have hse : sg.enc = [.sl (sg.so.map encS), .sl (sg.op.map GOp.enc)] := rfl
 refine soc zF0 zB0 Tryz.func237 ?_
 simp -implicitDefEqProofs (disch := omega) only [go_sem, hse]
 refine zC0 (ι := Nat) (fun i => mk 79 [(1, slV (gs.map GGuard.enc)), (2, slV (vs.map GVarSort.enc)), (3, slV (names.map encS)), (4, .one (.ptr 4 0)), (13, slV (gs.map GGuard.enc)), (14, zG0 gs.length), (15, zG0 i)] [(4, .var [.c (.sl (sg.so.map encS)), .c (.sl (sg.op.map GOp.enc))])]) (fun i => i ≤ gs.length ∧ (gs.drop i).all (kt0 sg vs names) = r) (fun i => gs.length - i) 0 ⟨Nat.zero_le _, by simp [hr]⟩ ?_ zF0 zB0 (by decide +kernel) ?_
 ·exact lek
 ·rintro i ⟨hi, he⟩
  rcases Nat.lt_or_ge i gs.length with hlt | hge
  ·have hgd := zE0 (ec := GGuard.enc) hlt
   have hgs := hg _ (List.getElem_mem hlt)
   rw [wQ0 _ gs i hlt] at he
   generalize gs[i] = g at hgd hgs he
   obtain ⟨kd, le, ri⟩ := g
   simp only [GGuard.size] at hgs
   have h1 := wW0 le (by omega)
   have h2 := wW0 ri (by omega)
   have h3 := xO0 kd
   have h4 := qr0 sg hk vs hv le (by omega)
   have h5 := qr0 sg hk vs hv ri (by omega)
   have h6 := jK0 le (by omega) names hn
   have h7 := jK0 ri (by omega) names hn
   obtain ⟨rest, hre⟩ : ∃ rest, rest = (gs.drop (i + 1)).all (kt0 sg vs names) := ⟨_, rfl⟩
   rw [← hre] at he
   unfold kt0 at he
   simp only at he
   generalize xx0 kd = b3 at h3 he
   generalize le.valid = b1 at h1 he
   generalize ri.valid = b2 at h2 he
   generalize le.sort sg vs = q1 at h4 he
   generalize ri.sort sg vs = q2 at h5 he
   generalize le.vars.all (xM0 names) = b4 at h6 he
   generalize ri.vars.all (xM0 names) = b5 at h7 he
   obtain ⟨lk, ln, ls, lt⟩ := le
   obtain ⟨rk, rn, rs, rt⟩ := ri
   simp only [GGuard.enc, Tm.enc, encI, List.cons_append, List.nil_append] at hgd
   refine mj0 ?_
   refine bt1 h3 ?_
   refine ⟨fun k3 => CallK.mk h1 ?_, fun k3 => by rw [← he, k3]; simp⟩
   refine mj0 ?_
   refine ⟨fun k1 => CallK.mk h2 ?_, fun k1 => by rw [← he, k1]; simp⟩
   refine mj0 ?_
   refine ⟨fun k2 => CallK.mk h6 ?_, fun k2 => by rw [← he, k2]; simp⟩
   refine mj0 ?_
   refine ⟨fun k4 => CallK.mk h7 ?_, fun k4 => by rw [← he, k4]; simp⟩
   refine mj0 ?_
   refine ⟨fun k5 => by rw [← he, k5]; simp, fun k5 => CallK.mk h4 ?_⟩
   refine mj0 ?_
   refine bt1 h5 ?_
   rw [k1, k2, k3, k4, k5] at he
   simp only [Bool.true_and, eqS, sE, kX0] at he
   refine ⟨fun k6 => ⟨fun k7 => ⟨fun k8 => ⟨fun k9 => ?_, fun k9 => ⟨i + 1, ⟨hlt, ?_⟩, by omega, lek⟩⟩, fun k8 => ⟨i + 1, ⟨hlt, ?_⟩, by omega, lek⟩⟩, fun k7 => ?_⟩, fun k6 => ?_⟩
   all_goals grind
  ·have : i = gs.length := by omega
   subst this
   rw [List.drop_length] at he
   have he : true = r := he
   rw [← he]
   simp -implicitDefEqProofs (disch := omega) only [go_sem, Nat.lt_irrefl, List.length_map, Bool.true_and]
   rw [Bool.eq_iff_iff]; simp
   omega
theorem gC0 (xs : List ByteArray) (s : ByteArray) : xM0 xs s = true ↔ s ∈ xs := by
 simp only [xM0, List.any_eq_true]
 exact ⟨fun ⟨x, h1, h2⟩ => (qZ0 x s).1 h2 ▸ h1, fun h => ⟨s, h, (qZ0 s s).2 rfl⟩⟩
theorem vO1 (xs ys : List ByteArray) : ((pp0 (qp0 xs) (qp0 ys)).length == 0) = xs.all (xM0 ys) := by
 rw [zW1, Bool.eq_iff_iff, List.all_eq_true, List.all_eq_true]
 simp only [gC0, kY0]
theorem pO0 (sg : GSignature) (hk : gV0 sg) (x : GRule) (hx : x.size < 30000000) : Sat Tryz.prog 128 [zv0 sg.enc, zv0 x.enc] (boolV (qs0 sg x)) := by
 obtain ⟨na, le, ri, gu⟩ := x
 simp only [GRule.size, szS] at hx
 have hgl := qF0 GGuard.size gu
 have hgm := kB0 GGuard.size gu
 have h1 := wv0 na (by omega)
 have h2 := qj0 le (by omega)
 have h3 := qj0 ri (by omega)
 have h4 := wl1 le (by omega)
 have h5 := wu0 sg le.name hk
 obtain ⟨o, ho⟩ : ∃ o, o = (zN0 sg le.name).getD opD := ⟨_, rfl⟩
 rw [← ho] at h5
 have h6 := xj0 sg hk le (by omega) o.re
 have hcs := vb0 le
 have hvl : (zj0 sg le o.re).1.length < 100000000 := by
  have := vD0 sg le o.re []
  simp only [List.length_nil] at this
  unfold zj0
  split
  ·simp only; omega
  ·simp
 have h7 := qt0 sg hk (zj0 sg le o.re).1 hvl ri (by omega)
 have h8 := jM0 le (by omega)
 have h9 := jM0 ri (by omega)
 have hv1 := qk0 le
 have hv2 := qk0 ri
 have hs1 := yE0 le.vars
 have hs2 := yE0 ri.vars
 have h10 := bf0 (qp0 ri.vars) (qp0 le.vars) (by omega) (by omega)
 have hw := vO1 ri.vars le.vars
 have h11 := fun g hg => gu0 sg hk (zj0 sg le o.re).1 hvl g (by have := hgm g hg; omega)
 obtain ⟨r, hr⟩ : ∃ r, r = qs0 sg ⟨na, le, ri, gu⟩ := ⟨_, rfl⟩
 rw [← hr]
 unfold qs0 at hr
 simp only [← ho] at hr
 have hlk : le.kind = le.kind := rfl
 generalize ry0 na = b1 at h1 hr
 generalize le.valid = b2 at h2 hr
 generalize ri.valid = b3 at h3 hr
 generalize le.bi = b4 at h4 hr
 generalize zj0 sg le o.re = iv at h6 hvl h7 h11 hr
 generalize ri.sort sg iv.1 = q at h7 hr
 rw [← hw] at hr
 have hwl : (pp0 (qp0 ri.vars) (qp0 le.vars)).length < 100000000 := by have := lE0 (qp0 ri.vars) (qp0 le.vars); omega
 generalize pp0 (qp0 ri.vars) (qp0 le.vars) = ws at h10 hr hwl
 generalize qp0 le.vars = v1 at h8 h10
 generalize qp0 ri.vars = v2 at h9 h10
 have hse : sg.enc = [.sl (sg.so.map encS), .sl (sg.op.map GOp.enc)] := rfl
 obtain ⟨lk, ln, ls, lt⟩ := le
 obtain ⟨rk, rn, rs, rt⟩ := ri
 obtain ⟨ona, oar, ore⟩ := o
 simp only [Tm.kind, Tm.name] at hr h5 h6
 refine soc zF0 zB0 Tryz.func128 ?_
 simp -implicitDefEqProofs (disch := omega) only [go_sem, GRule.enc, Tm.enc, encI, encS, encL, hse, List.cons_append, List.nil_append]
 refine c9' h1 ?_
 refine ⟨fun k1 => CallK.mk h2 ?_, fun k1 => by rw [hr, k1]; simp⟩
 refine fx0 ?_
 refine ⟨fun k2 => CallK.mk h3 ?_, fun k2 => by rw [hr, k2]; simp⟩
 refine fx0 ?_
 refine ⟨fun k3 => ⟨fun k4 => CallK.mk h4 ?_, fun k4 => by rw [hr]; simp [k4]⟩, fun k3 => by rw [hr, k3]; simp⟩
 have k4 : lk = 2 := by simpa using k4
 subst k4
 refine fx0 ?_
 refine ⟨fun k5 => ⟨fun k6 => by rw [hr, (by simp; omega : decide (gu.length ≤ 2) = false)]; simp, fun k6 => ?_⟩, fun k5 => by rw [hr, k5]; simp⟩
 have hr : r = (iv.2 && eqS q ore && (ws.length == 0) && gu.all (yM0 sg iv.1)) := by
  rw [hr, k1, k2, k3, k5, (by simp; omega : decide (gu.length ≤ 2) = true)]; simp
 refine CallK.mk h5 ?_
 refine bW1 ?_
 refine c9' h6 ?_
 refine ⟨fun k7 => CallK.mk h7 ?_, fun k7 => by rw [hr, k7]; rfl⟩
 refine fx0 ?_
 refine ⟨fun k8 => CallK.mk h9 ?_, fun k8 => ?_⟩
 ·refine fx0 ?_
  refine c9' h8 ?_
  refine c9' h10 ?_
  have k8' : eqS q ore = true := by simpa [eqS] using k8
  refine ⟨fun k9 => by rw [hr, (by rw [beq_eq_false_iff_ne]; omega : (ws.length == 0) = false)]; simp, fun k9 => ?_⟩
  have hr : r = gu.all (yM0 sg iv.1) := by rw [hr, k7, k8', (by rw [beq_iff_eq]; omega : (ws.length == 0) = true)]; simp
  refine zC0 (ι := Nat) (fun i => mk 99 [(2, .one (.ptr 2 0)), (3, .one (.ptr 3 0)), (7, slV (iv.1.map GVarSort.enc)), (9, zG0 i)] [(2, .var [.c (.sl (sg.so.map encS)), .c (.sl (sg.op.map GOp.enc))]), (3, .var [sC na, iC 2, iC ln, sC ls, tC lt, iC rk, iC rn, sC rs, tC rt, .c (.sl (gu.map GGuard.enc))])]) (fun i => i ≤ gu.length ∧ (gu.drop i).all (yM0 sg iv.1) = r) (fun i => gu.length - i) 0 ⟨Nat.zero_le _, by simp [hr]⟩ ?_ zF0 zB0 (by decide +kernel) ?_
  ·exact lek
  ·rintro i ⟨hi, he⟩
   rcases Nat.lt_or_ge i gu.length with hlt | hge
   ·have hgd := zE0 (ec := GGuard.enc) hlt
    have hgs := h11 _ (List.getElem_mem hlt)
    rw [wQ0 _ gu i hlt] at he
    obtain ⟨rest, hre⟩ : ∃ rest, rest = (gu.drop (i + 1)).all (yM0 sg iv.1) := ⟨_, rfl⟩
    rw [← hre] at he
    generalize yM0 sg iv.1 gu[i] = b at hgs he
    generalize gu[i] = g at hgd hgs
    obtain ⟨kd, ⟨gk, gn, gs, gt⟩, ⟨hk2, hn2, hs2, ht2⟩⟩ := g
    simp only [GGuard.enc, Tm.enc, encI, List.cons_append, List.nil_append] at hgd
    refine mj0 ?_
    refine bt1 hgs ?_
    exact ⟨fun k => by rw [← he, k]; rfl, fun k => ⟨i + 1, ⟨hlt, by rw [← he, k, ← hre]; rfl⟩, by omega, lek⟩⟩
   ·have : i = gu.length := by omega
    subst this
    rw [List.drop_length] at he
    have he : true = r := he
    refine wy1 ?_
    exact he
 ·have k8' : eqS q ore = false := k8
  rw [hr, k8']; simp
def kh1 (sg : GSignature) (r : GRule) : Bool :=
 ry0 r.na && r.le.valid && (r.le.kind == 2) && !r.le.bi && r.ri.valid && (zN0 sg r.le.name).isSome &&
 (zj0 sg r.le ((zN0 sg r.le.name).getD opD).re).2 && eqS (r.ri.sort sg (zj0 sg r.le ((zN0 sg r.le.name).getD opD).re).1) ((zN0 sg r.le.name).getD opD).re &&
 r.ri.vars.all (xM0 r.le.vars) && (r.gu.all (kt0 sg (zj0 sg r.le ((zN0 sg r.le.name).getD opD).re).1 r.le.vars) && decide (r.gu.length ≤ 2))
theorem mL0 (sg : GSignature) (hk : gV0 sg) (x : GRule) (hx : x.size < 30000000) : Sat Tryz.prog 186 [zv0 sg.enc, zv0 x.enc] (boolV (kh1 sg x)) := by
 obtain ⟨na, le, ri, gu⟩ := x
 simp only [GRule.size, szS] at hx
 have hgl := qF0 GGuard.size gu
 have hgm := kB0 GGuard.size gu
 have h1 := ws0 na (by omega)
 have h2 := wW0 le (by omega)
 have h3 := wW0 ri (by omega)
 have h4 := gH0 le (by omega)
 have h5 := wr0 sg le.name hk
 obtain ⟨o, ho⟩ : ∃ o, o = (zN0 sg le.name).getD opD := ⟨_, rfl⟩
 rw [← ho] at h5
 have h6 := xP0 sg hk le (by omega) o.re
 have hcs := vb0 le
 have hvl : (zj0 sg le o.re).1.length < 100000000 := by
  have := vD0 sg le o.re []
  simp only [List.length_nil] at this
  unfold zj0
  split
  ·simp only; omega
  ·simp
 have h7 := qr0 sg hk (zj0 sg le o.re).1 hvl ri (by omega)
 have hv1 := qk0 le
 have hv2 := qk0 ri
 have h8 := vF0 le (by omega)
 have h9 := jK0 ri (by omega) le.vars (by omega)
 have h10 := bz0 sg hk (zj0 sg le o.re).1 hvl le.vars (by omega) gu (by omega) (fun g hg => by have := hgm g hg; omega)
 obtain ⟨r, hr⟩ : ∃ r, r = kh1 sg ⟨na, le, ri, gu⟩ := ⟨_, rfl⟩
 rw [← hr]
 unfold kh1 at hr
 simp only [← ho] at hr
 generalize ry0 na = b1 at h1 hr
 generalize le.valid = b2 at h2 hr
 generalize ri.valid = b3 at h3 hr
 generalize le.bi = b4 at h4 hr
 generalize (zN0 sg le.name).isSome = b5 at h5 hr
 generalize zj0 sg le o.re = iv at h6 hvl h7 h10 hr
 generalize ri.sort sg iv.1 = q at h7 hr
 generalize ri.vars.all (xM0 le.vars) = b6 at h9 hr
 generalize (gu.all (kt0 sg iv.1 le.vars) && decide (gu.length ≤ 2)) = b7 at h10 hr
 generalize le.vars = v1 at h8 h9 h10
 have hse : sg.enc = [.sl (sg.so.map encS), .sl (sg.op.map GOp.enc)] := rfl
 obtain ⟨lk, ln, ls, lt⟩ := le
 obtain ⟨rk, rn, rs, rt⟩ := ri
 obtain ⟨ona, oar, ore⟩ := o
 simp only [Tm.kind, Tm.name] at hr h5 h6
 refine soc zF0 zB0 Tryz.func186 ?_
 simp -implicitDefEqProofs only [go_sem, GRule.enc, Tm.enc, encI, encS, encL, hse, List.cons_append, List.nil_append]
 refine CallK.mk h1 ?_
 refine qp1 ?_
 refine ⟨fun k1 => CallK.mk h2 ?_, fun k1 => by rw [hr, k1]; simp⟩
 refine qp1 ?_
 refine ⟨fun k2 => ⟨fun k4 => CallK.mk h4 ?_, fun k4 => by rw [hr]; simp [k4]⟩, fun k2 => by rw [hr, k2]; simp⟩
 have k4 : lk = 2 := by simpa using k4
 subst k4
 refine qp1 ?_
 refine ⟨fun k5 => CallK.mk h3 ?_, fun k5 => by rw [hr, k5]; simp⟩
 refine qp1 ?_
 refine ⟨fun k3 => by rw [hr, k3]; simp, fun k3 => CallK.mk h5 ?_⟩
 refine mS1 ?_
 refine ⟨fun k6 => by rw [hr, k6]; simp, fun k6 => CallK.mk h6 ?_⟩
 refine qp1 ?_
 refine CallK.mk h8 ?_
 have hr : r = (iv.2 && eqS q ore && b6 && b7) := by rw [hr, k1, k2, k3, k5, k6]; simp
 refine qp1 ?_
 refine ⟨fun k7 => CallK.mk h7 ?_, fun k7 => by rw [hr, k7]; rfl⟩
 refine qp1 ?_
 refine ⟨fun k8 => CallK.mk h9 ?_, fun k8 => ?_⟩
 ·have k8' : eqS q ore = true := by simpa [eqS] using k8
  refine qp1 ?_
  refine ⟨fun k9 => by rw [hr, k9]; simp, fun k9 => CallK.mk h10 ?_⟩
  refine qp1 ?_
  rw [hr, k7, k8', k9]; rfl
 ·have k8' : eqS q ore = false := k8
  rw [hr, k8']; simp
end Go.Ai
