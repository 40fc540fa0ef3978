/- Names in order, names without others. -/
import Derived.Test.YtphclghkljeaeaaGreatAiT0
import Derived.Test.YtphclghkljeaeaaGreatAiU4
set_option linter.unusedVariables false
set_option linter.unusedSimpArgs false
namespace Go.Ai
open Go.Proofs
set_option maxRecDepth 100000
abbrev ltS (a b : ByteArray) : Bool := Op.bytesLess a.toList b.toList
def db0 (x : ByteArray) : List ByteArray → Nat
 | [] => 0
 | y :: ys => if ltS y x then db0 x ys + 1 else 0
def zt0 (out : List ByteArray) (x : ByteArray) : List ByteArray :=
 match out.drop (db0 x out) with
 | y :: _ => if eqS y x then out else out.take (db0 x out) ++ x :: out.drop (db0 x out)
 | [] => out.take (db0 x out) ++ [x]
def qp0 (xs : List ByteArray) : List ByteArray := xs.foldl zt0 []
theorem nd0 (x : ByteArray) : ∀ (ys : List ByteArray), db0 x ys ≤ ys.length
 | [] => Nat.le_refl _
 | y :: ys => by
  have := nd0 x ys
  simp only [db0]
  split <;> simp <;> omega
theorem yH1 (x : ByteArray) (ys : List ByteArray) (i : Nat) (h : i < ys.length) : db0 x (ys.drop i) = if ltS ys[i] x then db0 x (ys.drop (i + 1)) + 1 else 0 := by
 rw [List.drop_eq_getElem_cons h]; simp only [db0]
theorem lY0 (out : List ByteArray) (x : ByteArray) : (zt0 out x).length ≤ out.length + 1 := by
 have hp := nd0 x out
 unfold zt0
 split
 ·split
  ·omega
  ·simp; omega
 ·simp; omega
theorem lZ0 (out : List ByteArray) (x y : ByteArray) : y ∈ zt0 out x ↔ y ∈ out ∨ y = x := by
 have hsplit := List.take_append_drop (db0 x out) out
 have hm : y ∈ out ↔ y ∈ out.take (db0 x out) ∨ y ∈ out.drop (db0 x out) := by rw [← List.mem_append, hsplit]
 unfold zt0
 split
 ·rename_i z zs hd
  split
  ·rename_i hz
   have hz : z = x := (yT0 z x).1 hz
   have : x ∈ out := by rw [← hz]; exact List.mem_of_mem_drop (i := db0 x out) (by rw [hd]; simp)
   constructor
   ·exact fun h => .inl h
   ·rintro (h | rfl)
    ·exact h
    ·exact this
  ·rw [hm]
   simp only [List.mem_append, List.mem_cons]
   constructor
   ·rintro (h | h | h)
    ·exact .inl (.inl h)
    ·exact .inr h
    ·exact .inl (.inr h)
   ·rintro ((h | h) | h)
    ·exact .inl h
    ·exact .inr (.inr h)
    ·exact .inr (.inl h)
 ·rename_i hd
  rw [hm, hd]
  simp
theorem kb0 : ∀ (xs out : List ByteArray) (y : ByteArray), y ∈ xs.foldl zt0 out ↔ y ∈ out ∨ y ∈ xs
 | [], out, y => by simp
 | x :: xs, out, y => by
  simp only [List.foldl_cons, kb0 xs, lZ0, List.mem_cons, or_assoc]
theorem kF0 (xs : List ByteArray) (y : ByteArray) : y ∈ qp0 xs ↔ y ∈ xs := by simp [qp0, kb0]
theorem yt0 : ∀ (xs out : List ByteArray), (xs.foldl zt0 out).length ≤ out.length + xs.length
 | [], out => by simp
 | x :: xs, out => by
  have h1 := lY0 out x
  have h2 := yt0 xs (zt0 out x)
  simp only [List.foldl_cons, List.length_cons]; omega
theorem wt0 (xs : List ByteArray) : (qp0 xs).length ≤ xs.length := by
 have := yt0 xs []
 simpa [qp0] using this
theorem ph0 (xs : List ByteArray) (i : Nat) (h : i < xs.length) : (xs.take (i + 1)).foldl zt0 [] = zt0 ((xs.take i).foldl zt0 []) xs[i] := by
 rw [List.take_add_one, List.getElem?_eq_getElem h, List.foldl_append]; rfl
theorem rc0 (xs : List ByteArray) : (∀ r, r ∈ xs.map encS → r.length = 1) = True := eq_true (by
 intro r hr
 obtain ⟨x, _, rfl⟩ := List.mem_map.1 hr
 rfl)
theorem lT0 (xs : List ByteArray) : (∀ r, r ∈ rowsOf encS xs → r.length = 1) = True := eq_true (vW0 (fun _ => rfl))
theorem rK0 {α : Type} (l : List α) (n : Nat) : (∀ r, r ∈ [l] → r.length = n) = (l.length = n) := by simp
theorem jL0 (xs : List ByteArray) (hl : xs.length < 100000000) : Sat Tryz.prog 249 [slV (xs.map encS)] (slV ((qp0 xs).map encS)) := by
 obtain ⟨r, hr⟩ : ∃ r, r = qp0 xs := ⟨_, rfl⟩
 rw [← hr]
 refine soc zE0 zA0 Tryz.func249 ?_
 refine qI0 ?_
 refine zB0 (ι := Nat) (fun i => mk 64 [(0, slV (xs.map encS)), (3, slV (((xs.take i).foldl zt0 []).map encS)), (4, zH0 i)] []) (fun i => i ≤ xs.length) (fun i => xs.length - i) 0 (Nat.zero_le _) ?_ zE0 zA0 (by decide +kernel) ?_
 ·refine (dY0 (t := 3) (l := 7) (rows' := []) rfl rfl rfl (by decide) rfl).trans ?_
  exact lek
 ·intro i hi
  have hfl := yt0 (xs.take i) []
  simp only [List.length_take, List.length_nil] at hfl
  rcases Nat.lt_or_ge i xs.length with hlt | hge
  ·have hg := zD0 (ec := encS) hlt
   have hst := ph0 xs i hlt
   generalize (xs.take i).foldl zt0 [] = out at hfl hst
   generalize xs[i] = x at hg hst
   simp only [encS] at hg
   have hp := nd0 x out
   refine fD0 ?_
   refine zB0 (ι := Nat) (fun j => mk 64 [(0, slV (xs.map encS)), (3, slV (out.map encS)), (4, zH0 i), (5, zH0 j)] []) (fun j => j + db0 x (out.drop j) = db0 x out ∧ j ≤ out.length) (fun j => out.length - j) 0 ⟨by simp, Nat.zero_le _⟩ ?_ zE0 zA0 (by decide +kernel) ?_
   ·exact lek
   ·rintro j ⟨hj, hjl⟩
    rcases Nat.lt_or_ge j out.length with hlt2 | hge2
    ·have hg2 := zD0 (ec := encS) hlt2
     rw [yH1 x out j hlt2] at hj
     have hd : zt0 out x = if (ltS out[j] x) then zt0 out x else (if eqS out[j] x then out else out.take j ++ x :: out.drop j) := by
      split
      ·rfl
      ·rename_i hn
       rw [if_neg hn, Nat.add_zero] at hj
       unfold zt0
       rw [← hj, List.drop_eq_getElem_cons hlt2]
     generalize out[j] = y at hg2 hj hd
     simp only [encS] at hg2
     simp -implicitDefEqProofs (disch := omega) only [go_sem, hg, hg2, hlt, hlt2, List.length_map, rc0, lT0, rK0, ← List.map_take, ← List.map_drop, List.length_take, List.length_drop]
     refine ⟨fun h1 => ⟨j + 1, ⟨?_, hlt2⟩, by omega, lek⟩, fun h1 => ⟨fun h2 => ⟨i + 1, hlt, by omega, ?_⟩, fun h2 => ?_⟩⟩
     ·rw [if_pos h1] at hj; omega
     ·have h2' : eqS y x = true := by simpa [eqS] using h2
      rw [if_neg (by rw [ltS, h1]; simp), if_pos h2'] at hd
      rw [hst, hd]
      exact lek
     ·have h2' : eqS y x = false := h2
      rw [if_neg (by rw [ltS, h1]; simp), if_neg (by rw [h2']; simp)] at hd
      exact ⟨hjl, fun _ => ⟨⟨by omega, by omega⟩, fun _ => ⟨⟨by omega, by omega⟩, fun _ => ⟨hjl, fun _ => ⟨⟨by omega, by omega⟩, fun _ => ⟨i + 1, hlt, by omega, by
      rw [hst, hd]
      refine (le_mk (L' := [(0, slV (xs.map encS)), (3, .one (.own 46 (rowsOf encS (out.take j ++ x :: out.drop j)).length)), (4, zH0 (i + 1 : Nat))]) (B' := [(46, .arr 9 1 (rowsOf encS (out.take j ++ x :: out.drop j)) false)]) (by simp [go_sem]; omega) (by simp [go_sem]; simp [rowsOf, encS])).trans ?_
      refine (dY0 (t := 3) (l := 46) rfl rfl rfl (by decide) qJ0).trans ?_
      exact lek⟩⟩⟩⟩⟩⟩
    ·have e1 : out.drop j = [] := List.drop_of_length_le hge2
     rw [e1] at hj
     have hd : zt0 out x = out.take j ++ x :: out.drop j := by
      unfold zt0
      have : db0 x out = j := by simp [db0] at hj; omega
      rw [this, e1]
     simp -implicitDefEqProofs (disch := omega) only [go_sem, hg, hlt, Nat.not_lt.2 hge2, List.length_map, rc0, lT0, rK0, ← List.map_take, ← List.map_drop, List.length_take, List.length_drop]
     exact ⟨hjl, fun _ => ⟨⟨by omega, by omega⟩, fun _ => ⟨⟨by omega, by omega⟩, fun _ => ⟨hjl, fun _ => ⟨⟨by omega, by omega⟩, fun _ => ⟨i + 1, hlt, by omega, by
     rw [hst, hd]
     refine (le_mk (L' := [(0, slV (xs.map encS)), (3, .one (.own 46 (rowsOf encS (out.take j ++ x :: out.drop j)).length)), (4, zH0 (i + 1 : Nat))]) (B' := [(46, .arr 9 1 (rowsOf encS (out.take j ++ x :: out.drop j)) false)]) (by simp [go_sem]; omega) (by simp [go_sem]; simp [rowsOf, encS])).trans ?_
     refine (dY0 (t := 3) (l := 46) rfl rfl rfl (by decide) qJ0).trans ?_
     exact lek⟩⟩⟩⟩⟩⟩
  ·have : i = xs.length := by omega
   subst this
   rw [List.take_length] at hfl ⊢
   have : xs.foldl zt0 [] = r := by rw [hr]; rfl
   rw [this]
   simp -implicitDefEqProofs (disch := omega) only [go_sem, Nat.lt_irrefl, List.length_map]
theorem yy0 (t : Tm) (h : t.size < 80000000) : Sat Tryz.prog 203 [tmV t] (slV ((qp0 t.vars).map encS)) := by
 have hv := ql0 t
 have hs := be0 t [] (by simpa using (by omega : t.size < 90000000))
 rw [List.nil_append] at hs
 have hn := jL0 t.vars (by omega)
 generalize t.vars = vs at hv hs hn
 obtain ⟨k, n, s, ts⟩ := t
 refine soc zE0 zA0 Tryz.func203 ?_
 refine fC0 ?_
 refine CallK.acc 1 hs ⟨rfl, rfl, rfl, rfl⟩ rfl ?_
 refine pB1 ?_
 refine CallK.mk hn ?_
 simp -implicitDefEqProofs only [go_sem]
theorem cg0 (s : ByteArray) : ∀ (xs : List ByteArray) (k : Int), 0 ≤ k → (0 ≤ fq0 s xs k ↔ xb0 xs s = true)
 | [], k, _ => by simp [fq0, xb0]
 | x :: xs, k, hk => by
  simp only [fq0, xb0, List.any_cons]
  split
  ·rename_i h; rw [h]; simp [hk]
  ·rename_i h
   have h' : eqS x s = false := by simpa using h
   have := cg0 s xs (k + 1) (by omega)
   rw [h', Bool.false_or]
   exact this
theorem wL1 (s : ByteArray) (xs : List ByteArray) : decide (fq0 s xs 0 ≥ 0) = xb0 xs s := by
 rw [Bool.eq_iff_iff, decide_eq_true_eq]
 exact cg0 s xs 0 (Int.le_refl 0)
theorem kC1 (s : ByteArray) (xs : List ByteArray) : decide (fq0 s xs 0 < 0) = !xb0 xs s := by
 have := cg0 s xs 0 (Int.le_refl 0)
 rw [Bool.eq_iff_iff, decide_eq_true_eq]
 cases h : xb0 xs s <;> simp [h] at this ⊢ <;> omega
theorem fY0 (xs : List ByteArray) (hl : xs.length < 100000000) (s : ByteArray) : Sat Tryz.prog 261 [slV (xs.map encS), qg0 s] (zH0 (fq0 s xs 0)) := by
 refine soc zE0 zA0 Tryz.func261 ?_
 refine qI0 ?_
 refine zB0 (ι := Nat) (fun i => mk 19 [(0, slV (xs.map encS)), (1, qg0 s), (7, zH0 xs.length), (8, zH0 i)] []) (fun i => i ≤ xs.length ∧ fq0 s (xs.drop i) i = fq0 s xs 0) (fun i => xs.length - i) 0 ⟨Nat.zero_le _, by simp⟩ ?_ zE0 zA0 (by decide +kernel) ?_
 ·exact lek
 ·rintro i ⟨hi, he⟩
  rcases Nat.lt_or_ge i xs.length with hlt | hge
  ·have hg := zD0 (ec := encS) hlt
   rw [gb0 s xs i hlt] at he
   generalize xs[i] = x at hg he
   simp only [encS] at hg
   refine fD0 ?_
   refine ⟨fun h => ?_, fun h => ⟨i + 1, ⟨hlt, ?_⟩, by omega, lek⟩⟩
   ·have he' : eqS x s = true := by simp [eqS, h]
    simpa only [he', if_true] using he
   ·have he' : eqS x s = false := by
     simp only [eqS]
     simp only [beq_eq_false_iff_ne, ne_eq] at h ⊢
     exact fun e => h e.symm
    simpa only [he', Bool.false_eq_true, if_false, Int.natCast_add, Int.natCast_one] using he
  ·have e1 : xs.drop i = [] := List.drop_of_length_le hge
   rw [e1] at he
   refine mD0 ?_
   rw [← he]; rfl
theorem yq0 (xs : List ByteArray) (hl : xs.length < 100000000) (s : ByteArray) : Sat Tryz.prog 232 [slV (xs.map encS), qg0 s] (boolV (xb0 xs s)) := by
 have h := fY0 xs hl s
 have h2 := wL1 s xs
 refine soc zE0 zA0 Tryz.func232 ?_
 refine zr0 ?_
 refine CallK.mk h ?_
 simp -implicitDefEqProofs only [go_sem, h2]
theorem lx0 (xs ys : List ByteArray) (i : Nat) (h : i < xs.length) : pK0 (xs.take (i + 1)) ys = pK0 (xs.take i) ys ++ (if xb0 ys xs[i] then [] else [xs[i]]) := by
 rw [List.take_add_one, List.getElem?_eq_getElem h]
 simp only [pK0, List.filter_append, Option.toList_some]
 congr 1
 simp only [List.filter_cons, List.filter_nil]
 cases xb0 ys xs[i] <;> simp
theorem dZ0 (xs ys : List ByteArray) : (pK0 xs ys).length ≤ xs.length := List.length_filter_le _ _
theorem fh0 (xs ys : List ByteArray) (hl : xs.length < 100000000) (hl2 : ys.length < 100000000) : Sat Tryz.prog 202 [slV (xs.map encS), slV (ys.map encS)] (slV ((pK0 xs ys).map encS)) := by
 obtain ⟨r, hr⟩ : ∃ r, r = pK0 xs ys := ⟨_, rfl⟩
 rw [← hr]
 refine soc zE0 zA0 Tryz.func202 ?_
 refine qI0 ?_
 refine zB0 (ι := Nat) (fun i => mk 29 [(0, slV (xs.map encS)), (1, slV (ys.map encS)), (5, .one (.own 7 (pK0 (xs.take i) ys).length)), (6, zH0 i)] [(7, .arr 9 1 (rowsOf encS (pK0 (xs.take i) ys)) false)]) (fun i => i ≤ xs.length) (fun i => xs.length - i) 0 (Nat.zero_le _) ?_ zE0 zA0 (by decide +kernel) ?_
 ·exact le_mk (by simp [go_sem, pK0]) (by simp [go_sem, pK0, rowsOf])
 ·intro i hi
  have hwl := dZ0 (xs.take i) ys
  simp only [List.length_take] at hwl
  rcases Nat.lt_or_ge i xs.length with hlt | hge
  ·have hg := zD0 (ec := encS) hlt
   have hw := lx0 xs ys i hlt
   have hix := yd0 ys hl2 xs[i]
   have hib := kC1 xs[i] ys
   generalize pK0 (xs.take i) ys = out at hwl hw
   generalize xs[i] = x at hg hw hix hib
   simp only [encS] at hg
   refine fD0 ?_
   refine CallK.mk hix ?_
   simp -implicitDefEqProofs (disch := omega) only [go_sem, hg, hlt, List.length_map, hib]
   refine ⟨fun h => ?_, fun h => ⟨i + 1, hlt, by omega, ?_⟩⟩
   ·refine ⟨⟨by simp, by omega, by omega⟩, fun _ => ⟨i + 1, hlt, by omega, ?_⟩⟩
    rw [hw, h, if_neg (by simp)]
    exact t9'
   ·rw [hw, if_pos (by simpa using h), List.append_nil]
    exact lek
  ·have : i = xs.length := by omega
   subst this
   rw [List.take_length, ← hr]
   simp -implicitDefEqProofs (disch := omega) only [go_sem, Nat.lt_irrefl, List.length_map]
theorem pp0 (xs ys : List ByteArray) (hl : xs.length < 100000000) (hl2 : ys.length < 100000000) : Sat Tryz.prog 263 [slV (xs.map encS), slV (ys.map encS)] (slV ((pK0 xs ys).map encS)) := by
 obtain ⟨r, hr⟩ : ∃ r, r = pK0 xs ys := ⟨_, rfl⟩
 rw [← hr]
 refine soc zE0 zA0 Tryz.func263 ?_
 refine qI0 ?_
 refine zB0 (ι := Nat) (fun i => mk 24 [(1, slV (ys.map encS)), (5, .one (.own 9000 (pK0 (xs.take i) ys).length)), (8, slV (xs.map encS)), (9, zH0 xs.length), (10, zH0 i)] [(9000, .arr 9 1 (rowsOf encS (pK0 (xs.take i) ys)) false)]) (fun i => i ≤ xs.length) (fun i => xs.length - i) 0 (Nat.zero_le _) ?_ zE0 zA0 (by decide +kernel) ?_
 ·refine (sU0 (t := 5) 9000 9 1 rfl (by decide) rfl (by decide)).trans ?_
  exact le_mk (by simp [go_sem, pK0]) (by simp [go_sem, pK0, rowsOf])
 ·intro i hi
  have hwl := dZ0 (xs.take i) ys
  simp only [List.length_take] at hwl
  rcases Nat.lt_or_ge i xs.length with hlt | hge
  ·have hg := zD0 (ec := encS) hlt
   have hw := lx0 xs ys i hlt
   have hix := yq0 ys hl2 xs[i]
   generalize pK0 (xs.take i) ys = out at hwl hw
   generalize xs[i] = x at hg hw hix
   simp only [encS] at hg
   refine fD0 ?_
   refine CallK.mk hix ?_
   refine fD0 ?_
   refine ⟨fun h => ?_, fun h => ⟨i + 1, hlt, by omega, ?_⟩⟩
   ·refine ⟨⟨by simp, by omega, by omega⟩, fun _ => ⟨i + 1, hlt, by omega, ?_⟩⟩
    rw [hw, h, if_neg (by simp)]
    exact t9'
   ·rw [hw, if_pos (by simpa using h), List.append_nil]
    exact lek
  ·have : i = xs.length := by omega
   subst this
   rw [List.take_length, ← hr]
   simp -implicitDefEqProofs (disch := omega) only [go_sem, Nat.lt_irrefl, List.length_map]
theorem sV0 (xs ys : List ByteArray) : ((pK0 xs ys).length == 0) = xs.all (xb0 ys) := by
 rw [Bool.eq_iff_iff]
 simp [pK0, List.filter_eq_nil_iff]
theorem yw0 (t : Tm) (h : t.size < 80000000) (ys : List ByteArray) (hl : ys.length < 100000000) : Sat Tryz.prog 236 [tmV t, slV (ys.map encS)] (boolV (t.vars.all (xb0 ys))) := by
 have hv := ql0 t
 have hs := kr0 t h
 have hw := pp0 t.vars ys (by omega) hl
 have hn := sV0 t.vars ys
 generalize t.vars = vs at hv hs hw hn
 obtain ⟨k, n, s, ts⟩ := t
 have hz : ((((pK0 vs ys).length : Nat) : Int) == 0) = ((pK0 vs ys).length == 0) := by rw [Bool.eq_iff_iff]; simp
 refine soc zE0 zA0 Tryz.func236 ?_
 refine fC0 ?_
 refine c8' hs ?_
 refine CallK.mk hw ?_
 simp -implicitDefEqProofs only [go_sem, List.length_map, hz, hn]
theorem cO0 (ts : List Tm) (i : Nat) (h : i < ts.length) : Tm.bis (ts.drop i) = (ts[i].bi || Tm.bis (ts.drop (i + 1))) := by
 rw [List.drop_eq_getElem_cons h]; simp only [Tm.bis]
theorem dL0 (k n : Int) (s : ByteArray) (ts : List Tm) (hl : s.size + Tm.sizes ts < 80000000) (ih : ∀ t, t ∈ ts → Sat Tryz.prog 200 [tmV t] (boolV t.bi)) : Sat Tryz.prog 200 [tmV (.mk k n s ts)] (boolV (Tm.mk k n s ts).bi) := by
 have hts := zI0 ts
 have hb := ze0 s
 obtain ⟨r, hr⟩ : ∃ r, r = (Tm.mk k n s ts).bi := ⟨_, rfl⟩
 rw [← hr]
 simp only [Tm.bi] at hr
 generalize pr0 s = b at hb hr
 refine soc zE0 zA0 Tryz.func200 ?_
 refine jj0 ?_
 refine zB0 (ι := Nat) (fun i => mk 25 [(1, .one (.ptr 1 0)), (3, zH0 i)] [(1, .var [iC k, iC n, sC s, tC ts])])
  (fun i => i ≤ ts.length ∧ Tm.bis (ts.drop i) = Tm.bis ts) (fun i => ts.length - i) 0 ⟨Nat.zero_le _, by simp⟩ ?_ zE0 zA0 (by decide +kernel) ?_
 ·exact lek
 ·rintro i ⟨hi, he⟩
  rcases Nat.lt_or_ge i ts.length with hlt | hge
  ·have hg := zG0 ts i hlt
   rw [cO0 ts i hlt] at he
   refine xE0 ?_
   refine c0' (ih _ (List.getElem_mem hlt)) ?_
   exact t5'
  ·have : i = ts.length := by omega
   subst this
   rw [List.drop_length] at he
   have he : false = Tm.bis ts := he
   rw [← he, Bool.or_false] at hr
   refine xL1 ?_
   refine ⟨fun h => CallK.mk hb ?_, fun h => by rw [hr, h]; rfl⟩
   refine qI0 ?_
   rw [hr, h]; rfl
theorem zj1 : ∀ (t : Tm), t.size < 80000000 → Sat Tryz.prog 200 [tmV t] (boolV t.bi) := by
 refine Tm.ind (fun k n s ts ih h => dL0 k n s ts (by simp only [Tm.size] at h; omega) (fun t ht => ih t ht ?_))
 have := zQ0 ts t ht; simp only [Tm.size] at h; omega
theorem my0 (k n : Int) (s : ByteArray) (ts : List Tm) (hl : s.size + Tm.sizes ts < 80000000) (ih : ∀ t, t ∈ ts → Sat Tryz.prog 233 [tmV t] (boolV (!t.bi))) : Sat Tryz.prog 233 [tmV (.mk k n s ts)] (boolV (!(Tm.mk k n s ts).bi)) := by
 have hts := zI0 ts
 have hb := zW0 s
 obtain ⟨r, hr⟩ : ∃ r, r = !(Tm.mk k n s ts).bi := ⟨_, rfl⟩
 rw [← hr]
 simp only [Tm.bi] at hr
 generalize pr0 s = b at hb hr
 refine soc zE0 zA0 Tryz.func233 ?_
 refine jj0 ?_
 have loop : (k == 2 && b) = false → r = !Tm.bis ts := fun h => by rw [hr, h]; rfl
 refine ⟨fun h1 => CallK.mk hb ?_, fun h1 => ?_⟩
 ·refine qI0 ?_
  refine ⟨fun h2 => by rw [hr, h1, h2]; rfl, fun h2 => ?_⟩
  have hr := loop (by rw [h2]; simp)
  refine zB0 (ι := Nat) (fun i => mk 24 [(14, xU0 ts), (15, zH0 ts.length), (16, zH0 i)] [])
   (fun i => i ≤ ts.length ∧ Tm.bis (ts.drop i) = Tm.bis ts) (fun i => ts.length - i) 0 ⟨Nat.zero_le _, by simp⟩ ?_ zE0 zA0 (by decide +kernel) ?_
  ·exact lek
  ·rintro i ⟨hi, he⟩
   rcases Nat.lt_or_ge i ts.length with hlt | hge
   ·have hg := zG0 ts i hlt
    rw [cO0 ts i hlt] at he
    refine xE0 ?_
    refine c0' (ih _ (List.getElem_mem hlt)) ?_
    exact t5'
   ·have : i = ts.length := by omega
    subst this
    rw [List.drop_length] at he
    refine xL1 ?_
    rw [hr, ← he]; rfl
 ·have hr := loop (by rw [h1]; rfl)
  refine zB0 (ι := Nat) (fun i => mk 24 [(14, xU0 ts), (15, zH0 ts.length), (16, zH0 i)] [])
   (fun i => i ≤ ts.length ∧ Tm.bis (ts.drop i) = Tm.bis ts) (fun i => ts.length - i) 0 ⟨Nat.zero_le _, by simp⟩ ?_ zE0 zA0 (by decide +kernel) ?_
  ·exact lek
  ·rintro i ⟨hi, he⟩
   rcases Nat.lt_or_ge i ts.length with hlt | hge
   ·have hg := zG0 ts i hlt
    rw [cO0 ts i hlt] at he
    refine xE0 ?_
    refine c0' (ih _ (List.getElem_mem hlt)) ?_
    exact t5'
   ·have : i = ts.length := by omega
    subst this
    rw [List.drop_length] at he
    refine xL1 ?_
    rw [hr, ← he]; rfl
theorem ck0 : ∀ (t : Tm), t.size < 80000000 → Sat Tryz.prog 233 [tmV t] (boolV (!t.bi)) := by
 refine Tm.ind (fun k n s ts ih h => my0 k n s ts (by simp only [Tm.size] at h; omega) (fun t ht => ih t ht ?_))
 have := zQ0 ts t ht; simp only [Tm.size] at h; omega
def yg1 (k : Int) : ByteArray := if k = 1 then ⟨#[32, 61, 61, 32]⟩ else if k = 2 then ⟨#[32, 33, 61, 32]⟩ else if k = 3 then ⟨#[32, 60, 32]⟩ else sE
theorem yh1 (k : Int) : eqS (yg1 k) sE = !xa0 k := by
 unfold yg1 xa0
 split
 ·subst_vars; rw [(eqS_ne _ _).2 (by decide)]; rfl
 ·split
  ·subst_vars; rw [(eqS_ne _ _).2 (by decide)]; rfl
  ·split
   ·subst_vars; rw [(eqS_ne _ _).2 (by decide)]; rfl
   ·rw [vR0]
    have : ¬ (1 ≤ k ∧ k ≤ 3) := by omega
    symm
    simp only [Bool.not_eq_true', Bool.and_eq_false_iff, decide_eq_false_iff_not]
    omega
theorem lh0 (k : Int) : Sat Tryz.prog 250 [zH0 k] (qg0 (yg1 k)) := by
 by_cases hk : 1 ≤ k ∧ k ≤ 3
 ·have h3 : k = 1 ∨ k = 2 ∨ k = 3 := by omega
  rcases h3 with rfl | rfl | rfl
  all_goals
   refine soc zE0 zA0 Tryz.func250 ?_
   refine zr0 ?_
   refine CallK.mk (yD0 _ 1 3) ?_
   refine rv1 ?_
   rfl
 ·have hb := yD0 k 1 3
  have hf : (decide (1 ≤ k) && decide (k ≤ 3)) = false := by
   simp only [Bool.and_eq_false_iff, decide_eq_false_iff_not]; omega
  rw [hf] at hb
  refine soc zE0 zA0 Tryz.func250 ?_
  refine zr0 ?_
  refine c8' hb ?_
  unfold yg1
  rw [if_neg (by omega), if_neg (by omega), if_neg (by omega)]
theorem vu0 (k : Int) : Sat Tryz.prog 264 [zH0 k] (boolV (xa0 k)) := by
 refine soc zE0 zA0 Tryz.func264 ?_
 refine zr0 ?_
 unfold xa0
 grind
theorem dO0 (sg : GSignature) (hk : cw0 sg) (vs : List GVarSort) (hv : vs.length < 100000000) (g : GGuard) (hg : g.size < 40000000) : Sat Tryz.prog 204 [zn0 sg.enc, zn0 g.enc, slV (vs.map GVarSort.enc)] (boolV (wz0 sg vs g)) := by
 obtain ⟨kd, le, ri⟩ := g
 simp only [GGuard.size] at hg
 have h1 := qP0 le (by omega)
 have h2 := qP0 ri (by omega)
 have h3 := lh0 kd
 have h3e := yh1 kd
 have h4 := qx0 sg hk vs hv le (by omega)
 have h5 := qx0 sg hk vs hv ri (by omega)
 obtain ⟨r, hr⟩ : ∃ r, r = wz0 sg vs ⟨kd, le, ri⟩ := ⟨_, rfl⟩
 rw [← hr]
 unfold wz0 at hr
 simp only at hr
 generalize yg1 kd = sn at h3 h3e
 generalize xa0 kd = b3 at h3e hr
 generalize le.valid = b1 at h1 hr
 generalize ri.valid = b2 at h2 hr
 generalize le.sort sg vs = q1 at h4 hr
 generalize ri.sort sg vs = q2 at h5 hr
 have hse : sg.enc = [.sl (sg.so.map encS), .sl (sg.op.map GOp.enc)] := rfl
 obtain ⟨lk, ln, ls, lt⟩ := le
 obtain ⟨rk, rn, rs, rt⟩ := ri
 refine soc zE0 zA0 Tryz.func204 ?_
 simp -implicitDefEqProofs only [go_sem, GGuard.enc, Tm.enc, encI, hse, List.cons_append, List.nil_append]
 refine CallK.mk h1 ?_
 simp -implicitDefEqProofs only [go_sem, List.cons_append, List.nil_append]
 refine ⟨fun k1 => CallK.mk h2 ?_, fun k1 => by rw [hr, k1]; simp⟩
 refine zr0 ?_
 refine ⟨fun k2 => CallK.mk h3 ?_, fun k2 => by rw [hr, k2]; simp⟩
 refine zr0 ?_
 refine ⟨fun k3 => ?_, fun k3 => CallK.mk h4 ?_⟩
 ·have k3 : eqS sn sE = true := by simpa [eqS] using k3
  rw [h3e] at k3
  simp at k3
  rw [hr, k3]; simp
 ·have k3 : eqS sn sE = false := k3
  rw [h3e] at k3
  simp at k3
  simp only [eqS, k1, k2, k3, Bool.true_and] at hr
  refine zr0 ?_
  refine ⟨fun k4 => CallK.mk h5 ?_, fun k4 => by rw [hr, k4]; simp⟩
  refine zr0 ?_
  grind
def kc0 (sg : GSignature) (vs : List GVarSort) (names : List ByteArray) (g : GGuard) : Bool :=
 xa0 g.kd && g.le.valid && g.ri.valid && g.le.vars.all (xb0 names) && g.ri.vars.all (xb0 names) && !eqS (g.le.sort sg vs) sE && eqS (g.le.sort sg vs) (g.ri.sort sg vs) && !(g.kd == 3 && !eqS (g.le.sort sg vs) vY0)
theorem wS0 {α : Type} (p : α → Bool) (xs : List α) (i : Nat) (h : i < xs.length) : (xs.drop i).all p = (p xs[i] && (xs.drop (i + 1)).all p) := by
 rw [List.drop_eq_getElem_cons h, List.all_cons]
theorem fz0 (sg : GSignature) (hk : cw0 sg) (vs : List GVarSort) (hv : vs.length < 100000000) (names : List ByteArray) (hn : names.length < 100000000) (gs : List GGuard) (hl : gs.length < 100000000) (hg : ∀ g, g ∈ gs → g.size < 40000000) : Sat Tryz.prog 237 [zn0 sg.enc, slV (gs.map GGuard.enc), slV (vs.map GVarSort.enc), slV (names.map encS)] (boolV (gs.all (kc0 sg vs names) && decide (gs.length ≤ 2))) := by
 obtain ⟨r, hr⟩ : ∃ r, r = gs.all (kc0 sg vs names) := ⟨_, rfl⟩
 rw [← hr]
 have hse : sg.enc = [.sl (sg.so.map encS), .sl (sg.op.map GOp.enc)] := rfl
 refine soc zE0 zA0 Tryz.func237 ?_
 simp -implicitDefEqProofs (disch := omega) only [go_sem, hse]
 refine zB0 (ι := Nat) (fun i => mk 79 [(1, slV (gs.map GGuard.enc)), (2, slV (vs.map GVarSort.enc)), (3, slV (names.map encS)), (4, .one (.ptr 4 0)), (13, slV (gs.map GGuard.enc)), (14, zH0 gs.length), (15, zH0 i)] [(4, .var [.c (.sl (sg.so.map encS)), .c (.sl (sg.op.map GOp.enc))])]) (fun i => i ≤ gs.length ∧ (gs.drop i).all (kc0 sg vs names) = r) (fun i => gs.length - i) 0 ⟨Nat.zero_le _, by simp [hr]⟩ ?_ zE0 zA0 (by decide +kernel) ?_
 ·exact lek
 ·rintro i ⟨hi, he⟩
  rcases Nat.lt_or_ge i gs.length with hlt | hge
  ·have hgd := zD0 (ec := GGuard.enc) hlt
   have hgs := hg _ (List.getElem_mem hlt)
   rw [wS0 _ gs i hlt] at he
   generalize gs[i] = g at hgd hgs he
   obtain ⟨kd, le, ri⟩ := g
   simp only [GGuard.size] at hgs
   have h1 := qj0 le (by omega)
   have h2 := qj0 ri (by omega)
   have h3 := vu0 kd
   have h4 := qu0 sg hk vs hv le (by omega)
   have h5 := qu0 sg hk vs hv ri (by omega)
   have h6 := yw0 le (by omega) names hn
   have h7 := yw0 ri (by omega) names hn
   obtain ⟨rest, hre⟩ : ∃ rest, rest = (gs.drop (i + 1)).all (kc0 sg vs names) := ⟨_, rfl⟩
   rw [← hre] at he
   unfold kc0 at he
   simp only at he
   generalize xa0 kd = b3 at h3 he
   generalize le.valid = b1 at h1 he
   generalize ri.valid = b2 at h2 he
   generalize le.sort sg vs = q1 at h4 he
   generalize ri.sort sg vs = q2 at h5 he
   generalize le.vars.all (xb0 names) = b4 at h6 he
   generalize ri.vars.all (xb0 names) = b5 at h7 he
   obtain ⟨lk, ln, ls, lt⟩ := le
   obtain ⟨rk, rn, rs, rt⟩ := ri
   simp only [GGuard.enc, Tm.enc, encI, List.cons_append, List.nil_append] at hgd
   refine lA0 ?_
   refine pU1 h3 ?_
   refine ⟨fun k3 => CallK.mk h1 ?_, fun k3 => by rw [← he, k3]; simp⟩
   refine lA0 ?_
   refine ⟨fun k1 => CallK.mk h2 ?_, fun k1 => by rw [← he, k1]; simp⟩
   refine lA0 ?_
   refine ⟨fun k2 => CallK.mk h6 ?_, fun k2 => by rw [← he, k2]; simp⟩
   refine lA0 ?_
   refine ⟨fun k4 => CallK.mk h7 ?_, fun k4 => by rw [← he, k4]; simp⟩
   refine lA0 ?_
   refine ⟨fun k5 => by rw [← he, k5]; simp, fun k5 => CallK.mk h4 ?_⟩
   refine lA0 ?_
   refine pU1 h5 ?_
   rw [k1, k2, k3, k4, k5] at he
   simp only [Bool.true_and, eqS, sE, vY0] at he
   refine ⟨fun k6 => ⟨fun k7 => ⟨fun k8 => ⟨fun k9 => ?_, fun k9 => ⟨i + 1, ⟨hlt, ?_⟩, by omega, lek⟩⟩, fun k8 => ⟨i + 1, ⟨hlt, ?_⟩, by omega, lek⟩⟩, fun k7 => ?_⟩, fun k6 => ?_⟩
   all_goals grind
  ·have : i = gs.length := by omega
   subst this
   rw [List.drop_length] at he
   have he : true = r := he
   rw [← he]
   simp -implicitDefEqProofs (disch := omega) only [go_sem, Nat.lt_irrefl, List.length_map, Bool.true_and]
   rw [Bool.eq_iff_iff]; simp
   omega
theorem cf0 (xs : List ByteArray) (s : ByteArray) : xb0 xs s = true ↔ s ∈ xs := by
 simp only [xb0, List.any_eq_true]
 exact ⟨fun ⟨x, h1, h2⟩ => (yT0 x s).1 h2 ▸ h1, fun h => ⟨s, h, (yT0 s s).2 rfl⟩⟩
theorem jE1 (xs ys : List ByteArray) : ((pK0 (qp0 xs) (qp0 ys)).length == 0) = xs.all (xb0 ys) := by
 rw [sV0, Bool.eq_iff_iff, List.all_eq_true, List.all_eq_true]
 simp only [cf0, kF0]
theorem xr0 (sg : GSignature) (hk : cw0 sg) (x : GRule) (hx : x.size < 30000000) : Sat Tryz.prog 128 [zn0 sg.enc, zn0 x.enc] (boolV (yb0 sg x)) := by
 obtain ⟨na, le, ri, gu⟩ := x
 simp only [GRule.size, szS] at hx
 have hgl := zz0 GGuard.size gu
 have hgm := yz0 GGuard.size gu
 have h1 := wl0 na (by omega)
 have h2 := qP0 le (by omega)
 have h3 := qP0 ri (by omega)
 have h4 := zj1 le (by omega)
 have h5 := wk0 sg le.name hk
 obtain ⟨o, ho⟩ : ∃ o, o = (zK0 sg le.name).getD opD := ⟨_, rfl⟩
 rw [← ho] at h5
 have h6 := xN0 sg hk le (by omega) o.re
 have hcs := vL0 le
 have hvl : (zh0 sg le o.re).1.length < 100000000 := by
  have := kp0 sg le o.re []
  simp only [List.length_nil] at this
  unfold zh0
  split
  ·simp only; omega
  ·simp
 have h7 := qx0 sg hk (zh0 sg le o.re).1 hvl ri (by omega)
 have h8 := yy0 le (by omega)
 have h9 := yy0 ri (by omega)
 have hv1 := ql0 le
 have hv2 := ql0 ri
 have hs1 := wt0 le.vars
 have hs2 := wt0 ri.vars
 have h10 := fh0 (qp0 ri.vars) (qp0 le.vars) (by omega) (by omega)
 have hw := jE1 ri.vars le.vars
 have h11 := fun g hg => dO0 sg hk (zh0 sg le o.re).1 hvl g (by have := hgm g hg; omega)
 obtain ⟨r, hr⟩ : ∃ r, r = yb0 sg ⟨na, le, ri, gu⟩ := ⟨_, rfl⟩
 rw [← hr]
 unfold yb0 at hr
 simp only [← ho] at hr
 have hlk : le.kind = le.kind := rfl
 generalize nJ0 na = b1 at h1 hr
 generalize le.valid = b2 at h2 hr
 generalize ri.valid = b3 at h3 hr
 generalize le.bi = b4 at h4 hr
 generalize zh0 sg le o.re = iv at h6 hvl h7 h11 hr
 generalize ri.sort sg iv.1 = q at h7 hr
 rw [← hw] at hr
 have hwl : (pK0 (qp0 ri.vars) (qp0 le.vars)).length < 100000000 := by have := dZ0 (qp0 ri.vars) (qp0 le.vars); omega
 generalize pK0 (qp0 ri.vars) (qp0 le.vars) = ws at h10 hr hwl
 generalize qp0 le.vars = v1 at h8 h10
 generalize qp0 ri.vars = v2 at h9 h10
 have hse : sg.enc = [.sl (sg.so.map encS), .sl (sg.op.map GOp.enc)] := rfl
 obtain ⟨lk, ln, ls, lt⟩ := le
 obtain ⟨rk, rn, rs, rt⟩ := ri
 obtain ⟨ona, oar, ore⟩ := o
 simp only [Tm.kind, Tm.name] at hr h5 h6
 refine soc zE0 zA0 Tryz.func128 ?_
 simp -implicitDefEqProofs (disch := omega) only [go_sem, GRule.enc, Tm.enc, encI, encS, encL, hse, List.cons_append, List.nil_append]
 refine jm1 h1 ?_
 refine ⟨fun k1 => CallK.mk h2 ?_, fun k1 => by rw [hr, k1]; simp⟩
 refine da0 ?_
 refine ⟨fun k2 => CallK.mk h3 ?_, fun k2 => by rw [hr, k2]; simp⟩
 refine da0 ?_
 refine ⟨fun k3 => ⟨fun k4 => CallK.mk h4 ?_, fun k4 => by rw [hr]; simp [k4]⟩, fun k3 => by rw [hr, k3]; simp⟩
 have k4 : lk = 2 := by simpa using k4
 subst k4
 refine da0 ?_
 refine ⟨fun k5 => ⟨fun k6 => by rw [hr, (by simp; omega : decide (gu.length ≤ 2) = false)]; simp, fun k6 => ?_⟩, fun k5 => by rw [hr, k5]; simp⟩
 have hr : r = (iv.2 && eqS q ore && (ws.length == 0) && gu.all (wz0 sg iv.1)) := by
  rw [hr, k1, k2, k3, k5, (by simp; omega : decide (gu.length ≤ 2) = true)]; simp
 refine CallK.mk h5 ?_
 refine xz1 ?_
 refine jm1 h6 ?_
 refine ⟨fun k7 => CallK.mk h7 ?_, fun k7 => by rw [hr, k7]; rfl⟩
 refine da0 ?_
 refine ⟨fun k8 => CallK.mk h9 ?_, fun k8 => ?_⟩
 ·refine da0 ?_
  refine jm1 h8 ?_
  refine jm1 h10 ?_
  have k8' : eqS q ore = true := by simpa [eqS] using k8
  refine ⟨fun k9 => by rw [hr, (by rw [beq_eq_false_iff_ne]; omega : (ws.length == 0) = false)]; simp, fun k9 => ?_⟩
  have hr : r = gu.all (wz0 sg iv.1) := by rw [hr, k7, k8', (by rw [beq_iff_eq]; omega : (ws.length == 0) = true)]; simp
  refine zB0 (ι := Nat) (fun i => mk 99 [(2, .one (.ptr 2 0)), (3, .one (.ptr 3 0)), (7, slV (iv.1.map GVarSort.enc)), (9, zH0 i)] [(2, .var [.c (.sl (sg.so.map encS)), .c (.sl (sg.op.map GOp.enc))]), (3, .var [sC na, iC 2, iC ln, sC ls, tC lt, iC rk, iC rn, sC rs, tC rt, .c (.sl (gu.map GGuard.enc))])]) (fun i => i ≤ gu.length ∧ (gu.drop i).all (wz0 sg iv.1) = r) (fun i => gu.length - i) 0 ⟨Nat.zero_le _, by simp [hr]⟩ ?_ zE0 zA0 (by decide +kernel) ?_
  ·exact lek
  ·rintro i ⟨hi, he⟩
   rcases Nat.lt_or_ge i gu.length with hlt | hge
   ·have hgd := zD0 (ec := GGuard.enc) hlt
    have hgs := h11 _ (List.getElem_mem hlt)
    rw [wS0 _ gu i hlt] at he
    obtain ⟨rest, hre⟩ : ∃ rest, rest = (gu.drop (i + 1)).all (wz0 sg iv.1) := ⟨_, rfl⟩
    rw [← hre] at he
    generalize wz0 sg iv.1 gu[i] = b at hgs he
    generalize gu[i] = g at hgd hgs
    obtain ⟨kd, ⟨gk, gn, gs, gt⟩, ⟨hk2, hn2, hs2, ht2⟩⟩ := g
    simp only [GGuard.enc, Tm.enc, encI, List.cons_append, List.nil_append] at hgd
    refine lA0 ?_
    refine pU1 hgs ?_
    exact ⟨fun k => by rw [← he, k]; rfl, fun k => ⟨i + 1, ⟨hlt, by rw [← he, k, ← hre]; rfl⟩, by omega, lek⟩⟩
   ·have : i = gu.length := by omega
    subst this
    rw [List.drop_length] at he
    have he : true = r := he
    refine jN1 ?_
    exact he
 ·have k8' : eqS q ore = false := k8
  rw [hr, k8']; simp
def ya1 (sg : GSignature) (r : GRule) : Bool :=
 nJ0 r.na && r.le.valid && (r.le.kind == 2) && !r.le.bi && r.ri.valid && (zK0 sg r.le.name).isSome &&
 (zh0 sg r.le ((zK0 sg r.le.name).getD opD).re).2 && eqS (r.ri.sort sg (zh0 sg r.le ((zK0 sg r.le.name).getD opD).re).1) ((zK0 sg r.le.name).getD opD).re &&
 r.ri.vars.all (xb0 r.le.vars) && (r.gu.all (kc0 sg (zh0 sg r.le ((zK0 sg r.le.name).getD opD).re).1 r.le.vars) && decide (r.gu.length ≤ 2))
theorem gf0 (sg : GSignature) (hk : cw0 sg) (x : GRule) (hx : x.size < 30000000) : Sat Tryz.prog 186 [zn0 sg.enc, zn0 x.enc] (boolV (ya1 sg x)) := by
 obtain ⟨na, le, ri, gu⟩ := x
 simp only [GRule.size, szS] at hx
 have hgl := zz0 GGuard.size gu
 have hgm := yz0 GGuard.size gu
 have h1 := wj0 na (by omega)
 have h2 := qj0 le (by omega)
 have h3 := qj0 ri (by omega)
 have h4 := ck0 le (by omega)
 have h5 := wi0 sg le.name hk
 obtain ⟨o, ho⟩ : ∃ o, o = (zK0 sg le.name).getD opD := ⟨_, rfl⟩
 rw [← ho] at h5
 have h6 := vv0 sg hk le (by omega) o.re
 have hcs := vL0 le
 have hvl : (zh0 sg le o.re).1.length < 100000000 := by
  have := kp0 sg le o.re []
  simp only [List.length_nil] at this
  unfold zh0
  split
  ·simp only; omega
  ·simp
 have h7 := qu0 sg hk (zh0 sg le o.re).1 hvl ri (by omega)
 have hv1 := ql0 le
 have hv2 := ql0 ri
 have h8 := kr0 le (by omega)
 have h9 := yw0 ri (by omega) le.vars (by omega)
 have h10 := fz0 sg hk (zh0 sg le o.re).1 hvl le.vars (by omega) gu (by omega) (fun g hg => by have := hgm g hg; omega)
 obtain ⟨r, hr⟩ : ∃ r, r = ya1 sg ⟨na, le, ri, gu⟩ := ⟨_, rfl⟩
 rw [← hr]
 unfold ya1 at hr
 simp only [← ho] at hr
 generalize nJ0 na = b1 at h1 hr
 generalize le.valid = b2 at h2 hr
 generalize ri.valid = b3 at h3 hr
 generalize le.bi = b4 at h4 hr
 generalize (zK0 sg le.name).isSome = b5 at h5 hr
 generalize zh0 sg le o.re = iv at h6 hvl h7 h10 hr
 generalize ri.sort sg iv.1 = q at h7 hr
 generalize ri.vars.all (xb0 le.vars) = b6 at h9 hr
 generalize (gu.all (kc0 sg iv.1 le.vars) && decide (gu.length ≤ 2)) = b7 at h10 hr
 generalize le.vars = v1 at h8 h9 h10
 have hse : sg.enc = [.sl (sg.so.map encS), .sl (sg.op.map GOp.enc)] := rfl
 obtain ⟨lk, ln, ls, lt⟩ := le
 obtain ⟨rk, rn, rs, rt⟩ := ri
 obtain ⟨ona, oar, ore⟩ := o
 simp only [Tm.kind, Tm.name] at hr h5 h6
 refine soc zE0 zA0 Tryz.func186 ?_
 simp -implicitDefEqProofs only [go_sem, GRule.enc, Tm.enc, encI, encS, encL, hse, List.cons_append, List.nil_append]
 refine CallK.mk h1 ?_
 refine jK1 ?_
 refine ⟨fun k1 => CallK.mk h2 ?_, fun k1 => by rw [hr, k1]; simp⟩
 refine jK1 ?_
 refine ⟨fun k2 => ⟨fun k4 => CallK.mk h4 ?_, fun k4 => by rw [hr]; simp [k4]⟩, fun k2 => by rw [hr, k2]; simp⟩
 have k4 : lk = 2 := by simpa using k4
 subst k4
 refine jK1 ?_
 refine ⟨fun k5 => CallK.mk h3 ?_, fun k5 => by rw [hr, k5]; simp⟩
 refine jK1 ?_
 refine ⟨fun k3 => by rw [hr, k3]; simp, fun k3 => CallK.mk h5 ?_⟩
 refine dy1 ?_
 refine ⟨fun k6 => by rw [hr, k6]; simp, fun k6 => CallK.mk h6 ?_⟩
 refine jK1 ?_
 refine CallK.mk h8 ?_
 have hr : r = (iv.2 && eqS q ore && b6 && b7) := by rw [hr, k1, k2, k3, k5, k6]; simp
 refine jK1 ?_
 refine ⟨fun k7 => CallK.mk h7 ?_, fun k7 => by rw [hr, k7]; rfl⟩
 refine jK1 ?_
 refine ⟨fun k8 => CallK.mk h9 ?_, fun k8 => ?_⟩
 ·have k8' : eqS q ore = true := by simpa [eqS] using k8
  refine jK1 ?_
  refine ⟨fun k9 => by rw [hr, k9]; simp, fun k9 => CallK.mk h10 ?_⟩
  refine jK1 ?_
  rw [hr, k7, k8', k9]; rfl
 ·have k8' : eqS q ore = false := k8
  rw [hr, k8']; simp
end Go.Ai
