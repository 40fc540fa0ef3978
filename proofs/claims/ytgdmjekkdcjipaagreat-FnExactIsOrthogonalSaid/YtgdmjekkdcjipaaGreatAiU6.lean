/- Names in order, names without others. -/
import Derived.Test.YtgdmjekkdcjipaaGreatAiT0
import Derived.Test.YtgdmjekkdcjipaaGreatAiU4
set_option linter.unusedVariables false
set_option linter.unusedSimpArgs false
namespace Go.Ai
open Go.Proofs
set_option maxRecDepth 100000
abbrev ltS (a b : ByteArray) : Bool := Op.bytesLess a.toList b.toList
def fK0 (x : ByteArray) : List ByteArray → Nat
 | [] => 0
 | y :: ys => if ltS y x then fK0 x ys + 1 else 0
def zP0 (out : List ByteArray) (x : ByteArray) : List ByteArray :=
 match out.drop (fK0 x out) with
 | y :: _ => if eqS y x then out else out.take (fK0 x out) ++ x :: out.drop (fK0 x out)
 | [] => out.take (fK0 x out) ++ [x]
def zr0 (xs : List ByteArray) : List ByteArray := xs.foldl zP0 []
theorem cI0 (x : ByteArray) : ∀ (ys : List ByteArray), fK0 x ys ≤ ys.length
 | [] => Nat.le_refl _
 | y :: ys => by
  have := cI0 x ys
  simp only [fK0]
  split <;> simp <;> omega
theorem gJ0 (x : ByteArray) (ys : List ByteArray) (i : Nat) (h : i < ys.length) : fK0 x (ys.drop i) = if ltS ys[i] x then fK0 x (ys.drop (i + 1)) + 1 else 0 := by
 rw [List.drop_eq_getElem_cons h]; simp only [fK0]
theorem ga0 (out : List ByteArray) (x : ByteArray) : (zP0 out x).length ≤ out.length + 1 := by
 have hp := cI0 x out
 unfold zP0
 split
 ·split
  ·omega
  ·simp; omega
 ·simp; omega
theorem gb0 (out : List ByteArray) (x y : ByteArray) : y ∈ zP0 out x ↔ y ∈ out ∨ y = x := by
 have hsplit := List.take_append_drop (fK0 x out) out
 have hm : y ∈ out ↔ y ∈ out.take (fK0 x out) ∨ y ∈ out.drop (fK0 x out) := by rw [← List.mem_append, hsplit]
 unfold zP0
 split
 ·rename_i z zs hd
  split
  ·rename_i hz
   have hz : z = x := (zw0 z x).1 hz
   have : x ∈ out := by rw [← hz]; exact List.mem_of_mem_drop (i := fK0 x out) (by rw [hd]; simp)
   constructor
   ·exact fun h => .inl h
   ·rintro (h | rfl)
    ·exact h
    ·exact this
  ·rw [hm]
   simp only [List.mem_append, List.mem_cons]
   constructor
   ·rintro (h | h | h)
    ·exact .inl (.inl h)
    ·exact .inr h
    ·exact .inl (.inr h)
   ·rintro ((h | h) | h)
    ·exact .inl h
    ·exact .inr (.inr h)
    ·exact .inr (.inl h)
 ·rename_i hd
  rw [hm, hd]
  simp
theorem jq0 : ∀ (xs out : List ByteArray) (y : ByteArray), y ∈ xs.foldl zP0 out ↔ y ∈ out ∨ y ∈ xs
 | [], out, y => by simp
 | x :: xs, out, y => by
  simp only [List.foldl_cons, jq0 xs, gb0, List.mem_cons, or_assoc]
theorem wL0 (xs : List ByteArray) (y : ByteArray) : y ∈ zr0 xs ↔ y ∈ xs := by simp [zr0, jq0]
theorem wC0 : ∀ (xs out : List ByteArray), (xs.foldl zP0 out).length ≤ out.length + xs.length
 | [], out => by simp
 | x :: xs, out => by
  have h1 := ga0 out x
  have h2 := wC0 xs (zP0 out x)
  simp only [List.foldl_cons, List.length_cons]; omega
theorem qF0 (xs : List ByteArray) : (zr0 xs).length ≤ xs.length := by
 have := wC0 xs []
 simpa [zr0] using this
theorem jF0 (xs : List ByteArray) (i : Nat) (h : i < xs.length) : (xs.take (i + 1)).foldl zP0 [] = zP0 ((xs.take i).foldl zP0 []) xs[i] := by
 rw [List.take_add_one, List.getElem?_eq_getElem h, List.foldl_append]; rfl
theorem xn0 (xs : List ByteArray) : (∀ r, r ∈ xs.map encS → r.length = 1) = True := eq_true (by
 intro r hr
 obtain ⟨x, _, rfl⟩ := List.mem_map.1 hr
 rfl)
theorem kl0 (xs : List ByteArray) : (∀ r, r ∈ rowsOf encS xs → r.length = 1) = True := eq_true (rowsOf_l (fun _ => rfl))
theorem xj0 {α : Type} (l : List α) (n : Nat) : (∀ r, r ∈ [l] → r.length = n) = (l.length = n) := by simp
theorem yW0 (xs : List ByteArray) (hl : xs.length < 100000000) : Sat Tryz.prog 169 [slV (xs.map encS)] (slV ((zr0 xs).map encS)) := by
 obtain ⟨r, hr⟩ : ∃ r, r = zr0 xs := ⟨_, rfl⟩
 rw [← hr]
 refine soc zE0 zB0 Tryz.func169 ?_
 simp -implicitDefEqProofs (disch := omega) only [go_sem]
 refine zA0 (ι := Nat) (fun i => mk 64 [(0, slV (xs.map encS)), (3, slV (((xs.take i).foldl zP0 []).map encS)), (4, zD0 i)] []) (fun i => i ≤ xs.length) (fun i => xs.length - i) 0 (Nat.zero_le _) ?_ zE0 zB0 (by decide +kernel) ?_
 ·refine (vj0 (t := 3) (l := 7) (rows' := []) rfl rfl rfl (by decide) rfl).trans ?_
  exact lek
 ·intro i hi
  have hfl := wC0 (xs.take i) []
  simp only [List.length_take, List.length_nil] at hfl
  rcases Nat.lt_or_ge i xs.length with hlt | hge
  ·have hg := zC0 (ec := encS) hlt
   have hst := jF0 xs i hlt
   generalize (xs.take i).foldl zP0 [] = out at hfl hst
   generalize xs[i] = x at hg hst
   simp only [encS] at hg
   have hp := cI0 x out
   simp -implicitDefEqProofs (disch := omega) only [go_sem, hg, hlt, List.length_map]
   refine zA0 (ι := Nat) (fun j => mk 64 [(0, slV (xs.map encS)), (3, slV (out.map encS)), (4, zD0 i), (5, zD0 j)] []) (fun j => j + fK0 x (out.drop j) = fK0 x out ∧ j ≤ out.length) (fun j => out.length - j) 0 ⟨by simp, Nat.zero_le _⟩ ?_ zE0 zB0 (by decide +kernel) ?_
   ·exact lek
   ·rintro j ⟨hj, hjl⟩
    rcases Nat.lt_or_ge j out.length with hlt2 | hge2
    ·have hg2 := zC0 (ec := encS) hlt2
     rw [gJ0 x out j hlt2] at hj
     have hd : zP0 out x = if (ltS out[j] x) then zP0 out x else (if eqS out[j] x then out else out.take j ++ x :: out.drop j) := by
      split
      ·rfl
      ·rename_i hn
       rw [if_neg hn, Nat.add_zero] at hj
       unfold zP0
       rw [← hj, List.drop_eq_getElem_cons hlt2]
     generalize out[j] = y at hg2 hj hd
     simp only [encS] at hg2
     simp -implicitDefEqProofs (disch := omega) only [go_sem, hg, hg2, hlt, hlt2, List.length_map, xn0, kl0, xj0, ← List.map_take, ← List.map_drop, List.length_take, List.length_drop]
     refine ⟨fun h1 => ⟨j + 1, ⟨?_, hlt2⟩, by omega, lek⟩, fun h1 => ⟨fun h2 => ⟨i + 1, hlt, by omega, ?_⟩, fun h2 => ?_⟩⟩
     ·rw [if_pos h1] at hj; omega
     ·have h2' : eqS y x = true := by simpa [eqS] using h2
      rw [if_neg (by rw [ltS, h1]; simp), if_pos h2'] at hd
      rw [hst, hd]
      exact lek
     ·have h2' : eqS y x = false := h2
      rw [if_neg (by rw [ltS, h1]; simp), if_neg (by rw [h2']; simp)] at hd
      exact ⟨hjl, fun _ => ⟨⟨by omega, by omega⟩, fun _ => ⟨⟨by omega, by omega⟩, fun _ => ⟨hjl, fun _ => ⟨⟨by omega, by omega⟩, fun _ => ⟨i + 1, hlt, by omega, by
      rw [hst, hd]
      refine (zG0 (L' := [(0, slV (xs.map encS)), (3, .one (.own 46 (rowsOf encS (out.take j ++ x :: out.drop j)).length)), (4, zD0 (i + 1 : Nat))]) (B' := [(46, .arr 9 1 (rowsOf encS (out.take j ++ x :: out.drop j)) false)]) (by simp [go_sem]; omega) (by simp [go_sem]; simp [rowsOf, encS])).trans ?_
      refine (vj0 (t := 3) (l := 46) rfl rfl rfl (by decide) wi0).trans ?_
      exact lek⟩⟩⟩⟩⟩⟩
    ·have e1 : out.drop j = [] := List.drop_of_length_le hge2
     rw [e1] at hj
     have hd : zP0 out x = out.take j ++ x :: out.drop j := by
      unfold zP0
      have : fK0 x out = j := by simp [fK0] at hj; omega
      rw [this, e1]
     simp -implicitDefEqProofs (disch := omega) only [go_sem, hg, hlt, Nat.not_lt.2 hge2, List.length_map, xn0, kl0, xj0, ← List.map_take, ← List.map_drop, List.length_take, List.length_drop]
     exact ⟨hjl, fun _ => ⟨⟨by omega, by omega⟩, fun _ => ⟨⟨by omega, by omega⟩, fun _ => ⟨hjl, fun _ => ⟨⟨by omega, by omega⟩, fun _ => ⟨i + 1, hlt, by omega, by
     rw [hst, hd]
     refine (zG0 (L' := [(0, slV (xs.map encS)), (3, .one (.own 46 (rowsOf encS (out.take j ++ x :: out.drop j)).length)), (4, zD0 (i + 1 : Nat))]) (B' := [(46, .arr 9 1 (rowsOf encS (out.take j ++ x :: out.drop j)) false)]) (by simp [go_sem]; omega) (by simp [go_sem]; simp [rowsOf, encS])).trans ?_
     refine (vj0 (t := 3) (l := 46) rfl rfl rfl (by decide) wi0).trans ?_
     exact lek⟩⟩⟩⟩⟩⟩
  ·have : i = xs.length := by omega
   subst this
   rw [List.take_length] at hfl ⊢
   have : xs.foldl zP0 [] = r := by rw [hr]; rfl
   rw [this]
   simp -implicitDefEqProofs (disch := omega) only [go_sem, Nat.lt_irrefl, List.length_map]
theorem yL0 (t : Tm) (h : t.size < 80000000) : Sat Tryz.prog 104 [tmV t] (slV ((zr0 t.vars).map encS)) := by
 have hv := zN0 t
 have hs := vU0 t [] (by simpa using (by omega : t.size < 90000000))
 rw [List.nil_append] at hs
 have hn := yW0 t.vars (by omega)
 generalize t.vars = vs at hv hs hn
 obtain ⟨k, n, s, ts⟩ := t
 refine soc zE0 zB0 Tryz.func104 ?_
 simp -implicitDefEqProofs only [go_sem, Tm.enc]
 refine CallK.acc 1 hs ⟨rfl, rfl, rfl, rfl⟩ rfl ?_
 simp -implicitDefEqProofs only [go_sem, List.getElem?_cons_succ, List.getElem?_cons_zero, qL0]
 refine CallK.mk hn ?_
 simp -implicitDefEqProofs only [go_sem]
theorem bk0 (s : ByteArray) : ∀ (xs : List ByteArray) (k : Int), 0 ≤ k → (0 ≤ vG0 s xs k ↔ vF0 xs s = true)
 | [], k, _ => by simp [vG0, vF0]
 | x :: xs, k, hk => by
  simp only [vG0, vF0, List.any_cons]
  split
  ·rename_i h; rw [h]; simp [hk]
  ·rename_i h
   have h' : eqS x s = false := by simpa using h
   have := bk0 s xs (k + 1) (by omega)
   rw [h', Bool.false_or]
   exact this
theorem zl1 (s : ByteArray) (xs : List ByteArray) : decide (vG0 s xs 0 ≥ 0) = vF0 xs s := by
 rw [Bool.eq_iff_iff, decide_eq_true_eq]
 exact bk0 s xs 0 (Int.le_refl 0)
theorem yJ1 (s : ByteArray) (xs : List ByteArray) : decide (vG0 s xs 0 < 0) = !vF0 xs s := by
 have := bk0 s xs 0 (Int.le_refl 0)
 rw [Bool.eq_iff_iff, decide_eq_true_eq]
 cases h : vF0 xs s <;> simp [h] at this ⊢ <;> omega
theorem pq0 (xs : List ByteArray) (hl : xs.length < 100000000) (s : ByteArray) : Sat Tryz.prog 193 [slV (xs.map encS), ql0 s] (zD0 (vG0 s xs 0)) := by
 refine soc zE0 zB0 Tryz.func193 ?_
 simp -implicitDefEqProofs (disch := omega) only [go_sem]
 refine zA0 (ι := Nat) (fun i => mk 19 [(0, slV (xs.map encS)), (1, ql0 s), (7, zD0 xs.length), (8, zD0 i)] []) (fun i => i ≤ xs.length ∧ vG0 s (xs.drop i) i = vG0 s xs 0) (fun i => xs.length - i) 0 ⟨Nat.zero_le _, by simp⟩ ?_ zE0 zB0 (by decide +kernel) ?_
 ·exact lek
 ·rintro i ⟨hi, he⟩
  rcases Nat.lt_or_ge i xs.length with hlt | hge
  ·have hg := zC0 (ec := encS) hlt
   rw [di0 s xs i hlt] at he
   generalize xs[i] = x at hg he
   simp only [encS] at hg
   simp -implicitDefEqProofs (disch := omega) only [go_sem, hg, hlt, List.length_map]
   refine ⟨fun h => ?_, fun h => ⟨i + 1, ⟨hlt, ?_⟩, by omega, lek⟩⟩
   ·have he' : eqS x s = true := by simp [eqS, h]
    simpa only [he', if_true] using he
   ·have he' : eqS x s = false := by
     simp only [eqS]
     simp only [beq_eq_false_iff_ne, ne_eq] at h ⊢
     exact fun e => h e.symm
    simpa only [he', Bool.false_eq_true, if_false, Int.natCast_add, Int.natCast_one] using he
  ·have e1 : xs.drop i = [] := List.drop_of_length_le hge
   rw [e1] at he
   simp -implicitDefEqProofs (disch := omega) only [go_sem, Nat.not_lt.2 hge, List.length_map]
   rw [← he]; rfl
theorem qD0 (xs : List ByteArray) (hl : xs.length < 100000000) (s : ByteArray) : Sat Tryz.prog 147 [slV (xs.map encS), ql0 s] (boolV (vF0 xs s)) := by
 have h := pq0 xs hl s
 have h2 := zl1 s xs
 refine soc zE0 zB0 Tryz.func147 ?_
 simp -implicitDefEqProofs only [go_sem]
 refine CallK.mk h ?_
 simp -implicitDefEqProofs only [go_sem, h2]
theorem lF0 (xs ys : List ByteArray) (i : Nat) (h : i < xs.length) : xh0 (xs.take (i + 1)) ys = xh0 (xs.take i) ys ++ (if vF0 ys xs[i] then [] else [xs[i]]) := by
 rw [List.take_add_one, List.getElem?_eq_getElem h]
 simp only [xh0, List.filter_append, Option.toList_some]
 congr 1
 simp only [List.filter_cons, List.filter_nil]
 cases vF0 ys xs[i] <;> simp
theorem ck0 (xs ys : List ByteArray) : (xh0 xs ys).length ≤ xs.length := List.length_filter_le _ _
theorem py0 (xs ys : List ByteArray) (hl : xs.length < 100000000) (hl2 : ys.length < 100000000) : Sat Tryz.prog 163 [slV (xs.map encS), slV (ys.map encS)] (slV ((xh0 xs ys).map encS)) := by
 obtain ⟨r, hr⟩ : ∃ r, r = xh0 xs ys := ⟨_, rfl⟩
 rw [← hr]
 refine soc zE0 zB0 Tryz.func163 ?_
 simp -implicitDefEqProofs (disch := omega) only [go_sem]
 refine zA0 (ι := Nat) (fun i => mk 29 [(0, slV (xs.map encS)), (1, slV (ys.map encS)), (5, .one (.own 7 (xh0 (xs.take i) ys).length)), (6, zD0 i)] [(7, .arr 9 1 (rowsOf encS (xh0 (xs.take i) ys)) false)]) (fun i => i ≤ xs.length) (fun i => xs.length - i) 0 (Nat.zero_le _) ?_ zE0 zB0 (by decide +kernel) ?_
 ·exact zG0 (by simp [go_sem, xh0]) (by simp [go_sem, xh0, rowsOf])
 ·intro i hi
  have hwl := ck0 (xs.take i) ys
  simp only [List.length_take] at hwl
  rcases Nat.lt_or_ge i xs.length with hlt | hge
  ·have hg := zC0 (ec := encS) hlt
   have hw := lF0 xs ys i hlt
   have hix := qj0 ys hl2 xs[i]
   have hib := yJ1 xs[i] ys
   generalize xh0 (xs.take i) ys = out at hwl hw
   generalize xs[i] = x at hg hw hix hib
   simp only [encS] at hg
   simp -implicitDefEqProofs (disch := omega) only [go_sem, hg, hlt, List.length_map]
   refine CallK.mk hix ?_
   simp -implicitDefEqProofs (disch := omega) only [go_sem, hg, hlt, List.length_map, hib]
   refine ⟨fun h => ?_, fun h => ⟨i + 1, hlt, by omega, ?_⟩⟩
   ·refine ⟨⟨by simp, by omega, by omega⟩, fun _ => ⟨i + 1, hlt, by omega, ?_⟩⟩
    rw [hw, h, if_neg (by simp)]
    exact zG0 (by simp [go_sem]) (by simp [go_sem]; simp [rowsOf, encS])
   ·rw [hw, if_pos (by simpa using h), List.append_nil]
    exact lek
  ·have : i = xs.length := by omega
   subst this
   rw [List.take_length, ← hr]
   simp -implicitDefEqProofs (disch := omega) only [go_sem, Nat.lt_irrefl, List.length_map]
theorem pO0 (xs ys : List ByteArray) (hl : xs.length < 100000000) (hl2 : ys.length < 100000000) : Sat Tryz.prog 197 [slV (xs.map encS), slV (ys.map encS)] (slV ((xh0 xs ys).map encS)) := by
 obtain ⟨r, hr⟩ : ∃ r, r = xh0 xs ys := ⟨_, rfl⟩
 rw [← hr]
 refine soc zE0 zB0 Tryz.func197 ?_
 simp -implicitDefEqProofs (disch := omega) only [go_sem]
 refine zA0 (ι := Nat) (fun i => mk 24 [(1, slV (ys.map encS)), (5, .one (.own 9000 (xh0 (xs.take i) ys).length)), (8, slV (xs.map encS)), (9, zD0 xs.length), (10, zD0 i)] [(9000, .arr 9 1 (rowsOf encS (xh0 (xs.take i) ys)) false)]) (fun i => i ≤ xs.length) (fun i => xs.length - i) 0 (Nat.zero_le _) ?_ zE0 zB0 (by decide +kernel) ?_
 ·refine (yG0 (t := 5) 9000 9 1 rfl (by decide) rfl (by decide)).trans ?_
  exact zG0 (by simp [go_sem, xh0]) (by simp [go_sem, xh0, rowsOf])
 ·intro i hi
  have hwl := ck0 (xs.take i) ys
  simp only [List.length_take] at hwl
  rcases Nat.lt_or_ge i xs.length with hlt | hge
  ·have hg := zC0 (ec := encS) hlt
   have hw := lF0 xs ys i hlt
   have hix := qD0 ys hl2 xs[i]
   generalize xh0 (xs.take i) ys = out at hwl hw
   generalize xs[i] = x at hg hw hix
   simp only [encS] at hg
   simp -implicitDefEqProofs (disch := omega) only [go_sem, hg, hlt, List.length_map]
   refine CallK.mk hix ?_
   simp -implicitDefEqProofs (disch := omega) only [go_sem, hg, hlt, List.length_map]
   refine ⟨fun h => ?_, fun h => ⟨i + 1, hlt, by omega, ?_⟩⟩
   ·refine ⟨⟨by simp, by omega, by omega⟩, fun _ => ⟨i + 1, hlt, by omega, ?_⟩⟩
    rw [hw, h, if_neg (by simp)]
    exact zG0 (by simp [go_sem]) (by simp [go_sem]; simp [rowsOf, encS])
   ·rw [hw, if_pos (by simpa using h), List.append_nil]
    exact lek
  ·have : i = xs.length := by omega
   subst this
   rw [List.take_length, ← hr]
   simp -implicitDefEqProofs (disch := omega) only [go_sem, Nat.lt_irrefl, List.length_map]
theorem rY0 (xs ys : List ByteArray) : ((xh0 xs ys).length == 0) = xs.all (vF0 ys) := by
 rw [Bool.eq_iff_iff]
 simp [xh0, List.filter_eq_nil_iff]
theorem yJ0 (t : Tm) (h : t.size < 80000000) (ys : List ByteArray) (hl : ys.length < 100000000) : Sat Tryz.prog 152 [tmV t, slV (ys.map encS)] (boolV (t.vars.all (vF0 ys))) := by
 have hv := zN0 t
 have hs := qt0 t h
 have hw := pO0 t.vars ys (by omega) hl
 have hn := rY0 t.vars ys
 generalize t.vars = vs at hv hs hw hn
 obtain ⟨k, n, s, ts⟩ := t
 have hz : ((((xh0 vs ys).length : Nat) : Int) == 0) = ((xh0 vs ys).length == 0) := by rw [Bool.eq_iff_iff]; simp
 refine soc zE0 zB0 Tryz.func152 ?_
 simp -implicitDefEqProofs only [go_sem, Tm.enc]
 refine CallK.mk hs ?_
 simp -implicitDefEqProofs only [go_sem]
 refine CallK.mk hw ?_
 simp -implicitDefEqProofs only [go_sem, List.length_map, hz, hn]
theorem bV0 (ts : List Tm) (i : Nat) (h : i < ts.length) : Tm.bis (ts.drop i) = (ts[i].bi || Tm.bis (ts.drop (i + 1))) := by
 rw [List.drop_eq_getElem_cons h]; simp only [Tm.bis]
theorem cW0 (k n : Int) (s : ByteArray) (ts : List Tm) (hl : s.size + Tm.sizes ts < 80000000) (ih : ∀ t, t ∈ ts → Sat Tryz.prog 160 [tmV t] (boolV t.bi)) : Sat Tryz.prog 160 [tmV (.mk k n s ts)] (boolV (Tm.mk k n s ts).bi) := by
 have hts := zH0 ts
 have hb := qM0 s
 obtain ⟨r, hr⟩ : ∃ r, r = (Tm.mk k n s ts).bi := ⟨_, rfl⟩
 rw [← hr]
 simp only [Tm.bi] at hr
 generalize fY0 s = b at hb hr
 refine soc zE0 zB0 Tryz.func160 ?_
 simp -implicitDefEqProofs (disch := omega) only [go_sem, Tm.enc]
 refine zA0 (ι := Nat) (fun i => mk 25 [(1, .one (.ptr 1 0)), (3, zD0 i)] [(1, .var [iC k, iC n, sC s, tC ts])])
  (fun i => i ≤ ts.length ∧ Tm.bis (ts.drop i) = Tm.bis ts) (fun i => ts.length - i) 0 ⟨Nat.zero_le _, by simp⟩ ?_ zE0 zB0 (by decide +kernel) ?_
 ·exact lek
 ·rintro i ⟨hi, he⟩
  rcases Nat.lt_or_ge i ts.length with hlt | hge
  ·have hg := zF0 ts i hlt
   rw [bV0 ts i hlt] at he
   simp -implicitDefEqProofs (disch := omega) only [go_sem, hg, hlt, enc_len]
   refine CallK.mk (ih _ (List.getElem_mem hlt)) ?_
   simp -implicitDefEqProofs (disch := omega) only [go_sem]
   exact ⟨fun h => by rw [h] at he; rw [hr, ← he]; simp, fun h => ⟨i + 1, ⟨hlt, by rw [h] at he; simpa using he⟩, by omega, lek⟩⟩
  ·have : i = ts.length := by omega
   subst this
   rw [List.drop_length] at he
   have he : false = Tm.bis ts := he
   rw [← he, Bool.or_false] at hr
   simp -implicitDefEqProofs (disch := omega) only [go_sem, Nat.lt_irrefl]
   refine ⟨fun h => CallK.mk hb ?_, fun h => by rw [hr, h]; rfl⟩
   simp -implicitDefEqProofs (disch := omega) only [go_sem]
   rw [hr, h]; rfl
theorem tN0 : ∀ (t : Tm), t.size < 80000000 → Sat Tryz.prog 160 [tmV t] (boolV t.bi) := by
 refine Tm.ind (fun k n s ts ih h => cW0 k n s ts (by simp only [Tm.size] at h; omega) (fun t ht => ih t ht ?_))
 have := zT0 ts t ht; simp only [Tm.size] at h; omega
theorem mH0 (k n : Int) (s : ByteArray) (ts : List Tm) (hl : s.size + Tm.sizes ts < 80000000) (ih : ∀ t, t ∈ ts → Sat Tryz.prog 149 [tmV t] (boolV (!t.bi))) : Sat Tryz.prog 149 [tmV (.mk k n s ts)] (boolV (!(Tm.mk k n s ts).bi)) := by
 have hts := zH0 ts
 have hb := qI0 s
 obtain ⟨r, hr⟩ : ∃ r, r = !(Tm.mk k n s ts).bi := ⟨_, rfl⟩
 rw [← hr]
 simp only [Tm.bi] at hr
 generalize fY0 s = b at hb hr
 refine soc zE0 zB0 Tryz.func149 ?_
 simp -implicitDefEqProofs (disch := omega) only [go_sem, Tm.enc]
 have loop : (k == 2 && b) = false → r = !Tm.bis ts := fun h => by rw [hr, h]; rfl
 refine ⟨fun h1 => CallK.mk hb ?_, fun h1 => ?_⟩
 ·simp -implicitDefEqProofs (disch := omega) only [go_sem]
  refine ⟨fun h2 => by rw [hr, h1, h2]; rfl, fun h2 => ?_⟩
  have hr := loop (by rw [h2]; simp)
  refine zA0 (ι := Nat) (fun i => mk 24 [(14, yM0 ts), (15, zD0 ts.length), (16, zD0 i)] [])
   (fun i => i ≤ ts.length ∧ Tm.bis (ts.drop i) = Tm.bis ts) (fun i => ts.length - i) 0 ⟨Nat.zero_le _, by simp⟩ ?_ zE0 zB0 (by decide +kernel) ?_
  ·exact lek
  ·rintro i ⟨hi, he⟩
   rcases Nat.lt_or_ge i ts.length with hlt | hge
   ·have hg := zF0 ts i hlt
    rw [bV0 ts i hlt] at he
    simp -implicitDefEqProofs (disch := omega) only [go_sem, hg, hlt, enc_len]
    refine CallK.mk (ih _ (List.getElem_mem hlt)) ?_
    simp -implicitDefEqProofs (disch := omega) only [go_sem]
    exact ⟨fun h => by rw [h] at he; rw [hr, ← he]; simp, fun h => ⟨i + 1, ⟨hlt, by rw [h] at he; simpa using he⟩, by omega, lek⟩⟩
   ·have : i = ts.length := by omega
    subst this
    rw [List.drop_length] at he
    simp -implicitDefEqProofs (disch := omega) only [go_sem, Nat.lt_irrefl]
    rw [hr, ← he]; rfl
 ·have hr := loop (by rw [h1]; rfl)
  refine zA0 (ι := Nat) (fun i => mk 24 [(14, yM0 ts), (15, zD0 ts.length), (16, zD0 i)] [])
   (fun i => i ≤ ts.length ∧ Tm.bis (ts.drop i) = Tm.bis ts) (fun i => ts.length - i) 0 ⟨Nat.zero_le _, by simp⟩ ?_ zE0 zB0 (by decide +kernel) ?_
  ·exact lek
  ·rintro i ⟨hi, he⟩
   rcases Nat.lt_or_ge i ts.length with hlt | hge
   ·have hg := zF0 ts i hlt
    rw [bV0 ts i hlt] at he
    simp -implicitDefEqProofs (disch := omega) only [go_sem, hg, hlt, enc_len]
    refine CallK.mk (ih _ (List.getElem_mem hlt)) ?_
    simp -implicitDefEqProofs (disch := omega) only [go_sem]
    exact ⟨fun h => by rw [h] at he; rw [hr, ← he]; simp, fun h => ⟨i + 1, ⟨hlt, by rw [h] at he; simpa using he⟩, by omega, lek⟩⟩
   ·have : i = ts.length := by omega
    subst this
    rw [List.drop_length] at he
    simp -implicitDefEqProofs (disch := omega) only [go_sem, Nat.lt_irrefl]
    rw [hr, ← he]; rfl
theorem bn0 : ∀ (t : Tm), t.size < 80000000 → Sat Tryz.prog 149 [tmV t] (boolV (!t.bi)) := by
 refine Tm.ind (fun k n s ts ih h => mH0 k n s ts (by simp only [Tm.size] at h; omega) (fun t ht => ih t ht ?_))
 have := zT0 ts t ht; simp only [Tm.size] at h; omega
def qx1 (k : Int) : ByteArray := if k = 1 then ⟨#[32, 61, 61, 32]⟩ else if k = 2 then ⟨#[32, 33, 61, 32]⟩ else if k = 3 then ⟨#[32, 60, 32]⟩ else sE
theorem qy1 (k : Int) : eqS (qx1 k) sE = !vq0 k := by
 unfold qx1 vq0
 split
 ·subst_vars; rw [(dU0 _ _).2 (by decide)]; rfl
 ·split
  ·subst_vars; rw [(dU0 _ _).2 (by decide)]; rfl
  ·split
   ·subst_vars; rw [(dU0 _ _).2 (by decide)]; rfl
   ·rw [qf0]
    have : ¬ (1 ≤ k ∧ k ≤ 3) := by omega
    symm
    simp only [Bool.not_eq_true', Bool.and_eq_false_iff, decide_eq_false_iff_not]
    omega
theorem gj0 (k : Int) : Sat Tryz.prog 204 [zD0 k] (ql0 (qx1 k)) := by
 by_cases hk : 1 ≤ k ∧ k ≤ 3
 ·have h3 : k = 1 ∨ k = 2 ∨ k = 3 := by omega
  rcases h3 with rfl | rfl | rfl
  all_goals
   refine soc zE0 zB0 Tryz.func204 ?_
   simp -implicitDefEqProofs only [go_sem]
   refine CallK.mk (yi0 _ 1 3) ?_
   simp -implicitDefEqProofs only [go_sem, Int.reduceToNat, Int.reduceLE, Int.reduceLT, decide_true, Bool.and_self, Int.cast_ofNat_Int]
   rfl
 ·have hb := yi0 k 1 3
  have hf : (decide (1 ≤ k) && decide (k ≤ 3)) = false := by
   simp only [Bool.and_eq_false_iff, decide_eq_false_iff_not]; omega
  rw [hf] at hb
  refine soc zE0 zB0 Tryz.func204 ?_
  simp -implicitDefEqProofs only [go_sem]
  refine CallK.mk hb ?_
  simp -implicitDefEqProofs only [go_sem]
  unfold qx1
  rw [if_neg (by omega), if_neg (by omega), if_neg (by omega)]
theorem vP0 (k : Int) : Sat Tryz.prog 198 [zD0 k] (boolV (vq0 k)) := by
 refine soc zE0 zB0 Tryz.func198 ?_
 simp -implicitDefEqProofs only [go_sem]
 unfold vq0
 grind
theorem cZ0 (sg : GSignature) (hk : cn0 sg) (vs : List GVarSort) (hv : vs.length < 100000000) (g : GGuard) (hg : g.size < 40000000) : Sat Tryz.prog 164 [qA0 sg.enc, qA0 g.enc, slV (vs.map GVarSort.enc)] (boolV (yQ0 sg vs g)) := by
 obtain ⟨kd, le, ri⟩ := g
 simp only [GGuard.size] at hg
 have h1 := wY0 le (by omega)
 have h2 := wY0 ri (by omega)
 have h3 := gj0 kd
 have h3e := qy1 kd
 have h4 := wJ0 sg hk vs hv le (by omega)
 have h5 := wJ0 sg hk vs hv ri (by omega)
 obtain ⟨r, hr⟩ : ∃ r, r = yQ0 sg vs ⟨kd, le, ri⟩ := ⟨_, rfl⟩
 rw [← hr]
 unfold yQ0 at hr
 simp only at hr
 generalize qx1 kd = sn at h3 h3e
 generalize vq0 kd = b3 at h3e hr
 generalize le.valid = b1 at h1 hr
 generalize ri.valid = b2 at h2 hr
 generalize le.sort sg vs = q1 at h4 hr
 generalize ri.sort sg vs = q2 at h5 hr
 have hse : sg.enc = [.sl (sg.so.map encS), .sl (sg.op.map GOp.enc)] := rfl
 obtain ⟨lk, ln, ls, lt⟩ := le
 obtain ⟨rk, rn, rs, rt⟩ := ri
 refine soc zE0 zB0 Tryz.func164 ?_
 simp -implicitDefEqProofs only [go_sem, GGuard.enc, Tm.enc, zO0, hse, List.cons_append, List.nil_append]
 refine CallK.mk h1 ?_
 simp -implicitDefEqProofs only [go_sem, List.cons_append, List.nil_append]
 refine ⟨fun k1 => CallK.mk h2 ?_, fun k1 => by rw [hr, k1]; simp⟩
 simp -implicitDefEqProofs only [go_sem]
 refine ⟨fun k2 => CallK.mk h3 ?_, fun k2 => by rw [hr, k2]; simp⟩
 simp -implicitDefEqProofs only [go_sem]
 refine ⟨fun k3 => ?_, fun k3 => CallK.mk h4 ?_⟩
 ·have k3 : eqS sn sE = true := by simpa [eqS] using k3
  rw [h3e] at k3
  simp at k3
  rw [hr, k3]; simp
 ·have k3 : eqS sn sE = false := k3
  rw [h3e] at k3
  simp at k3
  simp only [eqS, k1, k2, k3, Bool.true_and] at hr
  simp -implicitDefEqProofs only [go_sem]
  refine ⟨fun k4 => CallK.mk h5 ?_, fun k4 => by rw [hr, k4]; simp⟩
  simp -implicitDefEqProofs only [go_sem]
  grind
def jr0 (sg : GSignature) (vs : List GVarSort) (names : List ByteArray) (g : GGuard) : Bool :=
 vq0 g.kd && g.le.valid && g.ri.valid && g.le.vars.all (vF0 names) && g.ri.vars.all (vF0 names) && !eqS (g.le.sort sg vs) sE && eqS (g.le.sort sg vs) (g.ri.sort sg vs) && !(g.kd == 3 && !eqS (g.le.sort sg vs) kn0)
theorem wB0 {α : Type} (p : α → Bool) (xs : List α) (i : Nat) (h : i < xs.length) : (xs.drop i).all p = (p xs[i] && (xs.drop (i + 1)).all p) := by
 rw [List.drop_eq_getElem_cons h, List.all_cons]
theorem fV0 (sg : GSignature) (hk : cn0 sg) (vs : List GVarSort) (hv : vs.length < 100000000) (names : List ByteArray) (hn : names.length < 100000000) (gs : List GGuard) (hl : gs.length < 100000000) (hg : ∀ g, g ∈ gs → g.size < 40000000) : Sat Tryz.prog 153 [qA0 sg.enc, slV (gs.map GGuard.enc), slV (vs.map GVarSort.enc), slV (names.map encS)] (boolV (gs.all (jr0 sg vs names) && decide (gs.length ≤ 2))) := by
 obtain ⟨r, hr⟩ : ∃ r, r = gs.all (jr0 sg vs names) := ⟨_, rfl⟩
 rw [← hr]
 have hse : sg.enc = [.sl (sg.so.map encS), .sl (sg.op.map GOp.enc)] := rfl
 refine soc zE0 zB0 Tryz.func153 ?_
 simp -implicitDefEqProofs (disch := omega) only [go_sem, hse]
 refine zA0 (ι := Nat) (fun i => mk 79 [(1, slV (gs.map GGuard.enc)), (2, slV (vs.map GVarSort.enc)), (3, slV (names.map encS)), (4, .one (.ptr 4 0)), (13, slV (gs.map GGuard.enc)), (14, zD0 gs.length), (15, zD0 i)] [(4, .var [.c (.sl (sg.so.map encS)), .c (.sl (sg.op.map GOp.enc))])]) (fun i => i ≤ gs.length ∧ (gs.drop i).all (jr0 sg vs names) = r) (fun i => gs.length - i) 0 ⟨Nat.zero_le _, by simp [hr]⟩ ?_ zE0 zB0 (by decide +kernel) ?_
 ·exact lek
 ·rintro i ⟨hi, he⟩
  rcases Nat.lt_or_ge i gs.length with hlt | hge
  ·have hgd := zC0 (ec := GGuard.enc) hlt
   have hgs := hg _ (List.getElem_mem hlt)
   rw [wB0 _ gs i hlt] at he
   generalize gs[i] = g at hgd hgs he
   obtain ⟨kd, le, ri⟩ := g
   simp only [GGuard.size] at hgs
   have h1 := wW0 le (by omega)
   have h2 := wW0 ri (by omega)
   have h3 := vP0 kd
   have h4 := wF0 sg hk vs hv le (by omega)
   have h5 := wF0 sg hk vs hv ri (by omega)
   have h6 := yJ0 le (by omega) names hn
   have h7 := yJ0 ri (by omega) names hn
   obtain ⟨rest, hre⟩ : ∃ rest, rest = (gs.drop (i + 1)).all (jr0 sg vs names) := ⟨_, rfl⟩
   rw [← hre] at he
   unfold jr0 at he
   simp only at he
   generalize vq0 kd = b3 at h3 he
   generalize le.valid = b1 at h1 he
   generalize ri.valid = b2 at h2 he
   generalize le.sort sg vs = q1 at h4 he
   generalize ri.sort sg vs = q2 at h5 he
   generalize le.vars.all (vF0 names) = b4 at h6 he
   generalize ri.vars.all (vF0 names) = b5 at h7 he
   obtain ⟨lk, ln, ls, lt⟩ := le
   obtain ⟨rk, rn, rs, rt⟩ := ri
   simp only [GGuard.enc, Tm.enc, zO0, List.cons_append, List.nil_append] at hgd
   simp -implicitDefEqProofs (disch := omega) only [go_sem, hgd, hlt, List.length_map]
   refine CallK.mk h3 ?_
   simp -implicitDefEqProofs (disch := omega) only [go_sem, hgd, hlt, List.length_map]
   refine ⟨fun k3 => CallK.mk h1 ?_, fun k3 => by rw [← he, k3]; simp⟩
   simp -implicitDefEqProofs (disch := omega) only [go_sem, hgd, hlt, List.length_map]
   refine ⟨fun k1 => CallK.mk h2 ?_, fun k1 => by rw [← he, k1]; simp⟩
   simp -implicitDefEqProofs (disch := omega) only [go_sem, hgd, hlt, List.length_map]
   refine ⟨fun k2 => CallK.mk h6 ?_, fun k2 => by rw [← he, k2]; simp⟩
   simp -implicitDefEqProofs (disch := omega) only [go_sem, hgd, hlt, List.length_map]
   refine ⟨fun k4 => CallK.mk h7 ?_, fun k4 => by rw [← he, k4]; simp⟩
   simp -implicitDefEqProofs (disch := omega) only [go_sem, hgd, hlt, List.length_map]
   refine ⟨fun k5 => by rw [← he, k5]; simp, fun k5 => CallK.mk h4 ?_⟩
   simp -implicitDefEqProofs (disch := omega) only [go_sem, hgd, hlt, List.length_map]
   refine CallK.mk h5 ?_
   simp -implicitDefEqProofs (disch := omega) only [go_sem, hgd, hlt, List.length_map]
   rw [k1, k2, k3, k4, k5] at he
   simp only [Bool.true_and, eqS, sE, kn0] at he
   refine ⟨fun k6 => ⟨fun k7 => ⟨fun k8 => ⟨fun k9 => ?_, fun k9 => ⟨i + 1, ⟨hlt, ?_⟩, by omega, lek⟩⟩, fun k8 => ⟨i + 1, ⟨hlt, ?_⟩, by omega, lek⟩⟩, fun k7 => ?_⟩, fun k6 => ?_⟩
   all_goals grind
  ·have : i = gs.length := by omega
   subst this
   rw [List.drop_length] at he
   have he : true = r := he
   rw [← he]
   simp -implicitDefEqProofs (disch := omega) only [go_sem, Nat.lt_irrefl, List.length_map, Bool.true_and]
   rw [Bool.eq_iff_iff]; simp
   omega
theorem xs0 (xs : List ByteArray) (s : ByteArray) : vF0 xs s = true ↔ s ∈ xs := by
 simp only [vF0, List.any_eq_true]
 exact ⟨fun ⟨x, h1, h2⟩ => (zw0 x s).1 h2 ▸ h1, fun h => ⟨s, h, (zw0 s s).2 rfl⟩⟩
theorem wZ1 (xs ys : List ByteArray) : ((xh0 (zr0 xs) (zr0 ys)).length == 0) = xs.all (vF0 ys) := by
 rw [rY0, Bool.eq_iff_iff, List.all_eq_true, List.all_eq_true]
 simp only [xs0, wL0]
theorem gi0 (sg : GSignature) (hk : cn0 sg) (x : GRule) (hx : x.size < 30000000) : Sat Tryz.prog 96 [qA0 sg.enc, qA0 x.enc] (boolV (cQ0 sg x)) := by
 obtain ⟨na, le, ri, gu⟩ := x
 simp only [GRule.size, szS] at hx
 have hgl := zQ0 GGuard.size gu
 have hgm := qT0 GGuard.size gu
 have h1 := wI0 na (by omega)
 have h2 := wY0 le (by omega)
 have h3 := wY0 ri (by omega)
 have h4 := tN0 le (by omega)
 have h5 := wH0 sg le.name hk
 obtain ⟨o, ho⟩ : ∃ o, o = (zI0 sg le.name).getD opD := ⟨_, rfl⟩
 rw [← ho] at h5
 have h6 := ve0 sg hk le (by omega) o.re
 have hcs := kU0 le
 have hvl : (zd0 sg le o.re).1.length < 100000000 := by
  have := kA0 sg le o.re []
  simp only [List.length_nil] at this
  unfold zd0
  split
  ·simp only; omega
  ·simp
 have h7 := wJ0 sg hk (zd0 sg le o.re).1 hvl ri (by omega)
 have h8 := yL0 le (by omega)
 have h9 := yL0 ri (by omega)
 have hv1 := zN0 le
 have hv2 := zN0 ri
 have hs1 := qF0 le.vars
 have hs2 := qF0 ri.vars
 have h10 := py0 (zr0 ri.vars) (zr0 le.vars) (by omega) (by omega)
 have hw := wZ1 ri.vars le.vars
 have h11 := fun g hg => cZ0 sg hk (zd0 sg le o.re).1 hvl g (by have := hgm g hg; omega)
 obtain ⟨r, hr⟩ : ∃ r, r = cQ0 sg ⟨na, le, ri, gu⟩ := ⟨_, rfl⟩
 rw [← hr]
 unfold cQ0 at hr
 simp only [← ho] at hr
 have hlk : le.kind = le.kind := rfl
 generalize mQ0 na = b1 at h1 hr
 generalize le.valid = b2 at h2 hr
 generalize ri.valid = b3 at h3 hr
 generalize le.bi = b4 at h4 hr
 generalize zd0 sg le o.re = iv at h6 hvl h7 h11 hr
 generalize ri.sort sg iv.1 = q at h7 hr
 rw [← hw] at hr
 have hwl : (xh0 (zr0 ri.vars) (zr0 le.vars)).length < 100000000 := by have := ck0 (zr0 ri.vars) (zr0 le.vars); omega
 generalize xh0 (zr0 ri.vars) (zr0 le.vars) = ws at h10 hr hwl
 generalize zr0 le.vars = v1 at h8 h10
 generalize zr0 ri.vars = v2 at h9 h10
 have hse : sg.enc = [.sl (sg.so.map encS), .sl (sg.op.map GOp.enc)] := rfl
 obtain ⟨lk, ln, ls, lt⟩ := le
 obtain ⟨rk, rn, rs, rt⟩ := ri
 obtain ⟨ona, oar, ore⟩ := o
 simp only [Tm.kind, Tm.name] at hr h5 h6
 refine soc zE0 zB0 Tryz.func96 ?_
 simp -implicitDefEqProofs (disch := omega) only [go_sem, GRule.enc, Tm.enc, zO0, encS, zj0, hse, List.cons_append, List.nil_append]
 refine CallK.mk h1 ?_
 simp -implicitDefEqProofs (disch := omega) only [go_sem, List.length_map]
 refine ⟨fun k1 => CallK.mk h2 ?_, fun k1 => by rw [hr, k1]; simp⟩
 simp -implicitDefEqProofs (disch := omega) only [go_sem, List.length_map]
 refine ⟨fun k2 => CallK.mk h3 ?_, fun k2 => by rw [hr, k2]; simp⟩
 simp -implicitDefEqProofs (disch := omega) only [go_sem, List.length_map]
 refine ⟨fun k3 => ⟨fun k4 => CallK.mk h4 ?_, fun k4 => by rw [hr]; simp [k4]⟩, fun k3 => by rw [hr, k3]; simp⟩
 have k4 : lk = 2 := by simpa using k4
 subst k4
 simp -implicitDefEqProofs (disch := omega) only [go_sem, List.length_map]
 refine ⟨fun k5 => ⟨fun k6 => by rw [hr, (by simp; omega : decide (gu.length ≤ 2) = false)]; simp, fun k6 => ?_⟩, fun k5 => by rw [hr, k5]; simp⟩
 have hr : r = (iv.2 && eqS q ore && (ws.length == 0) && gu.all (yQ0 sg iv.1)) := by
  rw [hr, k1, k2, k3, k5, (by simp; omega : decide (gu.length ≤ 2) = true)]; simp
 refine CallK.mk h5 ?_
 simp -implicitDefEqProofs (disch := omega) only [go_sem, GOp.enc, encS, zj0, List.cons_append, List.nil_append]
 refine CallK.mk h6 ?_
 simp -implicitDefEqProofs (disch := omega) only [go_sem, List.length_map]
 refine ⟨fun k7 => CallK.mk h7 ?_, fun k7 => by rw [hr, k7]; rfl⟩
 simp -implicitDefEqProofs (disch := omega) only [go_sem, List.length_map]
 refine ⟨fun k8 => CallK.mk h9 ?_, fun k8 => ?_⟩
 ·simp -implicitDefEqProofs (disch := omega) only [go_sem, List.length_map]
  refine CallK.mk h8 ?_
  simp -implicitDefEqProofs (disch := omega) only [go_sem, List.length_map]
  refine CallK.mk h10 ?_
  simp -implicitDefEqProofs (disch := omega) only [go_sem, List.length_map]
  have k8' : eqS q ore = true := by simpa [eqS] using k8
  refine ⟨fun k9 => by rw [hr, (by rw [beq_eq_false_iff_ne]; omega : (ws.length == 0) = false)]; simp, fun k9 => ?_⟩
  have hr : r = gu.all (yQ0 sg iv.1) := by rw [hr, k7, k8', (by rw [beq_iff_eq]; omega : (ws.length == 0) = true)]; simp
  refine zA0 (ι := Nat) (fun i => mk 99 [(2, .one (.ptr 2 0)), (3, .one (.ptr 3 0)), (7, slV (iv.1.map GVarSort.enc)), (9, zD0 i)] [(2, .var [.c (.sl (sg.so.map encS)), .c (.sl (sg.op.map GOp.enc))]), (3, .var [sC na, iC 2, iC ln, sC ls, tC lt, iC rk, iC rn, sC rs, tC rt, .c (.sl (gu.map GGuard.enc))])]) (fun i => i ≤ gu.length ∧ (gu.drop i).all (yQ0 sg iv.1) = r) (fun i => gu.length - i) 0 ⟨Nat.zero_le _, by simp [hr]⟩ ?_ zE0 zB0 (by decide +kernel) ?_
  ·exact lek
  ·rintro i ⟨hi, he⟩
   rcases Nat.lt_or_ge i gu.length with hlt | hge
   ·have hgd := zC0 (ec := GGuard.enc) hlt
    have hgs := h11 _ (List.getElem_mem hlt)
    rw [wB0 _ gu i hlt] at he
    obtain ⟨rest, hre⟩ : ∃ rest, rest = (gu.drop (i + 1)).all (yQ0 sg iv.1) := ⟨_, rfl⟩
    rw [← hre] at he
    generalize yQ0 sg iv.1 gu[i] = b at hgs he
    generalize gu[i] = g at hgd hgs
    obtain ⟨kd, ⟨gk, gn, gs, gt⟩, ⟨hk2, hn2, hs2, ht2⟩⟩ := g
    simp only [GGuard.enc, Tm.enc, zO0, List.cons_append, List.nil_append] at hgd
    simp -implicitDefEqProofs (disch := omega) only [go_sem, hgd, hlt, List.length_map]
    refine CallK.mk hgs ?_
    simp -implicitDefEqProofs (disch := omega) only [go_sem, hgd, hlt, List.length_map]
    exact ⟨fun k => by rw [← he, k]; rfl, fun k => ⟨i + 1, ⟨hlt, by rw [← he, k, ← hre]; rfl⟩, by omega, lek⟩⟩
   ·have : i = gu.length := by omega
    subst this
    rw [List.drop_length] at he
    have he : true = r := he
    simp -implicitDefEqProofs (disch := omega) only [go_sem, Nat.lt_irrefl, List.length_map]
    exact he
 ·have k8' : eqS q ore = false := k8
  rw [hr, k8']; simp
def qr1 (sg : GSignature) (r : GRule) : Bool :=
 mQ0 r.na && r.le.valid && (r.le.kind == 2) && !r.le.bi && r.ri.valid && (zI0 sg r.le.name).isSome &&
 (zd0 sg r.le ((zI0 sg r.le.name).getD opD).re).2 && eqS (r.ri.sort sg (zd0 sg r.le ((zI0 sg r.le.name).getD opD).re).1) ((zI0 sg r.le.name).getD opD).re &&
 r.ri.vars.all (vF0 r.le.vars) && (r.gu.all (jr0 sg (zd0 sg r.le ((zI0 sg r.le.name).getD opD).re).1 r.le.vars) && decide (r.gu.length ≤ 2))
theorem dn0 (sg : GSignature) (hk : cn0 sg) (x : GRule) (hx : x.size < 30000000) : Sat Tryz.prog 85 [qA0 sg.enc, qA0 x.enc] (boolV (qr1 sg x)) := by
 obtain ⟨na, le, ri, gu⟩ := x
 simp only [GRule.size, szS] at hx
 have hgl := zQ0 GGuard.size gu
 have hgm := qT0 GGuard.size gu
 have h1 := wE0 na (by omega)
 have h2 := wW0 le (by omega)
 have h3 := wW0 ri (by omega)
 have h4 := bn0 le (by omega)
 have h5 := wD0 sg le.name hk
 obtain ⟨o, ho⟩ : ∃ o, o = (zI0 sg le.name).getD opD := ⟨_, rfl⟩
 rw [← ho] at h5
 have h6 := vQ0 sg hk le (by omega) o.re
 have hcs := kU0 le
 have hvl : (zd0 sg le o.re).1.length < 100000000 := by
  have := kA0 sg le o.re []
  simp only [List.length_nil] at this
  unfold zd0
  split
  ·simp only; omega
  ·simp
 have h7 := wF0 sg hk (zd0 sg le o.re).1 hvl ri (by omega)
 have hv1 := zN0 le
 have hv2 := zN0 ri
 have h8 := qt0 le (by omega)
 have h9 := yJ0 ri (by omega) le.vars (by omega)
 have h10 := fV0 sg hk (zd0 sg le o.re).1 hvl le.vars (by omega) gu (by omega) (fun g hg => by have := hgm g hg; omega)
 obtain ⟨r, hr⟩ : ∃ r, r = qr1 sg ⟨na, le, ri, gu⟩ := ⟨_, rfl⟩
 rw [← hr]
 unfold qr1 at hr
 simp only [← ho] at hr
 generalize mQ0 na = b1 at h1 hr
 generalize le.valid = b2 at h2 hr
 generalize ri.valid = b3 at h3 hr
 generalize le.bi = b4 at h4 hr
 generalize (zI0 sg le.name).isSome = b5 at h5 hr
 generalize zd0 sg le o.re = iv at h6 hvl h7 h10 hr
 generalize ri.sort sg iv.1 = q at h7 hr
 generalize ri.vars.all (vF0 le.vars) = b6 at h9 hr
 generalize (gu.all (jr0 sg iv.1 le.vars) && decide (gu.length ≤ 2)) = b7 at h10 hr
 generalize le.vars = v1 at h8 h9 h10
 have hse : sg.enc = [.sl (sg.so.map encS), .sl (sg.op.map GOp.enc)] := rfl
 obtain ⟨lk, ln, ls, lt⟩ := le
 obtain ⟨rk, rn, rs, rt⟩ := ri
 obtain ⟨ona, oar, ore⟩ := o
 simp only [Tm.kind, Tm.name] at hr h5 h6
 refine soc zE0 zB0 Tryz.func85 ?_
 simp -implicitDefEqProofs only [go_sem, GRule.enc, Tm.enc, zO0, encS, zj0, hse, List.cons_append, List.nil_append]
 refine CallK.mk h1 ?_
 simp -implicitDefEqProofs only [go_sem, List.length_map]
 refine ⟨fun k1 => CallK.mk h2 ?_, fun k1 => by rw [hr, k1]; simp⟩
 simp -implicitDefEqProofs only [go_sem, List.length_map]
 refine ⟨fun k2 => ⟨fun k4 => CallK.mk h4 ?_, fun k4 => by rw [hr]; simp [k4]⟩, fun k2 => by rw [hr, k2]; simp⟩
 have k4 : lk = 2 := by simpa using k4
 subst k4
 simp -implicitDefEqProofs only [go_sem, List.length_map]
 refine ⟨fun k5 => CallK.mk h3 ?_, fun k5 => by rw [hr, k5]; simp⟩
 simp -implicitDefEqProofs only [go_sem, List.length_map]
 refine ⟨fun k3 => by rw [hr, k3]; simp, fun k3 => CallK.mk h5 ?_⟩
 simp -implicitDefEqProofs only [go_sem, GOp.enc, encS, zj0, List.cons_append, List.nil_append]
 refine ⟨fun k6 => by rw [hr, k6]; simp, fun k6 => CallK.mk h6 ?_⟩
 simp -implicitDefEqProofs only [go_sem, List.length_map]
 refine CallK.mk h8 ?_
 have hr : r = (iv.2 && eqS q ore && b6 && b7) := by rw [hr, k1, k2, k3, k5, k6]; simp
 simp -implicitDefEqProofs only [go_sem, List.length_map]
 refine ⟨fun k7 => CallK.mk h7 ?_, fun k7 => by rw [hr, k7]; rfl⟩
 simp -implicitDefEqProofs only [go_sem, List.length_map]
 refine ⟨fun k8 => CallK.mk h9 ?_, fun k8 => ?_⟩
 ·have k8' : eqS q ore = true := by simpa [eqS] using k8
  simp -implicitDefEqProofs only [go_sem, List.length_map]
  refine ⟨fun k9 => by rw [hr, k9]; simp, fun k9 => CallK.mk h10 ?_⟩
  simp -implicitDefEqProofs only [go_sem, List.length_map]
  rw [hr, k7, k8', k9]; rfl
 ·have k8' : eqS q ore = false := k8
  rw [hr, k8']; simp
end Go.Ai
