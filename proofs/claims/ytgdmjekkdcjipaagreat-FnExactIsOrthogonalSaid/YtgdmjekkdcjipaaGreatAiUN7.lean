/- SortNames and VarsOfTerm of the reference: the result is a row of one's own. Written by mk51.py. -/
import Derived.Test.YtgdmjekkdcjipaaGreatAiUN6
import Derived.Test.YtgdmjekkdcjipaaGreatAiOutV
set_option linter.unusedVariables false
set_option linter.unusedSimpArgs false
namespace Go.Ai
open Go.Proofs
set_option maxRecDepth 100000
theorem fc0 (xs : List ByteArray) (hl : xs.length < 100000000) : SatO Tryz.prog 169 [slV (xs.map encS)] 9 1 (rowsOf encS (zr0 xs)) (.one (.own 0 (zr0 xs).length)) := by
 obtain ⟨r, hr⟩ : ∃ r, r = zr0 xs := ⟨_, rfl⟩
 rw [← hr]
 refine yn0 [(9, ([], [1003])), (11, ([], [1003]))] [.one (.own 0 r.length)] rfl (by simp) zE0 zB0 Tryz.func169 rfl rfl rfl (by decide +kernel) (by decide +kernel) (Nat.le_of_ble_eq_true rfl) (by decide) rowsOf_cl rowsOf_noD rfl ?_
 simp -implicitDefEqProofs (disch := omega) only [go_sem]
 refine zf0 [(9, ([], [1003])), (11, ([], [1003]))] (ι := Nat) (fun i => mk 64 [(0, slV (xs.map encS)), (3, .one (.own 9100 ((xs.take i).foldl zP0 []).length)), (4, zD0 i)] [(9100, .arr 9 1 (rowsOf encS ((xs.take i).foldl zP0 [])) false)]) (fun i => i ≤ xs.length) (fun i => xs.length - i) 0 (Nat.zero_le _) ?_ zE0 zB0 (by decide +kernel) ?_
 ·refine (zu0 (t := 3) (l := 7) (k := 0) 9100 rfl rfl rfl (by decide) rfl (rowsOf_cl (ec := encS) (xs := [])) (rowsOf_noD (ec := encS) (xs := []))).trans ?_
  exact zG0 (by simp [go_sem]) (by simp [go_sem, rowsOf])
 ·intro i hi
  have hfl := wC0 (xs.take i) []
  simp only [List.length_take, List.length_nil] at hfl
  rcases Nat.lt_or_ge i xs.length with hlt | hge
  ·have hg := zC0 (ec := encS) hlt
   have hst := jF0 xs i hlt
   generalize (xs.take i).foldl zP0 [] = out at hfl hst
   generalize xs[i] = x at hg hst
   simp only [encS] at hg
   have hp := cI0 x out
   simp -implicitDefEqProofs (disch := omega) only [go_sem, hg, hlt, List.length_map]
   refine zf0 [(9, ([], [1003])), (11, ([], [1003]))] (ι := Nat) (fun j => mk 64 [(0, slV (xs.map encS)), (3, .one (.own 9100 out.length)), (4, zD0 i), (5, zD0 j)] [(9100, .arr 9 1 (rowsOf encS out) false)]) (fun j => j + fK0 x (out.drop j) = fK0 x out ∧ j ≤ out.length) (fun j => out.length - j) 0 ⟨by simp, Nat.zero_le _⟩ ?_ zE0 zB0 (by decide +kernel) ?_
   ·exact lek
   ·rintro j ⟨hj, hjl⟩
    rcases Nat.lt_or_ge j out.length with hlt2 | hge2
    ·have hg2 := vc0 (ec := encS) hlt2
     rw [gJ0 x out j hlt2] at hj
     have hd : zP0 out x = if (ltS out[j] x) then zP0 out x else (if eqS out[j] x then out else out.take j ++ x :: out.drop j) := by
      split
      ·rfl
      ·rename_i hn
       rw [if_neg hn, Nat.add_zero] at hj
       unfold zP0
       rw [← hj, List.drop_eq_getElem_cons hlt2]
     generalize out[j] = y at hg2 hj hd
     simp only [encS, List.map_cons, List.map_nil] at hg2
     simp -implicitDefEqProofs (disch := omega) only [go_sem, hg, hg2, hlt, hlt2, List.length_map, xn0, kl0, xj0, ← List.map_take, ← List.map_drop, List.length_take, List.length_drop]
     refine ⟨fun h1 => ⟨j + 1, ⟨?_, hlt2⟩, by omega, lek⟩, fun h1 => ⟨fun h2 => ⟨i + 1, hlt, by omega, ?_⟩, fun h2 => ?_⟩⟩
     ·rw [if_pos h1] at hj; omega
     ·have h2' : eqS y x = true := by simpa [eqS] using h2
      rw [if_neg (by rw [ltS, h1]; simp), if_pos h2'] at hd
      rw [hst, hd]
      exact lek
     ·have h2' : eqS y x = false := h2
      rw [if_neg (by rw [ltS, h1]; simp), if_neg (by rw [h2']; simp)] at hd
      exact ⟨hjl, fun _ => ⟨⟨by omega, by omega⟩, fun _ => ⟨⟨by omega, by omega⟩, fun _ => ⟨hjl, fun _ => ⟨⟨by omega, by omega⟩, fun _ => ⟨i + 1, hlt, by omega, by
      rw [hst, hd]
      refine (zG0 (L' := [(0, slV (xs.map encS)), (3, .one (.own 46 (rowsOf encS (out.take j ++ x :: out.drop j)).length)), (4, zD0 (i + 1 : Nat))]) (B' := [(46, .arr 9 1 (rowsOf encS (out.take j ++ x :: out.drop j)) false)]) (by simp [go_sem]; omega) (by simp [go_sem]; simp [rowsOf, encS])).trans ?_
      refine (zu0 (t := 3) (l := 46) (k := (rowsOf encS (out.take j ++ x :: out.drop j)).length) 9100 rfl rfl rfl (by decide) rfl rowsOf_cl rowsOf_noD).trans ?_
      exact zG0 (by simp [go_sem, zY0]) (by simp [go_sem])⟩⟩⟩⟩⟩⟩
    ·have e1 : out.drop j = [] := List.drop_of_length_le hge2
     rw [e1] at hj
     have hd : zP0 out x = out.take j ++ x :: out.drop j := by
      unfold zP0
      have : fK0 x out = j := by simp [fK0] at hj; omega
      rw [this, e1]
     simp -implicitDefEqProofs (disch := omega) only [go_sem, hg, hlt, Nat.not_lt.2 hge2, List.length_map, xn0, kl0, xj0, ← List.map_take, ← List.map_drop, List.length_take, List.length_drop]
     exact ⟨hjl, fun _ => ⟨⟨by omega, by omega⟩, fun _ => ⟨⟨by omega, by omega⟩, fun _ => ⟨hjl, fun _ => ⟨⟨by omega, by omega⟩, fun _ => ⟨i + 1, hlt, by omega, by
     rw [hst, hd]
     refine (zG0 (L' := [(0, slV (xs.map encS)), (3, .one (.own 46 (rowsOf encS (out.take j ++ x :: out.drop j)).length)), (4, zD0 (i + 1 : Nat))]) (B' := [(46, .arr 9 1 (rowsOf encS (out.take j ++ x :: out.drop j)) false)]) (by simp [go_sem]; omega) (by simp [go_sem]; simp [rowsOf, encS])).trans ?_
     refine (zu0 (t := 3) (l := 46) (k := (rowsOf encS (out.take j ++ x :: out.drop j)).length) 9100 rfl rfl rfl (by decide) rfl rowsOf_cl rowsOf_noD).trans ?_
     exact zG0 (by simp [go_sem, zY0]) (by simp [go_sem])⟩⟩⟩⟩⟩⟩
  ·have : i = xs.length := by omega
   subst this
   rw [List.take_length] at hfl ⊢
   have : xs.foldl zP0 [] = r := by rw [hr]; rfl
   rw [this]
   simp -implicitDefEqProofs (disch := omega) only [go_sem, Nat.lt_irrefl, List.length_map]
theorem gl0 (t : Tm) (h : t.size < 80000000) : SatO Tryz.prog 104 [tmV t] 9 1 (rowsOf encS (zr0 t.vars)) (.one (.own 0 (zr0 t.vars).length)) := by
 have hv := zN0 t
 have hs := vU0 t [] (by simpa using (by omega : t.size < 90000000))
 rw [List.nil_append] at hs
 have hn := fc0 t.vars (by omega)
 generalize t.vars = vs at hv hs hn
 generalize zr0 vs = r at hn
 obtain ⟨k, n, s, ts⟩ := t
 refine yn0 [] [.one (.own 0 r.length)] rfl (by simp) zE0 zB0 Tryz.func104 rfl rfl rfl (by decide +kernel) (by decide +kernel) (Nat.le_of_ble_eq_true rfl) (by decide) rowsOf_cl rowsOf_noD rfl ?_
 simp -implicitDefEqProofs (disch := omega) only [go_sem, Tm.enc]
 refine CallK.acc 1 hs ⟨rfl, rfl, rfl, rfl⟩ rfl ?_
 simp -implicitDefEqProofs (disch := omega) only [go_sem, List.getElem?_cons_succ, List.getElem?_cons_zero, qL0]
 refine CallK.out hn rfl ?_
 simp -implicitDefEqProofs (disch := omega) only [go_sem]
theorem dp0 (t : Tm) (h : t.size < 80000000) : SatO Tryz.prog 93 [tmV t] 9 1 (rowsOf encS (qh0 t.vars)) (.one (.own 0 (qh0 t.vars).length)) := by
 have hv := zN0 t
 have hs := qt0 t h
 have hn := fX0 t.vars (by omega)
 generalize t.vars = vs at hv hs hn
 generalize qh0 vs = r at hn
 obtain ⟨k, n, s, ts⟩ := t
 refine yn0 [] [.one (.own 0 r.length)] rfl (by simp) zE0 zB0 Tryz.func93 rfl rfl rfl (by decide +kernel) (by decide +kernel) (Nat.le_of_ble_eq_true rfl) (by decide) rowsOf_cl rowsOf_noD rfl ?_
 simp -implicitDefEqProofs (disch := omega) only [go_sem, Tm.enc]
 refine CallK.mk hs ?_
 simp -implicitDefEqProofs (disch := omega) only [go_sem]
 refine CallK.out hn rfl ?_
 simp -implicitDefEqProofs (disch := omega) only [go_sem]
end Go.Ai
