/- The positions of a term. -/
import Derived.Test.YtgdmjekkdcjipaaGreatAiUN2
import Derived.Test.YtgdmjekkdcjipaaGreatAiUN1
import Derived.Test.YtgdmjekkdcjipaaGreatAiG1
import Derived.Test.YtgdmjekkdcjipaaGreatAiDynE
import Derived.Test.YtgdmjekkdcjipaaGreatAiRow2
set_option linter.unusedVariables false
set_option linter.unusedSimpArgs false
namespace Go.Ai
open Go.Proofs
set_option maxRecDepth 100000
def xm0 (q : List Int) : List C := [.sl (q.map zO0)]
mutual
def Tm.pos : Tm → List (List Int)
 | .mk _ _ _ ts => [] :: Tm.poss ts 0
def Tm.poss : List Tm → Int → List (List Int)
 | [], _ => []
 | a :: ts, i => a.pos.map (i :: ·) ++ Tm.poss ts (i + 1)
end
mutual
theorem cJ0 : ∀ (t : Tm), t.pos.length = t.cnt
 | .mk k n s ts => by simp only [Tm.pos, Tm.cnt, List.length_cons, poss_len ts 0]; omega
theorem poss_len : ∀ (ts : List Tm) (i : Int), (Tm.poss ts i).length = Tm.cnts ts
 | [], _ => rfl
 | a :: ts, i => by simp only [Tm.poss, Tm.cnts, List.length_append, List.length_map, cJ0 a, poss_len ts (i + 1)]
end
theorem cL0 : ∀ (ts us : List Tm) (i : Int), Tm.poss (ts ++ us) i = Tm.poss ts i ++ Tm.poss us (i + ts.length)
 | [], us, i => by simp [Tm.poss]
 | a :: ts, us, i => by
  simp only [List.cons_append, Tm.poss, cL0 ts us (i + 1), List.append_assoc, List.length_cons]
  congr 3; push_cast; omega
theorem gL0 (ts : List Tm) (i : Nat) (h : i < ts.length) : Tm.poss (ts.take (i + 1)) 0 = Tm.poss (ts.take i) 0 ++ ts[i].pos.map ((i : Int) :: ·) := by
 rw [List.take_add_one, List.getElem?_eq_getElem h, Option.toList_some, cL0]
 simp only [Tm.poss, List.append_nil, List.length_take, Nat.min_eq_left (Nat.le_of_lt h)]
 congr 2; simp
theorem wo0 : ∀ (ts : List Tm) (t : Tm), t ∈ ts → t.cnt ≤ Tm.cnts ts
 | [], _, h => by cases h
 | a :: ts, t, h => by
  simp only [Tm.cnts]
  rcases List.mem_cons.1 h with rfl | h
  ·omega
  ·have := wo0 ts t h; omega
theorem zp1 (k n : Int) (s : ByteArray) (ts : List Tm) (hc : (Tm.mk k n s ts).cnt < 10000000) (hl : ts.length < 10000000) (p : List Int) (hp : p.length < 10000000) (ih : ∀ t, t ∈ ts → ∀ j : Int, Sat Tryz.prog 89 [tmV t, slV ((p ++ [j]).map zO0)] (slV ((t.pos.map ((p ++ [j]) ++ ·)).map xm0))) : Sat Tryz.prog 89 [tmV (.mk k n s ts), slV (p.map zO0)] (slV (((Tm.mk k n s ts).pos.map (p ++ ·)).map xm0)) := by
 have hcl := vm0 p (by omega)
 refine svc [(5, ([⟨1, 6, [7], [21, 23]⟩], []))] zE0 zB0 Tryz.func89 ?_
 simp -implicitDefEqProofs (disch := omega) only [go_sem, Tm.enc]
 obtain ⟨R, hR⟩ : ∃ R : Nat → List (List Int), R = fun i => ([] :: Tm.poss (ts.take i) 0).map (p ++ ·) := ⟨_, rfl⟩
 have hR0 : R 0 = [p] := by rw [hR]; simp [Tm.poss]
 have hRe : R ts.length = (Tm.mk k n s ts).pos.map (p ++ ·) := by rw [hR]; simp [Tm.pos]
 have hRl : ∀ i, i ≤ ts.length → (R i).length ≤ (Tm.mk k n s ts).cnt := by
  intro i hi
  rw [hR]
  have h1 : (Tm.poss ts 0).length = (Tm.poss (ts.take i) 0).length + (Tm.poss (ts.drop i) (0 + (ts.take i).length)).length := by rw [← List.length_append, ← cL0, List.take_append_drop]
  rw [poss_len ts] at h1
  simp only [List.length_map, List.length_cons, Tm.cnt]; omega
 have hRs : ∀ i (h : i < ts.length), R (i + 1) = R i ++ ts[i].pos.map ((p ++ [(i : Int)]) ++ ·) := by
  intro i h
  rw [hR]
  simp only [gL0 ts i h, List.map_cons, List.map_append, List.cons_append, List.map_map]
  congr 2
  exact List.map_congr_left (fun q _ => by simp)
 rw [← hRe]
 clear hR
 refine zf0 [(5, ([⟨1, 6, [7], [21, 23]⟩], []))] (ι := Nat) (fun i => mk 29 [(1, slV (p.map zO0)), (2, .one (.ptr 2 0)), (5, .one (.own 9 (R i).length)), (11, yM0 ts), (12, zD0 ts.length), (13, zD0 i)] [(2, .var [iC k, iC n, sC s, tC ts]), (9, .arr 36 1 (rowsOf xm0 (R i)) false)])
  (fun i => i ≤ ts.length) (fun i => ts.length - i) 0 (Nat.zero_le _) ?_ zE0 zB0 (by decide +kernel) ?_
 ·exact zG0 (by simp [go_sem, hR0]) (by simp [go_sem, hR0, rowsOf, xm0])
 ·intro i hi
  rcases Nat.lt_or_ge i ts.length with hlt | hge
  ·have hg := zF0 ts i hlt
   have hih := ih _ (List.getElem_mem hlt) (i : Int)
   have hs' := hRs i hlt
   have hb := hRl (i + 1) hlt
   generalize ts[i] = a at hg hih hs'
   obtain ⟨ak, an, as', at_⟩ := a
   simp only [Tm.enc] at hg
   generalize (Tm.mk ak an as' at_).pos.map ((p ++ [(i : Int)]) ++ ·) = q at hih hs'
   generalize hz : R i = z at hs'
   rw [hs', List.length_append] at hb
   simp -implicitDefEqProofs (disch := omega) only [go_sem, hg, hlt, enc_len, hz]
   refine CallK.outN hcl rfl rfl ?_
   have e1 : rowsOf zO0 p ++ [[iC (i : Int)]] = rowsOf zO0 (p ++ [(i : Int)]) := zq0 (ec := zO0) (i : Int)
   simp -implicitDefEqProofs (disch := omega) only [go_sem, zY0, e1, qL0]
   refine ⟨⟨by simp, by omega, by omega⟩, fun _ => CallK.mk hih ?_⟩
   simp -implicitDefEqProofs (disch := omega) only [go_sem, List.length_map]
   refine ⟨⟨rowsOf_l (fun _ => rfl), by omega, by omega⟩, fun _ => ⟨i + 1, hlt, by omega, ?_⟩⟩
   rw [hs', List.length_append, ← zb0]
   exact zG0 (by simp [go_sem]) (by simp [go_sem, zb0])
  ·have hi : i = ts.length := by omega
   subst hi
   simp -implicitDefEqProofs (disch := omega) only [go_sem, Nat.lt_irrefl, enc_len]
theorem bx0 : ∀ (ts : List Tm), ts.length ≤ Tm.cnts ts
 | [] => Nat.le_refl _
 | .mk _ _ _ _ :: ts => by have := bx0 ts; simp only [Tm.cnts, Tm.cnt, List.length_cons]; omega
theorem mJ0 : ∀ (t : Tm) (p : List Int), p.length + t.cnt < 1000000 → Sat Tryz.prog 89 [tmV t, slV (p.map zO0)] (slV ((t.pos.map (p ++ ·)).map xm0)) := by
 refine Tm.ind (fun k n s ts ih p h => ?_)
 have h0 := bx0 ts
 have h1 : (Tm.mk k n s ts).cnt = Tm.cnts ts + 1 := by simp only [Tm.cnt]; omega
 refine zp1 k n s ts (by omega) (by omega) p (by omega) (fun t ht j => ih t ht _ ?_)
 have : t.cnt ≤ Tm.cnts ts := wo0 ts t ht
 simp only [List.length_append, List.length_cons, List.length_nil]; omega
theorem jz0 (t : Tm) (h : t.cnt < 1000000) : Sat Tryz.prog 36 [tmV t] (slV (t.pos.map xm0)) := by
 have hp := mJ0 t [] (by simpa using h)
 rw [show (t.pos.map fun q => ([] : List Int) ++ q) = t.pos by simp] at hp
 obtain ⟨k, n, s, ts⟩ := t
 refine soc zE0 zB0 Tryz.func36 ?_
 simp -implicitDefEqProofs (disch := omega) only [go_sem, Tm.enc]
 refine CallK.mk hp ?_
 simp -implicitDefEqProofs (disch := omega) only [go_sem]
theorem wC1 (k n : Int) (s : ByteArray) (ts : List Tm) (p : List Int) (acc : List (List Int)) (hc : acc.length + (Tm.mk k n s ts).cnt < 10000000) (hl : ts.length < 10000000) (hp : p.length < 10000000) (ih : ∀ t, t ∈ ts → ∀ (j : Int) (acc2 : List (List Int)), acc2.length + t.cnt < 10000000 → ff0 Tryz.prog 166 [tmV t, slV ((p ++ [j]).map zO0)] [] 36 1 (rowsOf xm0 acc2) (rowsOf xm0 (acc2 ++ t.pos.map ((p ++ [j]) ++ ·))) []) : ff0 Tryz.prog 166 [tmV (.mk k n s ts), slV (p.map zO0)] [] 36 1 (rowsOf xm0 acc) (rowsOf xm0 (acc ++ (Tm.mk k n s ts).pos.map (p ++ ·))) [] := by
 obtain ⟨R, hR⟩ : ∃ R : Nat → List (List Int), R = fun i => acc ++ ([] :: Tm.poss (ts.take i) 0).map (p ++ ·) := ⟨_, rfl⟩
 have hR0 : R 0 = acc ++ [p] := by rw [hR]; simp [Tm.poss]
 have hRe : R ts.length = acc ++ (Tm.mk k n s ts).pos.map (p ++ ·) := by rw [hR]; simp [Tm.pos]
 have hRl : ∀ i, i ≤ ts.length → (R i).length ≤ acc.length + (Tm.cnts (ts.take i) + 1) := by
  intro i hi
  rw [hR]
  simp only [List.length_append, List.length_map, List.length_cons, poss_len]; omega
 have hRs : ∀ i (h : i < ts.length), R (i + 1) = R i ++ ts[i].pos.map ((p ++ [(i : Int)]) ++ ·) := by
  intro i h
  rw [hR]
  simp only [gL0 ts i h, List.map_cons, List.map_append, List.cons_append, List.map_map, List.append_assoc]
  congr 3
  try exact List.map_congr_left (fun q _ => by simp)
 rw [← hRe]
 clear hR
 have hct : ∀ i (h : i < ts.length), acc.length + (Tm.cnts (ts.take i) + 1) + ts[i].cnt < 10000000 := by
  intro i h
  have h1 := jD0 ts i h
  have h2 := wK0 ts (i + 1)
  simp only [Tm.cnt] at hc; omega
 refine ko0 [(5, ([⟨0, 7, [3], [26, 27]⟩, ⟨1, 7, [21], [26, 27]⟩, ⟨3, 7, [22, 23], [26, 27]⟩, ⟨4, 7, [24], [26, 27]⟩, ⟨7, 9, [26, 27], [29]⟩, ⟨0, 10, [3], [28, 30]⟩, ⟨1, 10, [21], [28, 30]⟩, ⟨3, 10, [22, 23], [28, 30]⟩, ⟨4, 10, [24], [28, 30]⟩], []))] zE0 zB0 Tryz.func166 rfl rfl rfl (by decide +kernel) (by decide +kernel) (Nat.le_of_ble_eq_true rfl) (by decide) rfl rowsOf_cl rowsOf_cl rowsOf_noD rowsOf_noD ?_
 simp -implicitDefEqProofs (disch := omega) only [go_sem, Tm.enc]
 refine ⟨⟨rowsOf_l (fun _ => rfl), by omega, by omega⟩, fun _ => ⟨⟨by simp, by omega, by omega⟩, fun _ => ?_⟩⟩
 refine zf0 [(5, ([⟨0, 7, [3], [26, 27]⟩, ⟨1, 7, [21], [26, 27]⟩, ⟨3, 7, [22, 23], [26, 27]⟩, ⟨4, 7, [24], [26, 27]⟩, ⟨7, 9, [26, 27], [29]⟩, ⟨0, 10, [3], [28, 30]⟩, ⟨1, 10, [21], [28, 30]⟩, ⟨3, 10, [22, 23], [28, 30]⟩, ⟨4, 10, [24], [28, 30]⟩], []))] (ι := Nat) (fun i => mk 35 [(1, slV (p.map zO0)), (2, .one (.own 9001 (R i).length)), (3, .one (.ptr 3 0)), (7, zD0 i)] [(3, .var [iC k, iC n, sC s, tC ts]), (9001, .arr 36 1 (rowsOf xm0 (R i)) false)])
  (fun i => i ≤ ts.length) (fun i => ts.length - i) 0 (Nat.zero_le _) ?_ zE0 zB0 (by decide +kernel) ?_
 ·refine (nD0 (l := 9001) (T := 9) (c := 0) (y := p.map zO0) rfl rfl rfl (by simp [zY0]) wi0 (by decide)).trans ?_
  simp only [List.set_cons_succ, List.set_cons_zero]
  have eq1 : rowsOf xm0 acc ++ [[.c (.sl (p.map zO0))]] = rowsOf xm0 (acc ++ [p]) := zq0 (ec := xm0) p
  rw [eq1, hR0]
  exact lek
 ·intro i hi
  rcases Nat.lt_or_ge i ts.length with hlt | hge
  ·have hg := zF0 ts i hlt
   have hle := hct i hlt
   have hll := hRl i (by omega)
   have hs' := hRs i hlt
   have hih := ih _ (List.getElem_mem hlt) (i : Int) (R i) (by omega)
   rw [← hs'] at hih
   clear hs'
   generalize ts[i] = a at hg hih hle
   obtain ⟨ak, an, as', at_⟩ := a
   simp only [Tm.enc] at hg
   have e1 : rowsOf zO0 p ++ [[iC (i : Int)]] = rowsOf zO0 (p ++ [(i : Int)]) := zq0 (ec := zO0) (i : Int)
   simp -implicitDefEqProofs (disch := omega) only [go_sem, hg, hlt, enc_len, e1]
   refine ⟨⟨rowsOf_l (fun _ => rfl), by omega, by omega⟩, fun _ => ⟨⟨by simp, by omega, by omega⟩, fun _ => CallK.accF 2 (by decide +kernel) hih ⟨by simp [zY0], rfl, by simp [zs0, AV.owns, AC.owns]⟩ rfl ?_⟩⟩
   simp -implicitDefEqProofs (disch := omega) only [go_sem, hg, hlt, enc_len, e1]
   refine ⟨i + 1, hlt, by omega, ?_⟩
   generalize R (i + 1) = zs
   refine (zG0 (L' := [(1, slV (p.map zO0)), (2, .one (.own 33 zs.length)), (3, .one (.ptr 3 0)), (7, zD0 (i + 1 : Nat))]) (B' := [(3, .var [iC k, iC n, sC s, tC ts]), (33, .arr 36 1 (rowsOf xm0 zs) false)]) (by simp [go_sem]) (by simp [go_sem])).trans ?_
   refine (zu0 (t := 2) (l := 33) (k := zs.length) 9001 rfl rfl (by simp [zY0]) (by decide) rfl rowsOf_cl rowsOf_noD).trans ?_
   exact lek
  ·have hi : i = ts.length := by omega
   subst hi
   simp -implicitDefEqProofs (disch := omega) only [go_sem, Nat.lt_irrefl, enc_len]
theorem ms0 : ∀ (t : Tm) (p : List Int) (acc : List (List Int)), p.length + t.cnt < 1000000 → acc.length + t.cnt < 10000000 → ff0 Tryz.prog 166 [tmV t, slV (p.map zO0)] [] 36 1 (rowsOf xm0 acc) (rowsOf xm0 (acc ++ t.pos.map (p ++ ·))) [] := by
 refine Tm.ind (fun k n s ts ih p acc h ha => ?_)
 have h0 := bx0 ts
 have h1 : (Tm.mk k n s ts).cnt = Tm.cnts ts + 1 := by simp only [Tm.cnt]; omega
 refine wC1 k n s ts p acc ha (by omega) (by omega) (fun t ht j acc2 h2 => ih t ht _ acc2 ?_ h2)
 have : t.cnt ≤ Tm.cnts ts := wo0 ts t ht
 simp only [List.length_append, List.length_cons, List.length_nil]; omega
theorem kH0 (t : Tm) (h : t.cnt < 1000000) : Sat Tryz.prog 100 [tmV t] (slV (t.pos.map xm0)) := by
 have hp := ms0 t [] [] (by simpa using h) (by simp; omega)
 rw [show ([] ++ t.pos.map fun q => ([] : List Int) ++ q) = t.pos by simp] at hp
 obtain ⟨k, n, s, ts⟩ := t
 refine soc zE0 zB0 Tryz.func100 ?_
 simp -implicitDefEqProofs (disch := omega) only [go_sem, Tm.enc]
 refine CallK.accF 2 (by decide +kernel) hp ⟨rfl, rfl, by simp [zs0, AV.owns, AC.owns]⟩ rfl ?_
 simp -implicitDefEqProofs (disch := omega) only [go_sem]
end Go.Ai
