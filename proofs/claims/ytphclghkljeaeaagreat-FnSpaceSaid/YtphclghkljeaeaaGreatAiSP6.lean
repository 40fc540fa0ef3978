/- Spaces are explored in the program. -/
import Derived.Test.YtphclghkljeaeaaGreatAiSP2
import Derived.Test.YtphclghkljeaeaaGreatAiAccX
set_option linter.unusedVariables false
set_option linter.unusedSimpArgs false
namespace Go.Ai
open Go.Proofs
set_option maxRecDepth 100000
theorem vj1 (t u : Tm) : t.eqb u = u.eqb t := by
 cases h : t.eqb u with
 | true => rw [(yY1 t u).1 h]; exact (Tm.eqb_refl u).symm
 | false =>
  cases h2 : u.eqb t with
  | true => rw [(yY1 u t).1 h2, Tm.eqb_refl] at h; cases h
  | false => rfl
theorem qB1 (u t : Tm) (ht : t.wf) : Sat Tryz.prog 126 [tmV u, .one (.ip t.enc)] (boolV (u.eqb t)) := by
 have he := wT0 t ht u
 rw [vj1] at he
 obtain ⟨k, n, s, ts⟩ := t
 obtain ⟨k', n', s', ts'⟩ := u
 refine soc zE0 zA0 Tryz.func126 ?_
 refine jw0 ?_
 refine CallK.mk he ?_
 simp -implicitDefEqProofs (disch := omega) only [go_sem]
theorem zz1 (ts : List Tm) (hl : ts.length < 1000000) (t : Tm) (ht : t.wf) : Sat Tryz.prog 125 [slV (ts.map Tm.enc), .one (.clo 126 [.ip t.enc])] (zG0 (atI (nS0 t ts 0))) := by
 obtain ⟨r, hr⟩ : ∃ r, r = atI (nS0 t ts 0) := ⟨_, rfl⟩
 rw [← hr]
 refine soc zE0 zA0 Tryz.func125 ?_
 refine bW0 ?_
 refine zB0 (ι := Nat) (fun i => mk 19 [(0, slV (ts.map Tm.enc)), (1, .one (.clo 126 [.ip t.enc])), (7, zG0 ts.length), (8, zG0 i)] []) (fun i => i ≤ ts.length ∧ r = atI (nS0 t (ts.drop i) i)) (fun i => ts.length - i) 0 ⟨Nat.zero_le _, by simpa using hr⟩ ?_ zE0 zA0 (by decide +kernel) ?_
 ·exact lek
 ·rintro i ⟨hi, hr⟩
  rcases Nat.lt_or_ge i ts.length with hlt | hge
  ·have hg := zD0 (ec := Tm.enc) hlt
   rw [List.drop_eq_getElem_cons hlt] at hr
   simp only [nS0] at hr
   have hs := qB1 ts[i] t ht
   generalize ts[i] = m at hg hr hs
   generalize m.eqb t = b at hs hr
   obtain ⟨k, n, s, us⟩ := m
   simp only [Tm.enc] at hg
   refine xF0 ?_
   refine SelfK.mk hs rfl ?_
   refine wj0 ?_
   refine ⟨fun h => ?_, fun h => ⟨i + 1, ⟨hlt, ?_⟩, by omega, lek⟩⟩
   ·rw [hr, h]; rfl
   ·rw [hr, h]; rfl
  ·have : i = ts.length := by omega
   subst this
   rw [List.drop_length] at hr
   refine ru0 ?_
   exact hr.symm
theorem fR0 (ts : List Tm) (hl : ts.length < 1000000) (t : Tm) (ht : t.wf) : Sat Tryz.prog 57 [slV (ts.map Tm.enc), tmV t] (zG0 (atI (nS0 t ts 0))) := by
 have h := zz1 ts hl t ht
 generalize atI (nS0 t ts 0) = r at h ⊢
 obtain ⟨k, n, s, us⟩ := t
 refine soc zE0 zA0 Tryz.func57 ?_
 refine jw0 ?_
 refine CloK.mk h rfl trivial (by simp [go_sem]) rfl ?_
 simp -implicitDefEqProofs (disch := omega) only [go_sem]
theorem dZ0 (d : GDefinition) (n k : Nat) (y : GSpace) (u : Tm) (hu : y.te[k]? = some u) : qG0 d (n + 1) k y = qG0 d n (k + 1) (yV0 d k u (yt0 d u) y) := by
 conv => lhs; unfold qG0
 rw [hu]
theorem fL0 (d : GDefinition) (hw : d.wf) (hs : d.size < 1048577) (t : Tm) (htw : t.wf) (ht : t.size < 1048577) (hcf : yu0 d t = true) :
  Sat Tryz.prog 10 [zz0 d.enc, tmV t] (zz0 (qR0 d t).enc) := by
 have hcs := fI0 d hs t (by omega)
 rw [hcf] at hcs
 have hcp := fun u hu => (vM0 u hu).sat
 have hc := py0 d hw t htw hcf
 have hl := qB0 GRule.size d.ru
 have hl2 := qB0 GStrict.size d.st
 have hs' := hs
 simp only [GDefinition.size] at hs'
 have hok := hc.2.2.2
 have hst := hc.2.2.1
 have hall : ∀ u, kO0 d u → Sat Tryz.prog 55 [zz0 d.enc, tmV u, .one (.c (.sl []))] (slV ((yt0 d u).map kg0)) := fun u hu => by
  have h1 := (rQ0 d (by have := hc.1; omega) (by omega) hc.2.1 (fun x hx => (hok x hx).1) u hu.1 (vS0 d hst u hu) [] (by have := hu.1.1; simp; omega)).sat
  have e : tG0 [] = kg0 := by funext q; simp [tG0, kg0]
  rw [e] at h1
  exact h1
 have hdo : ∀ u, kO0 d u → ∀ q, q ∈ yt0 d u → Sat Tryz.prog 56 [zz0 d.enc, tmV u, .agg [iC q.1, .c (.sl (q.2.map encI))]] (.tup [tmV (doB d u q), boolV (doB d u q).valid]) := fun u hu q hq =>
  zx1 d (by omega) (fun x hx => (hok x hx).1) u (by have := hu.1.1; omega) q (wX0 d hst u hu q hq)
 have hdw : ∀ u, kO0 d u → ∀ q, q ∈ yt0 d u → (doB d u q).wf ∧ (doB d u q).size < 100000000 := fun u hu q hq => by
  have hr := wX0 d hst u hu q hq
  exact ⟨xy1 d (fun x hx => (hok x hx).1) u hu.1.2.2 q hr, by have := ve1 d (fun x hx => (hok x hx).1) u q hr; have := hu.1.1; omega⟩
 have hway : ∀ k u y, Inv d t k u [] y → y.te[k]? = some u → ∀ i, i ≤ (yt0 d u).length → Inv d t k u ((yt0 d u).take i) (yV0 d k u ((yt0 d u).take i) y) ∧ (yV0 d k u ((yt0 d u).take i) y).te[k]? = some u := by
  intro k u y hi hu i hle
  have := dr0 d hok hst t k u ((yt0 d u).take i) [] y hi hu (fun q hq => List.mem_of_mem_take hq)
  simpa using this
 have hnext := fun k u y h1 h2 => dt0 d hok hst hc.1 hc.2.1 t k u t y h1 h2
 have hlq : ∀ u, kO0 d u → (yt0 d u).length ≤ 960 := fun u hu => pZ0 d hc.1 hc.2.1 hst u hu
 have hinv : Inv d t 0 t [] ⟨[t], [], true⟩ := by
  obtain ⟨hg, hst⟩ := vR0 d hw t htw hcf
  refine ⟨rfl, by simp, fun v hv => (List.mem_singleton.1 hv) ▸ hg, fun v hv => (List.mem_singleton.1 hv) ▸ hcf, fun m hm => (List.not_mem_nil hm).elim, by simp, fun _ => ⟨fun i v hi => by omega, fun q hq => (List.not_mem_nil hq).elim⟩, fun j hj hl => ?_⟩
  simp only [List.length_singleton] at hl
  omega
 obtain ⟨X, hX⟩ : ∃ X, X = qR0 d t := ⟨_, rfl⟩
 rw [← hX]
 unfold qR0 at hX
 rw [if_pos hcf] at hX
 have hcp0 := hcp t (by omega)
 obtain ⟨t0, ht0⟩ : ∃ t0, t0 = t := ⟨_, rfl⟩
 rw [← ht0] at hway hnext hinv hX
 clear hok hst hc hcf htw hw hs hs' hl hl2
 obtain ⟨⟨so, op⟩, ru, st⟩ := d
 obtain ⟨tk, tn, tz, ta⟩ := t
 have hde : (⟨⟨so, op⟩, ru, st⟩ : GDefinition).enc = [.sl (so.map encS), .sl (op.map GOp.enc), .sl (ru.map GRule.enc), .sl (st.map GStrict.enc)] := rfl
 obtain ⟨dd, hdd⟩ : ∃ dd : GDefinition, dd = ⟨⟨so, op⟩, ru, st⟩ := ⟨_, rfl⟩
 rw [← hdd] at hall hdo hdw hway hnext hlq hinv hX
 rw [← hdd] at hde
 refine soc zE0 zA0 Tryz.func10 ?_
 rw [← hdd]
 refine fQ1 ?_
 rw [← hdd] at hcs
 rw [hde] at hcs
 refine CallK.mk hcs ?_
 refine fQ1 ?_
 refine CallK.mk hcp0 ?_
 refine fQ1 ?_
 refine zB0 (ι := Nat × GSpace) (fun p => mk 90 [(2, .one (.ptr 2 0)), (4, .one (.ptr 4 0)), (5, .one (.ptr 5 0)), (6, zG0 p.1)] [(2, .var [.c (.sl (so.map encS)), .c (.sl (op.map GOp.enc)), .c (.sl (ru.map GRule.enc)), .c (.sl (st.map GStrict.enc))]), (4, .var [.nil, .nil, .c (.v (.bool false))]), (5, .var [.own 19 p.2.te.length, .own 9102 p.2.mo.length, .c (.v (.bool p.2.fu))]), (19, teR p.2), (9102, moR p.2)])
  (fun p => p.1 ≤ 41 ∧ Inv dd t0 p.1 t0 [] p.2 ∧ X = qG0 dd (41 - p.1) p.1 p.2) (fun p => 41 - p.1) (0, ⟨[t0], [], true⟩) ⟨Nat.zero_le _, hinv, hX⟩ ?_ zE0 zA0 (by decide +kernel) ?_
 ·subst ht0
  exact (vj0 5 1 9102 104 4 (by simp [zJ0]; rfl) (by simp) (by simp [zJ0]) (by decide)).trans (le_mk (by simp [go_sem]) (by simp [go_sem, rowsOf, Tm.enc]))
 ·rintro ⟨k, y⟩ ⟨hk, hi, hX⟩
  simp only at hk hi hX ⊢
  have hlen := hi.len
  rcases Nat.lt_or_ge k y.te.length with hlt | hge
  ·have hu : y.te[k]? = some y.te[k] := List.getElem?_eq_getElem hlt
   obtain ⟨u, hue⟩ : ∃ u, u = y.te[k] := ⟨_, rfl⟩
   rw [← hue] at hu
   have hgu := hi.good u (List.mem_of_getElem? hu)
   have hi0 : Inv dd t0 k u [] y := { hi with full := fun hf => ⟨(hi.full hf).1, fun q hq => (List.not_mem_nil hq).elim⟩ }
   have hal := hall u hgu
   have hdo := hdo u hgu
   have hdw := hdw u hgu
   have hlq := hlq u hgu
   have hway := hway k u y hi0 hu
   have hn := hnext k u y hi hu
   have he := dZ0 dd (40 - k) k y u hu
   rw [show 40 - k + 1 = 41 - k by omega] at he
   rw [he] at hX
   have hrow : (rowsOf Tm.enc y.te).getD k [] = u.enc.map .c := by
    simp [rowsOf, List.getD_eq_getElem?_getD, List.getElem?_map, hu]
   obtain ⟨L, hL⟩ : ∃ L, L = yt0 dd u := ⟨_, rfl⟩
   have hstep := gs0 dd k u L y
   rw [← hL] at hal hdo hdw hlq hway hn hX
   have hk' : k < 41 := by omega
   clear hi hi0 hL hue hall hnext
   obtain ⟨uk, un, uz, ua⟩ := u
   simp only [Tm.enc, List.map_cons, List.map_nil] at hrow
   rw [hde] at hal hdo
   simp -implicitDefEqProofs (disch := omega) only [go_sem, hlt, hrow]
   refine CallK.mk hal ?_
   simp -implicitDefEqProofs (disch := omega) only [go_sem, hlt, hrow, List.length_map]
   refine zB0 (ι := Nat) (fun i => mk 90 [(2, .one (.ptr 2 0)), (4, .one (.ptr 4 0)), (5, .one (.ptr 5 0)), (6, zG0 k), (34, slV (L.map kg0)), (35, zG0 L.length), (36, zG0 i)] [(2, .var [.c (.sl (so.map encS)), .c (.sl (op.map GOp.enc)), .c (.sl (ru.map GRule.enc)), .c (.sl (st.map GStrict.enc))]), (4, .var [.nil, .nil, .c (.v (.bool false))]), (5, .var [.own 19 (yV0 dd k (.mk uk un uz ua) (L.take i) y).te.length, .own 9102 (yV0 dd k (.mk uk un uz ua) (L.take i) y).mo.length, .c (.v (.bool (yV0 dd k (.mk uk un uz ua) (L.take i) y).fu))]), (19, teR (yV0 dd k (.mk uk un uz ua) (L.take i) y)), (9102, moR (yV0 dd k (.mk uk un uz ua) (L.take i) y))])
    (fun i => i ≤ L.length) (fun i => L.length - i) 0 (Nat.zero_le _) ?_ zE0 zA0 (by decide +kernel) ?_
   ·exact le_mk (by simp [go_sem, yV0]) (by simp [go_sem, yV0])
   ·intro i hi
    obtain ⟨hin, w1⟩ := hway i hi
    rcases Nat.lt_or_ge i L.length with hlt | hge
    ·have hst2 := hstep i hlt
     have hmem := List.getElem_mem hlt
     have hq := hdo L[i] hmem
     obtain ⟨hvw, hvs⟩ := hdw L[i] hmem
     have hg := zD0 (ec := kg0) hlt
     simp only [kg0] at hg
     have w2 := hin.len
     have w4 := hin.mlen
     have w5 : (L.take i).length ≤ 960 := by rw [List.length_take]; omega
     clear hin
     generalize hyy : yV0 dd k (.mk uk un uz ua) (L.take i) y = z at w1 w2 w4 hst2 ⊢
     obtain ⟨zte, zmo, zfu⟩ := z
     simp only at w1 w2 w4
     generalize hzz : yV0 dd k (.mk uk un uz ua) (L.take (i + 1)) y = z' at hst2
     have hyrow : (rowsOf Tm.enc zte).getD k [] = [iC uk, iC un, sC uz, .c (.sl (Tm.encs ua))] := by
      simp [rowsOf, List.getD_eq_getElem?_getD, List.getElem?_map, w1, Tm.enc]
     have hky : k < zte.length := (List.getElem?_eq_some_iff.1 w1).1
     unfold xS0 at hst2
     have hat := fR0 zte (by omega) (doB dd (.mk uk un uz ua) L[i]) hvw
     have hcp1 := hcp (doB dd (.mk uk un uz ua) L[i]) hvs
     generalize (doB dd (.mk uk un uz ua) L[i]).valid = bv at hst2 hq
     generalize doB dd (.mk uk un uz ua) L[i] = v at hst2 hq hat hcp1
     generalize nS0 v zte 0 = o at hst2 hat
     generalize L[i] = q at hst2 hq hg
     obtain ⟨qr, qp⟩ := q
     obtain ⟨vk, vn, vz, va⟩ := v
     simp only at hg hq
     simp -implicitDefEqProofs (disch := omega) only [go_sem, hky, hlt, hyrow, hg, List.length_map]
     refine CallK.mk hq ?_
     cases bv with
     | false =>
      simp only [Bool.false_eq_true, if_false] at hst2
      subst hst2
      simp -implicitDefEqProofs (disch := omega) only [go_sem, hky, hlt, hyrow, hg, List.length_map, Tm.enc]
      exact tS1
     | true =>
      simp only [if_true] at hst2
      simp -implicitDefEqProofs (disch := omega) only [go_sem, hky, hlt, hyrow, hg, List.length_map, Tm.enc]
      refine CallK.bor hat rfl ?_
      cases o with
      | some j =>
       simp only at hst2
       subst hst2
       have h0 : ¬ ((j : Int) < 0) := by omega
       simp only [atI]
       simp -implicitDefEqProofs (disch := omega) only [go_sem, hky, hlt, hyrow, hg, h0, List.length_map]
       refine ⟨⟨by simp, by omega, by omega⟩, fun _ => ⟨i + 1, by omega, by omega, ?_⟩⟩
       rw [hzz]
       exact tO1
      | none =>
       simp only at hst2
       simp only [atI]
       by_cases hl40 : zte.length = 40
       ·rw [if_pos hl40] at hst2
        subst hst2
        have h4 : (((zte.length : Nat) : Int) == 40) = true := by simp [hl40]
        refine tC1 ?_
        refine ⟨i + 1, by omega, by omega, ?_⟩
        rw [hzz]
        exact lek
       ·rw [if_neg hl40] at hst2
        subst hst2
        have h4 : (((zte.length : Nat) : Int) == 40) = false := by simp; omega
        refine tC1 ?_
        refine CallK.mk hcp1 ?_
        refine zb2 ?_
        have hlast : ∀ X : List AC, (rowsOf Tm.enc zte ++ [X]).getD zte.length [] = X := fun X => by simp [rowsOf, List.getD]
        refine ⟨⟨by simp, by omega, by omega⟩, fun _ => ⟨⟨by simp, by omega, by omega⟩, fun _ => ⟨i + 1, by omega, by omega, ?_⟩⟩⟩
        rw [hzz]
        exact tN1
    ·have : i = L.length := by omega
     subst this
     rw [List.take_length]
     refine ru0 ?_
     exact ⟨(k + 1, yV0 dd k (.mk uk un uz ua) L y), ⟨by omega, hn, by rw [hX, show 40 - k = 41 - (k + 1) by omega]⟩, by simp only; omega, lek⟩
  ·rw [pz0 dd _ _ _ hge] at hX
   subst hX
   refine xG1 ?_
   rfl
end Go.Ai
