/- What fires, in the reference. -/
import Derived.Test.YtphclghkljeaeaaGreatAiQ3
set_option linter.unusedVariables false
set_option linter.unusedSimpArgs false
namespace Go.Ai
open Go.Proofs
set_option maxRecDepth 100000
theorem pJ0 (bs : List GBind) (hbl : bs.length < 100000000) (hb : ∀ b, b ∈ bs → b.t.size < 1048577) (ns : List ByteArray) (hl : ns.length < 100000000) : Sat Tryz.prog 254 [slV (bs.map GBind.enc), slV (ns.map encS)] (slV ((jn0 bs (qp0 ns)).map GBind.enc)) := by
 have hs := jL0 ns hl
 have hsl := wt0 ns
 refine soc zE0 zA0 Tryz.func254 ?_
 refine qI0 ?_
 refine CallK.mk hs ?_
 obtain ⟨r, hr⟩ : ∃ r, r = jn0 bs (qp0 ns) := ⟨_, rfl⟩
 rw [← hr]
 generalize qp0 ns = xs at hr hsl
 refine qI0 ?_
 refine zB0 (ι := Nat) (fun i => mk 39 [(0, slV (bs.map GBind.enc)), (5, .one (.own 10 (jn0 bs (xs.take i)).length)), (6, slV (xs.map encS)), (7, zH0 i)] [(10, .arr 261 5 (rowsOf GBind.enc (jn0 bs (xs.take i))) false)])
  (fun i => i ≤ xs.length) (fun i => xs.length - i) 0 (Nat.zero_le _) ?_ zE0 zA0 (by decide +kernel) ?_
 ·exact le_mk (by simp [go_sem, jn0]) (by simp [go_sem, jn0, rowsOf])
 ·intro i hi
  have hln := fQ0 bs (xs.take i)
  rw [List.length_take] at hln
  rcases Nat.lt_or_ge i xs.length with hlt | hge
  ·have hg := zD0 (ec := encS) hlt
   have ht := zO1 bs xs i hlt
   have hf := xX0 bs xs[i] hbl hb
   simp only [encS] at hg
   generalize xs[i] = v at hg ht hf
   refine fD0 ?_
   refine CallK.mk hf ?_
   cases hq : bnd bs v with
   | none =>
    rw [hq] at ht
    simp only [List.append_nil] at ht
    simp -implicitDefEqProofs (disch := omega) only [go_sem, Option.getD_none, Option.isSome_none, zeroT, Tm.enc, Tm.encs, hg, hlt, List.length_map]
    refine ⟨i + 1, hlt, by omega, ?_⟩
    rw [ht]
    exact lek
   | some t =>
    rw [hq] at ht
    obtain ⟨tk, tn, tsn, tts⟩ := t
    simp -implicitDefEqProofs (disch := omega) only [go_sem, Option.getD_some, Option.isSome_some, Tm.enc, hg, hlt, List.length_map]
    refine ⟨⟨by simp, by omega, by omega⟩, fun _ => ⟨i + 1, hlt, by omega, ?_⟩⟩
    simp only at ht
    rw [ht]
    generalize jn0 bs (xs.take i) = acc
    exact le_mk (by simp [go_sem]) (by simp [go_sem]; rw [← rowsOf_app]; rfl)
  ·have : i = xs.length := by omega
   subst this
   simp -implicitDefEqProofs (disch := omega) only [go_sem, Nat.lt_irrefl, List.take_length, List.length_map]
   rw [hr]
theorem xP0 (le t : Tm) (hle : tmOk le) (ht : tmOk t) : Sat Tryz.prog 210 [tmV le, tmV t] (.tup [slV (((le.mat t []).map fun bs => jn0 bs (qp0 (qp0 le.vars))).getD [] |>.map GBind.enc), boolV (le.mat t []).isSome]) := by
 have hm := dR0 le (by have := hle.1; omega) t [] (by have := ht.1; omega) ht.2.2 (by simp) (by have := hle.2.1; simp; omega)
 have hml := xB0 le t []
 have hma := fun (r : List GBind) (hr : le.mat t [] = some r) => px0 (fun t => t.size < 1048577 ∧ t.wf) pZ0 le t [] r hr ⟨by have := ht.1; omega, ht.2.2⟩ (by simp)
 have hv := yy0 le (by have := hle.1; omega)
 have hvl := ql0 le
 have hsl := wt0 le.vars
 have hc := hle.2.1
 have hz := hle.1
 obtain ⟨r, hr⟩ : ∃ r, r = le.mat t [] := ⟨_, rfl⟩
 rw [← hr] at hm hml hma ⊢
 clear hr
 generalize qp0 le.vars = vs at hv hsl
 generalize le.vars = vs0 at hvl hsl
 obtain ⟨k, n, s, ts⟩ := le
 obtain ⟨k2, n2, s2, ts2⟩ := t
 refine soc zE0 zA0 Tryz.func210 ?_
 refine fC0 ?_
 cases r with
 | none =>
  have hm : jF1 Tryz.prog 253 [tmV (.mk k n s ts), tmV (.mk k2 n2 s2 ts2)] [] 261 5 [] [boolV false] := hm
  refine CallK.lost 2 (by decide +kernel) hm ⟨by simp [go_sem], rfl, rfl, rfl⟩ ?_
  refine gC1 ?_
  rfl
 | some bs =>
  have hm : cI0 Tryz.prog 253 [tmV (.mk k n s ts), tmV (.mk k2 n2 s2 ts2)] [] 261 5 [] (rowsOf GBind.enc bs) [boolV true] := hm
  have hrs := pJ0 bs (by have := hml bs rfl; simp at this; omega) (fun b hb => (hma bs rfl b hb).1) vs (by omega)
  refine CallK.accD 2 (by decide +kernel) hm ⟨by simp [go_sem], rfl, rfl, rfl⟩ rfl ?_
  simp -implicitDefEqProofs only [go_sem, List.getElem?_cons_succ, List.getElem?_cons_zero, Tm.enc]
  refine CallK.mk hv ?_
  simp -implicitDefEqProofs only [go_sem, rowsOf_toC]
  refine c8' hrs ?_
  rfl
theorem qV1 : ∀ k n s ts, ((Tm.mk k n s ts).size < 540 ∧ (Tm.mk k n s ts).wf) → ∀ t, t ∈ ts → (t.size < 540 ∧ t.wf) :=
 fun k n s ts h t ht => ⟨by have := zQ0 ts t ht; have := h.1; simp only [Tm.size] at this; omega, (yf0 ts).1 h.2.2.2.2.2 t ht⟩
theorem ru0 (le t : Tm) (ht : tmOk t) (bs : List GBind) (h : le.mat t [] = some bs) : ∀ b, b ∈ bs → b.t.size < 540 ∧ b.t.wf :=
 px0 (fun t => t.size < 540 ∧ t.wf) qV1 le t [] bs h ⟨ht.1, ht.2.2⟩ (by simp)
theorem gsub_ok (bs : List GBind) (hb : ∀ b, b ∈ bs → b.t.size < 540 ∧ b.t.wf) (t : Tm) (h : tmOk t) : (t.sub bs).size < 10000000 ∧ (t.sub bs).wf := by
 have := kz0 bs (fun b hb' => (hb b hb').1) t
 have h1 := h.1
 have h2 := h.2.1
 exact ⟨by omega, yo1 bs (fun b hb' => (hb b hb').2) t h.2.2⟩
theorem specFires_sat (x : GRule) (hx : ruleOk x) (t : Tm) (ht : tmOk t) : Sat Tryz.prog 139 [zn0 x.enc, tmV t] (.tup [slV ((fireS x t).1.map GBind.enc), boolV (fireS x t).2]) := by
 obtain ⟨hle, hri, hgl, hgu⟩ := hx
 have hm := xP0 x.le t hle ht
 have hmo := ru0 x.le t ht
 have hml := xB0 x.le t []
 have hc := hle.2.1
 obtain ⟨r, hr⟩ : ∃ r, r = fireS x t := ⟨_, rfl⟩
 rw [← hr]
 obtain ⟨sb, ok0, hsb, hm2, hr2⟩ : ∃ sb ok0, ((∀ b, b ∈ sb → b.t.size < 540 ∧ b.t.wf) ∧ sb.length < 1000000) ∧ Sat Tryz.prog 210 [tmV x.le, tmV t] (.tup [slV (sb.map GBind.enc), boolV ok0]) ∧ r = (sb, ok0 && x.gu.all fun g => wI0 (g.sub sb)) := by
  unfold fireS at hr
  cases hq : x.le.mat t [] with
  | none =>
   rw [hq] at hm hr
   exact ⟨[], false, ⟨by simp, by simp⟩, hm, hr⟩
  | some bs =>
   rw [hq] at hm hr
   refine ⟨bM0 x bs, true, ⟨fun b hb => ?_, ?_⟩, hm, hr⟩
   ·obtain ⟨b', hb1, hb2⟩ := lO0 bs _ b hb
    rw [← hb2]; exact hmo bs hq b' hb1
   ·have h1 := fQ0 bs (qp0 (qp0 x.le.vars))
    have h2 := wt0 (qp0 x.le.vars)
    have h3 := wt0 x.le.vars
    have h4 := ql0 x.le
    have h5 := hle.1
    unfold bM0
    omega
 clear hmo hml hm hr
 obtain ⟨na, ⟨lk, ln, ls, lt⟩, ⟨rk, rn, rs, rt⟩, gu⟩ := x
 obtain ⟨k2, n2, s2, ts2⟩ := t
 simp only at hm2 hr2 hgl hgu
 refine soc zE0 zA0 Tryz.func139 ?_
 refine gG1 ?_
 refine c0' hm2 ?_
 refine zB0 (ι := Nat × Bool) (fun i => mk 36 [(2, .one (.ptr 2 0)), (6, slV (sb.map GBind.enc)), (7, boolV i.2), (8, zH0 i.1)] [(2, .var [sC na, iC lk, iC ln, sC ls, tC lt, iC rk, iC rn, sC rs, tC rt, .c (.sl (gu.map GGuard.enc))])])
  (fun i => i.1 ≤ gu.length ∧ r = (sb, i.2 && (gu.drop i.1).all fun g => wI0 (g.sub sb))) (fun i => gu.length - i.1) (0, ok0) ⟨Nat.zero_le _, by simpa using hr2⟩ ?_ zE0 zA0 (by decide +kernel) ?_
 ·exact lek
 ·rintro ⟨i, ok⟩ ⟨hi, he⟩
  simp only at hi he
  rcases Nat.lt_or_ge i gu.length with hlt | hge
  ·have hg := zD0 (ec := GGuard.enc) hlt
   rw [wS0 _ gu i hlt] at he
   have hgo := hgu _ (List.getElem_mem hlt)
   generalize gu[i] = g at hg he hgo
   have hap := fg0 sb (by omega) (fun b hb => by have := (hsb.1 b hb).1; omega) g (by have := hgo.1.1; omega) (by have := hgo.2.1; omega)
   have z1 := gsub_ok sb hsb.1 g.le hgo.1
   have z2 := gsub_ok sb hsb.1 g.ri hgo.2
   have hho := dP0 (g.sub sb) z1.1 z2.1 z1.2 z2.2
   generalize wI0 (g.sub sb) = hd at he hho
   generalize g.sub sb = g' at hap hho
   obtain ⟨kd, ⟨glk, gln, gls, glt⟩, ⟨grk, grn, grs, grt⟩⟩ := g
   obtain ⟨kd', ⟨lk', ln', ls', lt'⟩, ⟨rk', rn', rs', rt'⟩⟩ := g'
   simp only [GGuard.enc, Tm.enc, encI, List.cons_append, List.nil_append] at hg
   refine fD0 ?_
   refine ⟨fun h => ?_, fun h => ?_⟩
   ·refine CallK.mk hap ?_
    refine nZ1 ?_
    refine c0' hho ?_
    exact ⟨(i + 1, hd), ⟨hlt, by simp [he, h]⟩, by simp only; omega, lek⟩
   ·rw [he, h]; simp
  ·have e1 : gu.drop i = [] := List.drop_of_length_le hge
   rw [e1] at he
   refine mD0 ?_
   rw [he]; simp
theorem kG0 (d : GDefinition) (hl : d.ru.length < 100000000) (hd : ∀ x, x ∈ d.ru → ruleOk x) (t : Tm) (ht : tmOk t) : Sat Tryz.prog 153 [zn0 d.enc, tmV t] (zH0 (rootI (fun x => (fireS x t).2) d.ru 0)) := by
 have hf := fun x hx => specFires_sat x (hd x hx) t ht
 obtain ⟨p, hp⟩ : ∃ p : GRule → List GBind × Bool, p = fun x => fireS x t := ⟨_, rfl⟩
 have hf : ∀ x, x ∈ d.ru → Sat Tryz.prog 139 [zn0 x.enc, tmV t] (.tup [slV ((p x).1.map GBind.enc), boolV (p x).2]) := by rw [hp]; exact hf
 have e0 : (fun x => (fireS x t).2) = fun x => (p x).2 := by rw [hp]
 rw [e0]
 obtain ⟨r, hr⟩ : ∃ r, r = rootI (fun x => (p x).2) d.ru 0 := ⟨_, rfl⟩
 rw [← hr]
 have hde := dE' d
 rw [hde]
 clear hp e0 hde hd
 obtain ⟨si, ru, st⟩ := d
 simp only at hl hr hf ⊢
 obtain ⟨k2, n2, s2, ts2⟩ := t
 refine soc zE0 zA0 Tryz.func153 ?_
 refine jj0 ?_
 refine zB0 (ι := Nat) (fun i => mk 27 [(2, .one (.ptr 2 0)), (3, .one (.ptr 3 0)), (5, zH0 i)] [(2, .var [.c (.sl (si.so.map encS)), .c (.sl (si.op.map GOp.enc)), .c (.sl (ru.map GRule.enc)), .c (.sl (st.map GStrict.enc))]), (3, .var [iC k2, iC n2, sC s2, tC ts2])])
  (fun i => i ≤ ru.length ∧ rootI (fun x => (p x).2) (ru.drop i) i = r) (fun i => ru.length - i) 0 ⟨Nat.zero_le _, by simp [hr]⟩ ?_ zE0 zA0 (by decide +kernel) ?_
 ·exact lek
 ·rintro i ⟨hi, he⟩
  rcases Nat.lt_or_ge i ru.length with hlt | hge
  ·have hg := zD0 (ec := GRule.enc) hlt
   rw [bx0 _ ru i _ hlt] at he
   have hfx := hf _ (List.getElem_mem hlt)
   generalize ru[i] = x at hg he hfx
   generalize p x = q at he hfx
   obtain ⟨na, ⟨lk, ln, ls, lt⟩, ⟨rk, rn, rs, rt⟩, gu⟩ := x
   simp only [GRule.enc, Tm.enc, encS, encL, List.cons_append, List.nil_append] at hg
   refine fD0 ?_
   refine c0' hfx ?_
   refine ⟨fun h => ?_, fun h => ⟨i + 1, ⟨hlt, ?_⟩, by omega, lek⟩⟩
   ·rw [h, if_pos rfl] at he
    rw [← he]
   ·rw [h, if_neg (by simp)] at he
    rw [← he]; simp
  ·have e1 : ru.drop i = [] := List.drop_of_length_le hge
   rw [e1] at he
   refine mD0 ?_
   rw [← he]; rfl
theorem dl0 (bs : List GBind) (hbl : bs.length < 100000000) (hb : ∀ b, b ∈ bs → b.t.size < 540 ∧ b.t.wf) (gs : List GGuard) (hl : gs.length < 100000000) (hs : ∀ g, g ∈ gs → tmOk g.le ∧ tmOk g.ri) : Sat Tryz.prog 194 [slV (bs.map GBind.enc), slV (gs.map GGuard.enc)] (boolV (gs.all fun g => wI0 (g.sub bs))) := by
 obtain ⟨r, hr⟩ : ∃ r, r = (gs.all fun g => wI0 (g.sub bs)) := ⟨_, rfl⟩
 rw [← hr]
 refine soc zE0 zA0 Tryz.func194 ?_
 refine da0 ?_
 refine zB0 (ι := Nat) (fun i => mk 19 [(0, slV (bs.map GBind.enc)), (7, slV (gs.map GGuard.enc)), (8, zH0 gs.length), (9, zH0 i)] []) (fun i => i ≤ gs.length ∧ r = (gs.drop i).all fun g => wI0 (g.sub bs)) (fun i => gs.length - i) 0 ⟨Nat.zero_le _, by simpa using hr⟩ ?_ zE0 zA0 (by decide +kernel) ?_
 ·exact lek
 ·rintro i ⟨hi, he⟩
  rcases Nat.lt_or_ge i gs.length with hlt | hge
  ·have hg := zD0 (ec := GGuard.enc) hlt
   rw [List.drop_eq_getElem_cons hlt, List.all_cons] at he
   have hgo := hs _ (List.getElem_mem hlt)
   generalize gs[i] = g at hg he hgo
   have hap := (pn0 bs hbl (fun b hb' => by have := (hb b hb').1; omega) g (by have := hgo.1.1; omega) (by have := hgo.2.1; omega)).sat
   have z1 := gsub_ok bs hb g.le hgo.1
   have z2 := gsub_ok bs hb g.ri hgo.2
   have hho := ci0 (g.sub bs) z1.1 z2.1 z1.2 z2.2
   generalize wI0 (g.sub bs) = hd at he hho
   generalize g.sub bs = g' at hap hho
   obtain ⟨kd, ⟨lk, ln, ls, lt⟩, ⟨rk, rn, rs, rt⟩⟩ := g
   obtain ⟨kd', ⟨lk', ln', ls', lt'⟩, ⟨rk', rn', rs', rt'⟩⟩ := g'
   simp only [GGuard.enc, Tm.enc, encI, List.cons_append, List.nil_append] at hg
   refine fD0 ?_
   refine CallK.mk hap ?_
   refine nZ1 ?_
   refine c0' hho ?_
   exact ⟨fun h => by simp [he, h], fun h => ⟨i + 1, ⟨hlt, by simp [he, h]⟩, by omega, lek⟩⟩
  ·have e1 : gs.drop i = [] := List.drop_of_length_le hge
   rw [e1] at he
   refine mD0 ?_
   rw [he]; rfl
def fireT (x : GRule) (t : Tm) : Tm := match fireI x t with
 | some bs => (x.ri.sub bs).red
 | none => zeroT
theorem implFire_sat (d : GDefinition) (hl : d.ru.length < 100000000) (i : Nat) (hi : i < d.ru.length) (hx : ruleOk d.ru[i]) (t : Tm) (ht : tmOk t) : Sat Tryz.prog 120 [zn0 d.enc, zH0 i, tmV t] (.tup [tmV (fireT d.ru[i] t), boolV (fireI d.ru[i] t).isSome]) := by
 have hg := zD0 (ec := GRule.enc) hi
 have hde := dE' d
 rw [hde]
 clear hde
 obtain ⟨si, ru, st⟩ := d
 simp only at hl hi hx hg ⊢
 generalize ru[i] = x at hg hx
 obtain ⟨hle, hri, hgl, hgu⟩ := hx
 have hm := cl0 x.le (by have := hle.1; omega) t [] (by have := ht.1; omega) ht.2.2 (by simp) (by have := hle.2.1; simp; omega)
 have hmo := ru0 x.le t ht
 have hml := xB0 x.le t []
 have hc := hle.2.1
 obtain ⟨r, hr⟩ : ∃ r, r = (AV.tup [tmV (fireT x t), boolV (fireI x t).isSome]) := ⟨_, rfl⟩
 rw [← hr]
 unfold fireT fireI at hr
 generalize hq : x.le.mat t [] = q at hm hr hmo hml
 obtain ⟨na, le, ri, gu⟩ := x
 obtain ⟨k2, n2, s2, ts2⟩ := t
 simp only at hm hr hgl hgu hri
 cases q with
 | none =>
  clear hq
  obtain ⟨lk, ln, ls, lt⟩ := le
  obtain ⟨rk, rn, rs, rt⟩ := ri
  simp only [GRule.enc, Tm.enc, encS, encL, List.cons_append, List.nil_append] at hg
  have hm : jF1 Tryz.prog 193 [tmV (.mk lk ln ls lt), tmV (.mk k2 n2 s2 ts2)] [] 261 5 [] [boolV false] := hm
  refine soc zE0 zA0 Tryz.func120 ?_
  simp -implicitDefEqProofs only [go_sem, Tm.enc, hg, hi, List.length_map]
  refine CallK.lost 2 rfl hm ⟨by simp [go_sem], rfl, rfl⟩ ?_
  refine gC1 ?_
  rw [hr]; rfl
 | some bs =>
  clear hq
  have hbs := hmo bs rfl
  have hbl : bs.length < 1000000 := by
   have h1 : bs.length ≤ 0 + le.cnt := hml bs rfl
   have h2 : le.cnt ≤ 60 := hc
   omega
  have hr0 : ((gu.all fun g => wI0 (g.sub bs)) = false → r = .tup [tmV zeroT, boolV false]) ∧ ((gu.all fun g => wI0 (g.sub bs)) = true → r = .tup [tmV (ri.sub bs).red, boolV true]) := by
   refine ⟨fun h => ?_, fun h => ?_⟩ <;> (rw [hr]; simp only [h]; rfl)
  clear hr
  have hho := dl0 bs (by omega) hbs gu (by omega) hgu
  have hsu := (jU0 bs (by omega) (fun b hb => by have := (hbs b hb).1; omega) ri (by have := hri.1; omega)).sat
  have z1 := gsub_ok bs hbs ri hri
  have hre := (yv0 (ri.sub bs) z1.1).sat
  generalize (gu.all fun g => wI0 (g.sub bs)) = ok at hho hr0
  generalize (ri.sub bs).red = y at hre hr0
  generalize ri.sub bs = y1 at hsu hre
  obtain ⟨lk, ln, ls, lt⟩ := le
  obtain ⟨rk, rn, rs, rt⟩ := ri
  obtain ⟨yk, yn, ys, yt⟩ := y1
  obtain ⟨zk, zn, zs, zt⟩ := y
  simp only [GRule.enc, Tm.enc, encS, encL, List.cons_append, List.nil_append] at hg
  have hm : cI0 Tryz.prog 193 [tmV (.mk lk ln ls lt), tmV (.mk k2 n2 s2 ts2)] [] 261 5 [] (rowsOf GBind.enc bs) [boolV true] := hm
  refine soc zE0 zA0 Tryz.func120 ?_
  simp -implicitDefEqProofs only [go_sem, Tm.enc, hg, hi, List.length_map]
  refine CallK.acc 2 hm ⟨by simp [go_sem], rfl, rfl⟩ rfl ?_
  refine pB1 ?_
  refine CallK.bor hho rfl ?_
  refine zr0 ?_
  refine ⟨fun h => ?_, fun h => ?_⟩
  ·rw [hr0.1 h]; rfl
  ·refine c7' hsu ?_
   refine c7' hre ?_
   rw [hr0.2 h]; rfl
theorem implRootRule_sat (d : GDefinition) (hl : d.ru.length < 100000000) (hd : ∀ x, x ∈ d.ru → ruleOk x) (t : Tm) (ht : tmOk t) : Sat Tryz.prog 148 [zn0 d.enc, tmV t] (zH0 (rootI (fun x => (fireI x t).isSome) d.ru 0)) := by
 have hf := fun i hi => implFire_sat d hl i hi (hd _ (List.getElem_mem hi)) t ht
 obtain ⟨p, hp⟩ : ∃ p : GRule → Option (List GBind), p = fun x => fireI x t := ⟨_, rfl⟩
 obtain ⟨p2, hp2⟩ : ∃ p2 : GRule → Tm, p2 = fun x => fireT x t := ⟨_, rfl⟩
 have hf : ∀ i (hi : i < d.ru.length), Sat Tryz.prog 120 [zn0 d.enc, zH0 i, tmV t] (.tup [tmV (p2 d.ru[i]), boolV (p d.ru[i]).isSome]) := by rw [hp, hp2]; exact hf
 have e0 : (fun x => (fireI x t).isSome) = fun x => (p x).isSome := by rw [hp]
 rw [e0]
 obtain ⟨r, hr⟩ : ∃ r, r = rootI (fun x => (p x).isSome) d.ru 0 := ⟨_, rfl⟩
 rw [← hr]
 have hde := dE' d
 rw [hde] at hf ⊢
 clear hp hp2 e0 hde hd
 obtain ⟨si, ru, st⟩ := d
 simp only at hl hr hf ⊢
 obtain ⟨k2, n2, s2, ts2⟩ := t
 refine soc zE0 zA0 Tryz.func148 ?_
 refine jj0 ?_
 refine zB0 (ι := Nat) (fun i => mk 24 [(2, .one (.ptr 2 0)), (3, .one (.ptr 3 0)), (10, zH0 ru.length), (11, zH0 i)] [(2, .var [.c (.sl (si.so.map encS)), .c (.sl (si.op.map GOp.enc)), .c (.sl (ru.map GRule.enc)), .c (.sl (st.map GStrict.enc))]), (3, .var [iC k2, iC n2, sC s2, tC ts2])])
  (fun i => i ≤ ru.length ∧ rootI (fun x => (p x).isSome) (ru.drop i) i = r) (fun i => ru.length - i) 0 ⟨Nat.zero_le _, by simp [hr]⟩ ?_ zE0 zA0 (by decide +kernel) ?_
 ·exact lek
 ·rintro i ⟨hi, he⟩
  rcases Nat.lt_or_ge i ru.length with hlt | hge
  ·rw [bx0 _ ru i _ hlt] at he
   have hfx := hf i hlt
   generalize (p ru[i]).isSome = q at he hfx
   generalize p2 ru[i] = y at hfx
   obtain ⟨yk, yn, ys, yt⟩ := y
   simp -implicitDefEqProofs (disch := omega) only [go_sem, hlt, List.length_map]
   refine c5' hfx ?_
   refine ⟨fun h => ?_, fun h => ⟨i + 1, ⟨hlt, ?_⟩, by omega, ?_⟩⟩
   ·rw [h, if_pos rfl] at he
    rw [← he]
   ·rw [h, if_neg (by simp)] at he
    rw [← he]; simp
   ·exact lek
  ·have e1 : ru.drop i = [] := List.drop_of_length_le hge
   rw [e1] at he
   refine mD0 ?_
   rw [← he]; rfl
theorem cfg_ok (d : GDefinition) (hw : d.wf) (t : Tm) (htw : t.wf) (h : vK0 d t = true) : (∀ x, x ∈ d.ru → ruleOk x) ∧ tmOk t ∧ ∀ x, x ∈ d.ru → yb0 d.si x = true := by
 simp only [vK0, ra0, Bool.and_eq_true] at h
 have hr := List.all_eq_true.1 h.1.1.1.1.1.1.1.1
 refine ⟨fun x hx => ?_, xT0 t h.1.1.2 htw, hr⟩
 have hb := hr x hx
 simp only [yb0, Bool.and_eq_true, decide_eq_true_eq] at hb
 have hxw : x.wf := hw.2.1.2 x hx
 obtain ⟨⟨⟨⟨⟨⟨⟨⟨⟨_, h2⟩, h3⟩, _⟩, _⟩, h6⟩, _⟩, _⟩, _⟩, h10⟩ := hb
 refine ⟨xT0 x.le h2 hxw.2.1, xT0 x.ri h3 hxw.2.2.1, h6, fun g hg => ?_⟩
 have hgv := List.all_eq_true.1 h10 g hg
 simp only [wz0, Bool.and_eq_true] at hgv
 have hgw := hxw.2.2.2.2 g hg
 exact ⟨xT0 g.le hgv.1.1.1.1.1 hgw.2.1, xT0 g.ri hgv.1.1.1.1.2 hgw.2.2⟩
def sD1 (d : GDefinition) (t : Tm) : Int := if vK0 d t then rootI (fun x => (fireI x t).isSome) d.ru 0 else -1
end Go.Ai
