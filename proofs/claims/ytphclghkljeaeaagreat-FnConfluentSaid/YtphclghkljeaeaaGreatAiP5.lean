/- What fires, in the reference. -/
import Derived.Test.YtphclghkljeaeaaGreatAiQ3
set_option linter.unusedVariables false
set_option linter.unusedSimpArgs false
namespace Go.Ai
open Go.Proofs
set_option maxRecDepth 100000
theorem pn0 (bs : List GBind) (hbl : bs.length < 100000000) (hb : ∀ b, b ∈ bs → b.t.size < 1048577) (ns : List ByteArray) (hl : ns.length < 100000000) : Sat Tryz.prog 254 [slV (bs.map GBind.enc), slV (ns.map encS)] (slV ((kG0 bs (qp0 ns)).map GBind.enc)) := by
 have hs := ja0 ns hl
 have hsl := yE0 ns
 refine soc zF0 zB0 Tryz.func254 ?_
 refine yQ0 ?_
 refine CallK.mk hs ?_
 obtain ⟨r, hr⟩ : ∃ r, r = kG0 bs (qp0 ns) := ⟨_, rfl⟩
 rw [← hr]
 generalize qp0 ns = xs at hr hsl
 refine yQ0 ?_
 refine zC0 (ι := Nat) (fun i => mk 39 [(0, slV (bs.map GBind.enc)), (5, .one (.own 10 (kG0 bs (xs.take i)).length)), (6, slV (xs.map encS)), (7, zG0 i)] [(10, .arr 261 5 (zA0 GBind.enc (kG0 bs (xs.take i))) false)])
  (fun i => i ≤ xs.length) (fun i => xs.length - i) 0 (Nat.zero_le _) ?_ zF0 zB0 (by decide +kernel) ?_
 ·exact zM0 (by simp [go_sem, kG0]) (by simp [go_sem, kG0, zA0])
 ·intro i hi
  have hln := bK0 bs (xs.take i)
  rw [List.length_take] at hln
  rcases Nat.lt_or_ge i xs.length with hlt | hge
  ·have hg := zE0 (ec := encS) hlt
   have ht := wP1 bs xs i hlt
   have hf := xu0 bs xs[i] hbl hb
   simp only [encS] at hg
   generalize xs[i] = v at hg ht hf
   refine pi0 ?_
   refine CallK.mk hf ?_
   cases hq : bnd bs v with
   | none =>
    rw [hq] at ht
    simp only [List.append_nil] at ht
    simp -implicitDefEqProofs (disch := omega) only [go_sem, Option.getD_none, Option.isSome_none, qS0, Tm.enc, Tm.encs, hg, hlt, List.length_map]
    refine ⟨i + 1, hlt, by omega, ?_⟩
    rw [ht]
    exact lek
   | some t =>
    rw [hq] at ht
    obtain ⟨tk, tn, tsn, tts⟩ := t
    simp -implicitDefEqProofs (disch := omega) only [go_sem, Option.getD_some, Option.isSome_some, Tm.enc, hg, hlt, List.length_map]
    refine ⟨⟨by simp, by omega, by omega⟩, fun _ => ⟨i + 1, hlt, by omega, ?_⟩⟩
    simp only at ht
    rw [ht]
    generalize kG0 bs (xs.take i) = acc
    exact zM0 (by simp [go_sem]) (by simp [go_sem]; rw [← wG0]; rfl)
  ·have : i = xs.length := by omega
   subst this
   simp -implicitDefEqProofs (disch := omega) only [go_sem, Nat.lt_irrefl, List.take_length, List.length_map]
   rw [hr]
theorem xl0 (le t : Tm) (hle : vO0 le) (ht : vO0 t) : Sat Tryz.prog 210 [tmV le, tmV t] (.tup [slV (((le.mat t []).map fun bs => kG0 bs (qp0 (qp0 le.vars))).getD [] |>.map GBind.enc), boolV (le.mat t []).isSome]) := by
 have hm := gx0 le (by have := hle.1; omega) t [] (by have := ht.1; omega) ht.2.2 (by simp) (by have := hle.2.1; simp; omega)
 have hml := xV0 le t []
 have hma := fun (r : List GBind) (hr : le.mat t [] = some r) => fq0 (fun t => t.size < 1048577 ∧ t.wf) fL0 le t [] r hr ⟨by have := ht.1; omega, ht.2.2⟩ (by simp)
 have hv := jM0 le (by have := hle.1; omega)
 have hvl := qk0 le
 have hsl := yE0 le.vars
 have hc := hle.2.1
 have hz := hle.1
 obtain ⟨r, hr⟩ : ∃ r, r = le.mat t [] := ⟨_, rfl⟩
 rw [← hr] at hm hml hma ⊢
 clear hr
 generalize qp0 le.vars = vs at hv hsl
 generalize le.vars = vs0 at hvl hsl
 obtain ⟨k, n, s, ts⟩ := le
 obtain ⟨k2, n2, s2, ts2⟩ := t
 refine soc zF0 zB0 Tryz.func210 ?_
 refine bp0 ?_
 cases r with
 | none =>
  have hm : vQ1 Tryz.prog 253 [tmV (.mk k n s ts), tmV (.mk k2 n2 s2 ts2)] [] 261 5 [] [boolV false] := hm
  refine CallK.lost 2 (by decide +kernel) hm ⟨by simp [go_sem], rfl, rfl, rfl⟩ ?_
  refine mV1 ?_
  rfl
 | some bs =>
  have hm : bn0 Tryz.prog 253 [tmV (.mk k n s ts), tmV (.mk k2 n2 s2 ts2)] [] 261 5 [] (zA0 GBind.enc bs) [boolV true] := hm
  have hrs := pn0 bs (by have := hml bs rfl; simp at this; omega) (fun b hb => (hma bs rfl b hb).1) vs (by omega)
  refine CallK.accD 2 (by decide +kernel) hm ⟨by simp [go_sem], rfl, rfl, rfl⟩ rfl ?_
  simp -implicitDefEqProofs only [go_sem, List.getElem?_cons_succ, List.getElem?_cons_zero, Tm.enc]
  refine CallK.mk hv ?_
  simp -implicitDefEqProofs only [go_sem, rowsOf_toC]
  refine c3' hrs ?_
  rfl
theorem fM0 : ∀ k n s ts, ((Tm.mk k n s ts).size < 540 ∧ (Tm.mk k n s ts).wf) → ∀ t, t ∈ ts → (t.size < 540 ∧ t.wf) :=
 fun k n s ts h t ht => ⟨by have := zU0 ts t ht; have := h.1; simp only [Tm.size] at this; omega, (jN0 ts).1 h.2.2.2.2.2 t ht⟩
theorem tu0 (le t : Tm) (ht : vO0 t) (bs : List GBind) (h : le.mat t [] = some bs) : ∀ b, b ∈ bs → b.t.size < 540 ∧ b.t.wf :=
 fq0 (fun t => t.size < 540 ∧ t.wf) fM0 le t [] bs h ⟨ht.1, ht.2.2⟩ (by simp)
theorem xL0 (bs : List GBind) (hb : ∀ b, b ∈ bs → b.t.size < 540 ∧ b.t.wf) (t : Tm) (h : vO0 t) : (t.sub bs).size < 10000000 ∧ (t.sub bs).wf := by
 have := vN0 bs (fun b hb' => (hb b hb').1) t
 have h1 := h.1
 have h2 := h.2.1
 exact ⟨by omega, kw1 bs (fun b hb' => (hb b hb').2) t h.2.2⟩
theorem jy0 (x : GRule) (hx : qm0 x) (t : Tm) (ht : vO0 t) : Sat Tryz.prog 139 [zv0 x.enc, tmV t] (.tup [slV ((jh0 x t).1.map GBind.enc), boolV (jh0 x t).2]) := by
 obtain ⟨hle, hri, hgl, hgu⟩ := hx
 have hm := xl0 x.le t hle ht
 have hmo := tu0 x.le t ht
 have hml := xV0 x.le t []
 have hc := hle.2.1
 obtain ⟨r, hr⟩ : ∃ r, r = jh0 x t := ⟨_, rfl⟩
 rw [← hr]
 obtain ⟨sb, ok0, hsb, hm2, hr2⟩ : ∃ sb ok0, ((∀ b, b ∈ sb → b.t.size < 540 ∧ b.t.wf) ∧ sb.length < 1000000) ∧ Sat Tryz.prog 210 [tmV x.le, tmV t] (.tup [slV (sb.map GBind.enc), boolV ok0]) ∧ r = (sb, ok0 && x.gu.all fun g => wD0 (g.sub sb)) := by
  unfold jh0 at hr
  cases hq : x.le.mat t [] with
  | none =>
   rw [hq] at hm hr
   exact ⟨[], false, ⟨by simp, by simp⟩, hm, hr⟩
  | some bs =>
   rw [hq] at hm hr
   refine ⟨cL0 x bs, true, ⟨fun b hb => ?_, ?_⟩, hm, hr⟩
   ·obtain ⟨b', hb1, hb2⟩ := mw0 bs _ b hb
    rw [← hb2]; exact hmo bs hq b' hb1
   ·have h1 := bK0 bs (qp0 (qp0 x.le.vars))
    have h2 := yE0 (qp0 x.le.vars)
    have h3 := yE0 x.le.vars
    have h4 := qk0 x.le
    have h5 := hle.1
    unfold cL0
    omega
 clear hmo hml hm hr
 obtain ⟨na, ⟨lk, ln, ls, lt⟩, ⟨rk, rn, rs, rt⟩, gu⟩ := x
 obtain ⟨k2, n2, s2, ts2⟩ := t
 simp only at hm2 hr2 hgl hgu
 refine soc zF0 zB0 Tryz.func139 ?_
 refine mZ1 ?_
 refine c0' hm2 ?_
 refine zC0 (ι := Nat × Bool) (fun i => mk 36 [(2, .one (.ptr 2 0)), (6, slV (sb.map GBind.enc)), (7, boolV i.2), (8, zG0 i.1)] [(2, .var [sC na, iC lk, iC ln, sC ls, tC lt, iC rk, iC rn, sC rs, tC rt, .c (.sl (gu.map GGuard.enc))])])
  (fun i => i.1 ≤ gu.length ∧ r = (sb, i.2 && (gu.drop i.1).all fun g => wD0 (g.sub sb))) (fun i => gu.length - i.1) (0, ok0) ⟨Nat.zero_le _, by simpa using hr2⟩ ?_ zF0 zB0 (by decide +kernel) ?_
 ·exact lek
 ·rintro ⟨i, ok⟩ ⟨hi, he⟩
  simp only at hi he
  rcases Nat.lt_or_ge i gu.length with hlt | hge
  ·have hg := zE0 (ec := GGuard.enc) hlt
   rw [wQ0 _ gu i hlt] at he
   have hgo := hgu _ (List.getElem_mem hlt)
   generalize gu[i] = g at hg he hgo
   have hap := be0 sb (by omega) (fun b hb => by have := (hsb.1 b hb).1; omega) g (by have := hgo.1.1; omega) (by have := hgo.2.1; omega)
   have z1 := xL0 sb hsb.1 g.le hgo.1
   have z2 := xL0 sb hsb.1 g.ri hgo.2
   have hho := gv0 (g.sub sb) z1.1 z2.1 z1.2 z2.2
   generalize wD0 (g.sub sb) = hd at he hho
   generalize g.sub sb = g' at hap hho
   obtain ⟨kd, ⟨glk, gln, gls, glt⟩, ⟨grk, grn, grs, grt⟩⟩ := g
   obtain ⟨kd', ⟨lk', ln', ls', lt'⟩, ⟨rk', rn', rs', rt'⟩⟩ := g'
   simp only [GGuard.enc, Tm.enc, encI, List.cons_append, List.nil_append] at hg
   refine pi0 ?_
   refine ⟨fun h => ?_, fun h => ?_⟩
   ·refine CallK.mk hap ?_
    refine si1 ?_
    refine c0' hho ?_
    exact ⟨(i + 1, hd), ⟨hlt, by simp [he, h]⟩, by simp only; omega, lek⟩
   ·rw [he, h]; simp
  ·have e1 : gu.drop i = [] := List.drop_of_length_le hge
   rw [e1] at he
   refine nm0 ?_
   rw [he]; simp
theorem nU0 (d : GDefinition) (hl : d.ru.length < 100000000) (hd : ∀ x, x ∈ d.ru → qm0 x) (t : Tm) (ht : vO0 t) : Sat Tryz.prog 153 [zv0 d.enc, tmV t] (zG0 (yk0 (fun x => (jh0 x t).2) d.ru 0)) := by
 have hf := fun x hx => jy0 x (hd x hx) t ht
 obtain ⟨p, hp⟩ : ∃ p : GRule → List GBind × Bool, p = fun x => jh0 x t := ⟨_, rfl⟩
 have hf : ∀ x, x ∈ d.ru → Sat Tryz.prog 139 [zv0 x.enc, tmV t] (.tup [slV ((p x).1.map GBind.enc), boolV (p x).2]) := by rw [hp]; exact hf
 have e0 : (fun x => (jh0 x t).2) = fun x => (p x).2 := by rw [hp]
 rw [e0]
 obtain ⟨r, hr⟩ : ∃ r, r = yk0 (fun x => (p x).2) d.ru 0 := ⟨_, rfl⟩
 rw [← hr]
 have hde : d.enc = [.sl (d.si.so.map encS), .sl (d.si.op.map GOp.enc), .sl (d.ru.map GRule.enc), .sl (d.st.map GStrict.enc)] := rfl
 rw [hde]
 clear hp e0 hde hd
 obtain ⟨si, ru, st⟩ := d
 simp only at hl hr hf ⊢
 obtain ⟨k2, n2, s2, ts2⟩ := t
 refine soc zF0 zB0 Tryz.func153 ?_
 refine kF0 ?_
 refine zC0 (ι := Nat) (fun i => mk 27 [(2, .one (.ptr 2 0)), (3, .one (.ptr 3 0)), (5, zG0 i)] [(2, .var [.c (.sl (si.so.map encS)), .c (.sl (si.op.map GOp.enc)), .c (.sl (ru.map GRule.enc)), .c (.sl (st.map GStrict.enc))]), (3, .var [iC k2, iC n2, sC s2, tC ts2])])
  (fun i => i ≤ ru.length ∧ yk0 (fun x => (p x).2) (ru.drop i) i = r) (fun i => ru.length - i) 0 ⟨Nat.zero_le _, by simp [hr]⟩ ?_ zF0 zB0 (by decide +kernel) ?_
 ·exact lek
 ·rintro i ⟨hi, he⟩
  rcases Nat.lt_or_ge i ru.length with hlt | hge
  ·have hg := zE0 (ec := GRule.enc) hlt
   rw [dJ0 _ ru i _ hlt] at he
   have hfx := hf _ (List.getElem_mem hlt)
   generalize ru[i] = x at hg he hfx
   generalize p x = q at he hfx
   obtain ⟨na, ⟨lk, ln, ls, lt⟩, ⟨rk, rn, rs, rt⟩, gu⟩ := x
   simp only [GRule.enc, Tm.enc, encS, encL, List.cons_append, List.nil_append] at hg
   refine pi0 ?_
   refine c0' hfx ?_
   refine ⟨fun h => ?_, fun h => ⟨i + 1, ⟨hlt, ?_⟩, by omega, lek⟩⟩
   ·rw [h, if_pos rfl] at he
    rw [← he]
   ·rw [h, if_neg (by simp)] at he
    rw [← he]; simp
  ·have e1 : ru.drop i = [] := List.drop_of_length_le hge
   rw [e1] at he
   refine nm0 ?_
   rw [← he]; rfl
end Go.Ai
/- What fires, in the program. -/
namespace Go.Ai
open Go.Proofs
set_option maxRecDepth 100000
theorem lP0 (bs : List GBind) (hbl : bs.length < 100000000) (hb : ∀ b, b ∈ bs → b.t.size < 540 ∧ b.t.wf) (gs : List GGuard) (hl : gs.length < 100000000) (hs : ∀ g, g ∈ gs → vO0 g.le ∧ vO0 g.ri) : Sat Tryz.prog 194 [slV (bs.map GBind.enc), slV (gs.map GGuard.enc)] (boolV (gs.all fun g => wD0 (g.sub bs))) := by
 obtain ⟨r, hr⟩ : ∃ r, r = (gs.all fun g => wD0 (g.sub bs)) := ⟨_, rfl⟩
 rw [← hr]
 refine soc zF0 zB0 Tryz.func194 ?_
 refine fx0 ?_
 refine zC0 (ι := Nat) (fun i => mk 19 [(0, slV (bs.map GBind.enc)), (7, slV (gs.map GGuard.enc)), (8, zG0 gs.length), (9, zG0 i)] []) (fun i => i ≤ gs.length ∧ r = (gs.drop i).all fun g => wD0 (g.sub bs)) (fun i => gs.length - i) 0 ⟨Nat.zero_le _, by simpa using hr⟩ ?_ zF0 zB0 (by decide +kernel) ?_
 ·exact lek
 ·rintro i ⟨hi, he⟩
  rcases Nat.lt_or_ge i gs.length with hlt | hge
  ·have hg := zE0 (ec := GGuard.enc) hlt
   rw [List.drop_eq_getElem_cons hlt, List.all_cons] at he
   have hgo := hs _ (List.getElem_mem hlt)
   generalize gs[i] = g at hg he hgo
   have hap := (fh0 bs hbl (fun b hb' => by have := (hb b hb').1; omega) g (by have := hgo.1.1; omega) (by have := hgo.2.1; omega)).sat
   have z1 := xL0 bs hb g.le hgo.1
   have z2 := xL0 bs hb g.ri hgo.2
   have hho := gF0 (g.sub bs) z1.1 z2.1 z1.2 z2.2
   generalize wD0 (g.sub bs) = hd at he hho
   generalize g.sub bs = g' at hap hho
   obtain ⟨kd, ⟨lk, ln, ls, lt⟩, ⟨rk, rn, rs, rt⟩⟩ := g
   obtain ⟨kd', ⟨lk', ln', ls', lt'⟩, ⟨rk', rn', rs', rt'⟩⟩ := g'
   simp only [GGuard.enc, Tm.enc, encI, List.cons_append, List.nil_append] at hg
   refine pi0 ?_
   refine CallK.mk hap ?_
   refine si1 ?_
   refine c0' hho ?_
   exact ⟨fun h => by simp [he, h], fun h => ⟨i + 1, ⟨hlt, by simp [he, h]⟩, by omega, lek⟩⟩
  ·have e1 : gs.drop i = [] := List.drop_of_length_le hge
   rw [e1] at he
   refine nm0 ?_
   rw [he]; rfl
def jP0 (x : GRule) (t : Tm) : Tm := match wk0 x t with
 | some bs => (x.ri.sub bs).red
 | none => qS0
theorem mI0 (d : GDefinition) (hl : d.ru.length < 100000000) (i : Nat) (hi : i < d.ru.length) (hx : qm0 d.ru[i]) (t : Tm) (ht : vO0 t) : Sat Tryz.prog 120 [zv0 d.enc, zG0 i, tmV t] (.tup [tmV (jP0 d.ru[i] t), boolV (wk0 d.ru[i] t).isSome]) := by
 have hg := zE0 (ec := GRule.enc) hi
 have hde : d.enc = [.sl (d.si.so.map encS), .sl (d.si.op.map GOp.enc), .sl (d.ru.map GRule.enc), .sl (d.st.map GStrict.enc)] := rfl
 rw [hde]
 clear hde
 obtain ⟨si, ru, st⟩ := d
 simp only at hl hi hx hg ⊢
 generalize ru[i] = x at hg hx
 obtain ⟨hle, hri, hgl, hgu⟩ := hx
 have hm := gI0 x.le (by have := hle.1; omega) t [] (by have := ht.1; omega) ht.2.2 (by simp) (by have := hle.2.1; simp; omega)
 have hmo := tu0 x.le t ht
 have hml := xV0 x.le t []
 have hc := hle.2.1
 obtain ⟨r, hr⟩ : ∃ r, r = (AV.tup [tmV (jP0 x t), boolV (wk0 x t).isSome]) := ⟨_, rfl⟩
 rw [← hr]
 unfold jP0 wk0 at hr
 generalize hq : x.le.mat t [] = q at hm hr hmo hml
 obtain ⟨na, le, ri, gu⟩ := x
 obtain ⟨k2, n2, s2, ts2⟩ := t
 simp only at hm hr hgl hgu hri
 cases q with
 | none =>
  clear hq
  obtain ⟨lk, ln, ls, lt⟩ := le
  obtain ⟨rk, rn, rs, rt⟩ := ri
  simp only [GRule.enc, Tm.enc, encS, encL, List.cons_append, List.nil_append] at hg
  have hm : vQ1 Tryz.prog 193 [tmV (.mk lk ln ls lt), tmV (.mk k2 n2 s2 ts2)] [] 261 5 [] [boolV false] := hm
  refine soc zF0 zB0 Tryz.func120 ?_
  simp -implicitDefEqProofs only [go_sem, Tm.enc, hg, hi, List.length_map]
  refine CallK.lost 2 rfl hm ⟨by simp [go_sem], rfl, rfl⟩ ?_
  refine mV1 ?_
  rw [hr]; rfl
 | some bs =>
  clear hq
  have hbs := hmo bs rfl
  have hbl : bs.length < 1000000 := by
   have h1 : bs.length ≤ 0 + le.cnt := hml bs rfl
   have h2 : le.cnt ≤ 60 := hc
   omega
  have hr0 : ((gu.all fun g => wD0 (g.sub bs)) = false → r = .tup [tmV qS0, boolV false]) ∧ ((gu.all fun g => wD0 (g.sub bs)) = true → r = .tup [tmV (ri.sub bs).red, boolV true]) := by
   refine ⟨fun h => ?_, fun h => ?_⟩ <;> (rw [hr]; simp only [h]; rfl)
  clear hr
  have hho := lP0 bs (by omega) hbs gu (by omega) hgu
  have hsu := (jl0 bs (by omega) (fun b hb => by have := (hbs b hb).1; omega) ri (by have := hri.1; omega)).sat
  have z1 := xL0 bs hbs ri hri
  have hre := (jJ0 (ri.sub bs) z1.1).sat
  generalize (gu.all fun g => wD0 (g.sub bs)) = ok at hho hr0
  generalize (ri.sub bs).red = y at hre hr0
  generalize ri.sub bs = y1 at hsu hre
  obtain ⟨lk, ln, ls, lt⟩ := le
  obtain ⟨rk, rn, rs, rt⟩ := ri
  obtain ⟨yk, yn, ys, yt⟩ := y1
  obtain ⟨zk, zn, zs, zt⟩ := y
  simp only [GRule.enc, Tm.enc, encS, encL, List.cons_append, List.nil_append] at hg
  have hm : bn0 Tryz.prog 193 [tmV (.mk lk ln ls lt), tmV (.mk k2 n2 s2 ts2)] [] 261 5 [] (zA0 GBind.enc bs) [boolV true] := hm
  refine soc zF0 zB0 Tryz.func120 ?_
  simp -implicitDefEqProofs only [go_sem, Tm.enc, hg, hi, List.length_map]
  refine CallK.acc 2 hm ⟨by simp [go_sem], rfl, rfl⟩ rfl ?_
  refine bY1 ?_
  refine CallK.bor hho rfl ?_
  refine zY0 ?_
  refine ⟨fun h => ?_, fun h => ?_⟩
  ·rw [hr0.1 h]; rfl
  ·refine c7' hsu ?_
   refine c7' hre ?_
   rw [hr0.2 h]; rfl
theorem pd0 (d : GDefinition) (hl : d.ru.length < 100000000) (hd : ∀ x, x ∈ d.ru → qm0 x) (t : Tm) (ht : vO0 t) : Sat Tryz.prog 148 [zv0 d.enc, tmV t] (zG0 (yk0 (fun x => (wk0 x t).isSome) d.ru 0)) := by
 have hf := fun i hi => mI0 d hl i hi (hd _ (List.getElem_mem hi)) t ht
 obtain ⟨p, hp⟩ : ∃ p : GRule → Option (List GBind), p = fun x => wk0 x t := ⟨_, rfl⟩
 obtain ⟨p2, hp2⟩ : ∃ p2 : GRule → Tm, p2 = fun x => jP0 x t := ⟨_, rfl⟩
 have hf : ∀ i (hi : i < d.ru.length), Sat Tryz.prog 120 [zv0 d.enc, zG0 i, tmV t] (.tup [tmV (p2 d.ru[i]), boolV (p d.ru[i]).isSome]) := by rw [hp, hp2]; exact hf
 have e0 : (fun x => (wk0 x t).isSome) = fun x => (p x).isSome := by rw [hp]
 rw [e0]
 obtain ⟨r, hr⟩ : ∃ r, r = yk0 (fun x => (p x).isSome) d.ru 0 := ⟨_, rfl⟩
 rw [← hr]
 have hde : d.enc = [.sl (d.si.so.map encS), .sl (d.si.op.map GOp.enc), .sl (d.ru.map GRule.enc), .sl (d.st.map GStrict.enc)] := rfl
 rw [hde] at hf ⊢
 clear hp hp2 e0 hde hd
 obtain ⟨si, ru, st⟩ := d
 simp only at hl hr hf ⊢
 obtain ⟨k2, n2, s2, ts2⟩ := t
 refine soc zF0 zB0 Tryz.func148 ?_
 refine kF0 ?_
 refine zC0 (ι := Nat) (fun i => mk 24 [(2, .one (.ptr 2 0)), (3, .one (.ptr 3 0)), (10, zG0 ru.length), (11, zG0 i)] [(2, .var [.c (.sl (si.so.map encS)), .c (.sl (si.op.map GOp.enc)), .c (.sl (ru.map GRule.enc)), .c (.sl (st.map GStrict.enc))]), (3, .var [iC k2, iC n2, sC s2, tC ts2])])
  (fun i => i ≤ ru.length ∧ yk0 (fun x => (p x).isSome) (ru.drop i) i = r) (fun i => ru.length - i) 0 ⟨Nat.zero_le _, by simp [hr]⟩ ?_ zF0 zB0 (by decide +kernel) ?_
 ·exact lek
 ·rintro i ⟨hi, he⟩
  rcases Nat.lt_or_ge i ru.length with hlt | hge
  ·rw [dJ0 _ ru i _ hlt] at he
   have hfx := hf i hlt
   generalize (p ru[i]).isSome = q at he hfx
   generalize p2 ru[i] = y at hfx
   obtain ⟨yk, yn, ys, yt⟩ := y
   simp -implicitDefEqProofs (disch := omega) only [go_sem, hlt, List.length_map]
   refine CallK.mk hfx ?_
   refine kF0 ?_
   refine ⟨fun h => ?_, fun h => ⟨i + 1, ⟨hlt, ?_⟩, by omega, ?_⟩⟩
   ·rw [h, if_pos rfl] at he
    rw [← he]
   ·rw [h, if_neg (by simp)] at he
    rw [← he]; simp
   ·exact lek
  ·have e1 : ru.drop i = [] := List.drop_of_length_le hge
   rw [e1] at he
   refine nm0 ?_
   rw [← he]; rfl
theorem fP0 (d : GDefinition) (hw : d.wf) (t : Tm) (htw : t.wf) (h : yr0 d t = true) : (∀ x, x ∈ d.ru → qm0 x) ∧ vO0 t ∧ ∀ x, x ∈ d.ru → qs0 d.si x = true := by
 simp only [yr0, du0, Bool.and_eq_true] at h
 have hr := List.all_eq_true.1 h.1.1.1.1.1.1.1.1
 refine ⟨fun x hx => ?_, xp0 t h.1.1.2 htw, hr⟩
 have hb := hr x hx
 simp only [qs0, Bool.and_eq_true, decide_eq_true_eq] at hb
 have hxw : x.wf := hw.2.1.2 x hx
 obtain ⟨⟨⟨⟨⟨⟨⟨⟨⟨_, h2⟩, h3⟩, _⟩, _⟩, h6⟩, _⟩, _⟩, _⟩, h10⟩ := hb
 refine ⟨xp0 x.le h2 hxw.2.1, xp0 x.ri h3 hxw.2.2.1, h6, fun g hg => ?_⟩
 have hgv := List.all_eq_true.1 h10 g hg
 simp only [yM0, Bool.and_eq_true] at hgv
 have hgw := hxw.2.2.2.2 g hg
 exact ⟨xp0 g.le hgv.1.1.1.1.1 hgw.2.1, xp0 g.ri hgv.1.1.1.1.2 hgw.2.2⟩
def zL2 (d : GDefinition) (t : Tm) : Int := if yr0 d t then yk0 (fun x => (wk0 x t).isSome) d.ru 0 else -1
end Go.Ai
