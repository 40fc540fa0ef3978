/- FnSpace. -/
import Derived.Test.YtphclghkljeaeaaGreatAiQL3
import Derived.Test.YtphclghkljeaeaaGreatAiSP6
import Derived.Test.YtphclghkljeaeaaGreatAiSP5
set_option linter.unusedVariables false
set_option linter.unusedSimpArgs false
namespace Go.Ai
open Go.Proofs
set_option maxRecDepth 100000
theorem kd0 (bs : List Int) (hb : wM0 bs) : ∃ d t, gD 30000 d ∧ gT 1000 t ∧ Sat Tryz.prog 9 [slV (bs.map gh0)] (.tup [zz0 (GDefinition.enc d), tmV t]) := by
 obtain ⟨d, t, gd, gt, h⟩ := qE1 bs hb
 refine ⟨d, t, gd, gt, ?_⟩
 obtain ⟨⟨dso, dop⟩, dru, dst⟩ := d
 obtain ⟨tk, tn, tz, ta⟩ := t
 refine soc zE0 zA0 Tryz.func9 ?_
 refine wj0 ?_
 refine c0' h ?_
 rfl
theorem bg0 (d : GDefinition) (hs : d.size < 1048577) (t : Tm) (ht : t.size < 1048577) (hcf : yu0 d t = false) : Sat Tryz.prog 10 [zz0 d.enc, tmV t] (zz0 (qR0 d t).enc) := by
 have hcs := fI0 d hs t (by omega)
 rw [hcf] at hcs
 have hX : qR0 d t = lV0 := by unfold qR0; rw [if_neg (by rw [hcf]; decide)]
 rw [hX]
 obtain ⟨⟨so, op⟩, ru, st⟩ := d
 obtain ⟨tk, tn, tz, ta⟩ := t
 refine soc zE0 zA0 Tryz.func10 ?_
 refine mX1 ?_
 refine c0' hcs ?_
 rfl
theorem bI0 (d : GDefinition) (hw : d.wf) (hs : d.size < 1048577) (t : Tm) (htw : t.wf) (ht : t.size < 1048577) (hcf : yu0 d t = true) :
  Sat Tryz.prog 12 [zz0 d.enc, tmV t] (zz0 (qR0 d t).enc) := by
 have hcs := yT0 d hs t (by omega)
 rw [hcf] at hcs
 have hcp := qy0 t ht
 have hc := py0 d hw t htw hcf
 have hadd := fun k u x h1 h2 => qG1 d hw hs hc t k u x h1 h2
 have hnext := fun k u x h1 h2 => dt0 d hc.2.2.2 hc.2.2.1 hc.1 hc.2.1 t k u t x h1 h2
 have hinv : Inv d t 0 t [] ⟨[t], [], true⟩ := by
  obtain ⟨hg, hst⟩ := vR0 d hw t htw hcf
  refine ⟨rfl, by simp, fun v hv => (List.mem_singleton.1 hv) ▸ hg, fun v hv => (List.mem_singleton.1 hv) ▸ hcf, fun m hm => (List.not_mem_nil hm).elim, by simp, fun _ => ⟨fun i v hi => by omega, fun q hq => (List.not_mem_nil hq).elim⟩, fun j hj hl => ?_⟩
  simp only [List.length_singleton] at hl
  omega
 obtain ⟨X, hX⟩ : ∃ X, X = qR0 d t := ⟨_, rfl⟩
 rw [← hX]
 unfold qR0 at hX
 rw [if_pos hcf] at hX
 obtain ⟨t0, ht0⟩ : ∃ t0, t0 = t := ⟨_, rfl⟩
 rw [← ht0] at hadd hnext hinv hX
 obtain ⟨⟨so, op⟩, ru, st⟩ := d
 obtain ⟨tk, tn, tz, ta⟩ := t
 have hde : (⟨⟨so, op⟩, ru, st⟩ : GDefinition).enc = [.sl (so.map encS), .sl (op.map GOp.enc), .sl (ru.map GRule.enc), .sl (st.map GStrict.enc)] := rfl
 obtain ⟨dd, hdd⟩ : ∃ dd : GDefinition, dd = ⟨⟨so, op⟩, ru, st⟩ := ⟨_, rfl⟩
 refine svc [] zE0 zA0 Tryz.func12 ?_
 refine fQ1 ?_
 refine CallK.mk hcs ?_
 refine fQ1 ?_
 refine CallK.mk hcp ?_
 refine fQ1 ?_
 refine zn0 [] (ι := Nat × GSpace) (fun p => mk 37 [(2, .one (.ptr 2 0)), (4, .one (.ptr 4 0)), (5, .one (.ptr 16 0)), (6, zG0 p.1)] [(2, .var [.c (.sl (so.map encS)), .c (.sl (op.map GOp.enc)), .c (.sl (ru.map GRule.enc)), .c (.sl (st.map GStrict.enc))]), (4, .var [.nil, .nil, .c (.v (.bool false))]), (16, .var [.own 14 p.2.te.length, .own 9102 p.2.mo.length, .c (.v (.bool p.2.fu))]), (14, teR p.2), (9102, moR p.2)])
  (fun p => p.1 ≤ 41 ∧ Inv dd t0 p.1 t0 [] p.2 ∧ X = qG0 dd (41 - p.1) p.1 p.2) (fun p => 41 - p.1) (0, ⟨[t0], [], true⟩) ⟨Nat.zero_le _, by rw [hdd]; exact hinv, by rw [hdd]; exact hX⟩ ?_ zE0 zA0 (by decide +kernel) ?_
 ·subst ht0
  exact (vj0 16 1 9102 104 4 (by simp [zJ0]; rfl) (by simp) (by simp [zJ0]) (by decide)).trans (le_mk (by simp [go_sem]) (by simp [go_sem, rowsOf, Tm.enc]))
 ·rintro ⟨k, y⟩ ⟨hk, hi, hX⟩
  simp only at hk hi hX ⊢
  have hlen := hi.len
  rcases Nat.lt_or_ge k y.te.length with hlt | hge
  ·have hu : y.te[k]? = some y.te[k] := List.getElem?_eq_getElem hlt
   rw [← hdd] at hadd hnext
   have ha := hadd k _ y { hi with full := fun hf => ⟨(hi.full hf).1, fun q hq => (List.not_mem_nil hq).elim⟩ } hu
   have hn := hnext k _ y hi hu
   have he := lZ0 dd (40 - k) k y _ hu
   rw [show 40 - k + 1 = 41 - k by omega] at he
   rw [he] at hX
   have hfu := dD0 dd k y.te[k] y.fu (yt0 dd y.te[k]) y.te y.mo true
   rw [Bool.and_true] at hfu
   rw [show (⟨y.te, y.mo, y.fu⟩ : GSpace) = y from rfl] at hfu
   rw [hfu] at hn
   generalize yV0 dd k y.te[k] (yt0 dd y.te[k]) ⟨y.te, y.mo, true⟩ = r at ha hn hX
   rw [hdd, hde] at ha
   obtain ⟨rte, rmo, rfu⟩ := r
   simp only at hn hX
   simp -implicitDefEqProofs (disch := omega) only [go_sem, hlt]
   refine LoanK.con [16, 14, 9102] [] ha rfl (by simp [go_sem, encS, encI]) ?_
   cases rfu with
   | true =>
    refine wj0 ?_
    rw [Bool.and_true] at hn hX
    exact ⟨(k + 1, ⟨rte, rmo, y.fu⟩), ⟨by omega, hn, by rw [hX, show 40 - k = 41 - (k + 1) by omega]⟩, by simp only; omega, lek⟩
   | false =>
    refine wj0 ?_
    rw [Bool.and_false] at hn hX
    exact ⟨(k + 1, ⟨rte, rmo, false⟩), ⟨by omega, hn, by rw [hX, show 40 - k = 41 - (k + 1) by omega]⟩, by simp only; omega, lek⟩
  ·rw [pz0 dd _ _ _ hge] at hX
   subst hX
   refine xG1 ?_
   rfl
theorem vY0 (te : List Tm) (mo : List GMove) (fu : Bool) (ht : te.length ≤ 100) (hw : ∀ t, t ∈ te → t.wf) (hm : mo.length ≤ 100000) (hp : ∀ m, m ∈ mo → m.re.ps.length < 100000000) :
  Sat Tryz.prog 11 [zz0 [.sl (te.map Tm.enc), .sl (mo.map GMove.enc), .v (.bool fu)], zz0 [.sl (te.map Tm.enc), .sl (mo.map GMove.enc), .v (.bool fu)]] (boolV true) := by
 refine soc zE0 zA0 Tryz.func11 ?_
 refine bW0 ?_
 refine zB0 (ι := Nat) (fun i => mk 102 [(2, .one (.ptr 2 0)), (3, .one (.ptr 3 0)), (5, zG0 i)] [(2, .var [.c (.sl (te.map Tm.enc)), .c (.sl (mo.map GMove.enc)), .c (.v (.bool fu))]), (3, .var [.c (.sl (te.map Tm.enc)), .c (.sl (mo.map GMove.enc)), .c (.v (.bool fu))])]) (fun i => i ≤ te.length) (fun i => te.length - i) 0 (Nat.zero_le _) ?_ zE0 zA0 (by decide +kernel) ?_
 ·exact lek
 ·intro i hi
  rcases Nat.lt_or_ge i te.length with hlt | hge
  ·have hg := zD0 (ec := Tm.enc) hlt
   have hs := zt0 te[i] (hw _ (List.getElem_mem hlt)) te[i]
   rw [Tm.eqb_refl] at hs
   generalize te[i] = x at hg hs
   obtain ⟨k, n, s, ts⟩ := x
   simp only [Tm.enc] at hg
   refine cM1 ?_
   refine c0' hs ?_
   exact cr1
  ·have : i = te.length := by omega
   subst this
   simp -implicitDefEqProofs (disch := omega) only [go_sem, List.length_map, Nat.lt_irrefl]
   refine zB0 (ι := Nat) (fun i => mk 102 [(2, .one (.ptr 2 0)), (3, .one (.ptr 3 0)), (6, zG0 i)] [(2, .var [.c (.sl (te.map Tm.enc)), .c (.sl (mo.map GMove.enc)), .c (.v (.bool fu))]), (3, .var [.c (.sl (te.map Tm.enc)), .c (.sl (mo.map GMove.enc)), .c (.v (.bool fu))])]) (fun i => i ≤ mo.length) (fun i => mo.length - i) 0 (Nat.zero_le _) ?_ zE0 zA0 (by decide +kernel) ?_
   ·exact lek
   ·intro i hi
    rcases Nat.lt_or_ge i mo.length with hlt | hge
    ·have hg := zD0 (ec := GMove.enc) hlt
     have hs := ko0 [mo[i].re] (by simp) (fun x hx => by rw [List.mem_singleton.1 hx]; exact hp _ (List.getElem_mem hlt))
     generalize mo[i] = x at hg hs
     obtain ⟨fr, tg, ⟨ru, ps⟩⟩ := x
     simp only [GMove.enc, GRedex.enc, encI, encL, List.cons_append, List.nil_append] at hg
     simp only [List.map_cons, List.map_nil, GRedex.enc, encI, encL, List.cons_append, List.nil_append] at hs
     refine cM1 ?_
     refine c0' hs ?_
     exact cr1
    ·have : i = mo.length := by omega
     subst this
     simp -implicitDefEqProofs (disch := omega) only [go_sem, List.length_map, Nat.lt_irrefl]
theorem pW1 (bs : List Int) (hb : wM0 bs) : ∃ n : Nat, n < 256 ∧ Sat Tryz.prog 14 [slV (bs.map gh0), zG0 0] (zG0 n) := by
 have hbl := hb.1
 cases bs with
 | nil =>
  refine ⟨0, by decide, ?_⟩
  refine soc zE0 zA0 Tryz.func14 ?_
  simp -implicitDefEqProofs (disch := omega) only [go_sem, List.length_map, List.length_nil]
  exact ⟨fun h => absurd h (by decide), fun _ => rfl⟩
 | cons b bs =>
  have h := hb.2 b List.mem_cons_self
  refine ⟨b.toNat, by omega, ?_⟩
  have e : ((b.toNat : Nat) : Int) = b := by omega
  refine soc zE0 zA0 Tryz.func14 ?_
  rw [e]
  simp -implicitDefEqProofs (disch := omega) only [go_sem, List.length_map, List.map_cons, gh0]
  exact ⟨fun h => h, fun h => absurd (by omega) h⟩
theorem pL1 (x : GSpace) : x.enc = [.sl (x.te.map Tm.enc), .sl (x.mo.map GMove.enc), .v (.bool x.fu)] := rfl
theorem ca1 (qs : List (Int × List Int)) : (qs.map rdG).map GRedex.enc = qs.map kg0 := by
 simp [rdG, GRedex.enc, kg0, encI, encL]
theorem fr1 (d : GDefinition) (t0 : Tm) (X : GSpace) (h : Done d t0 X) (hf : X.fu = true) (u v : Tm) (hu : u ∈ X.te) (hv : bs0 d u = some v) : v ∈ X.te := by
 have hc := h.cfg u hu
 unfold bs0 fc0 at hv
 rw [if_pos hc] at hv
 cases hq : u.nxt d.st (yQ0 d) with
 | none => rw [hq] at hv; cases hv
 | some q =>
  rw [hq] at hv
  simp only at hv
  have := h.full hf u hu q (xE1 d u (nv0 d u hc) q hq)
  rw [if_pos this.1] at hv
  cases hv
  exact this.2
theorem mD0 (bs : List Int) (hb : ∀ x, x ∈ bs → 0 ≤ x ∧ x ≤ 255) : Sat Tryz.prog 3 [slV (bs.map gh0)] (boolV true) := by
 have hbig := rj0 bs _ rfl
 refine svc [] zE0 zA0 Tryz.func3 ?_
 refine wj0 ?_
 refine CallK.mk hbig ?_
 by_cases hl : 1048576 < bs.length
 ·rw [decide_eq_true hl]
  simp -implicitDefEqProofs (disch := omega) only [go_sem]
 rw [decide_eq_false hl]
 have hok : wM0 bs := ⟨by omega, hb⟩
 obtain ⟨d, t, gd, gt, hd⟩ := kd0 bs hok
 obtain ⟨n, hn, hat⟩ := pW1 bs hok
 have gts := gt.2
 have hds : d.size < 1048577 := by have := gd.2; omega
 cases hcf : yu0 d t with
 | false =>
  have h1 := bg0 d hds t (by omega) hcf
  have h2 := bo0 d hds t (by omega) hcf
  have h3 := vY0 [] [] false (by decide) (fun t h => by cases h) (by decide) (fun m h => by cases h)
  have h4 := yT0 d hds t (by omega)
  rw [hcf] at h4
  have hX : qR0 d t = lV0 := by unfold qR0; rw [if_neg (by rw [hcf]; decide)]
  rw [hX] at h1 h2
  obtain ⟨⟨dso, dop⟩, dru, dst⟩ := d
  obtain ⟨tk, tn, tz, ta⟩ := t
  simp only [lV0, pL1, List.map_nil] at h1 h2 h3
  refine wj0 ?_
  refine CallK.mk hd ?_
  refine mX1 ?_
  refine c0' h1 ?_
  refine c0' h2 ?_
  refine CallK.mk h3 ?_
  simp -implicitDefEqProofs (disch := omega) only [go_sem, List.length_nil]
  refine ⟨fun _ => CallK.mk h4 ?_, fun h => by cases h⟩
  simp -implicitDefEqProofs (disch := omega) only [go_sem]
 | true =>
  have hD := lY0 d gd.1 t gt.1 hcf
  have hc := py0 d gd.1 t gt.1 hcf
  have h1 := fL0 d gd.1 hds t gt.1 (by omega) hcf
  have h2 := bI0 d gd.1 hds t gt.1 (by omega) hcf
  have hpath := fc1 d hc t _ hD
  have hin := fr1 d t _ hD
  obtain ⟨X, hX⟩ : ∃ X, X = qR0 d t := ⟨_, rfl⟩
  rw [← hX] at h1 h2 hD hpath hin
  have hgw : ∀ v, v ∈ X.te → v.wf := fun v hv => (hD.good v hv).1.2.2
  have h3 := vY0 X.te X.mo X.fu (by have := hD.len; omega) hgw (by have := hD.mlen; omega) (fun m hm => by
   obtain ⟨i, j, q, v, e, k1, k2, _⟩ := hD.mv m hm
   rw [e]
   have := (wX0 d hc.2.2.1 v (hD.good v (List.mem_of_getElem? k1)) q k2).1
   simp only [rdG]; omega)
  have hpos : 0 < X.te.length := (List.getElem?_eq_some_iff.1 hD.first).1
  have hlen := hD.len
  obtain ⟨k, hk⟩ : ∃ k, k = n % X.te.length := ⟨_, rfl⟩
  have hkl : k < X.te.length := by rw [hk]; exact Nat.mod_lt _ hpos
  obtain ⟨qs, p1, p2, p3, p4⟩ := hpath k hkl
  have h5 := (bi0 X (by omega) (by have := hD.mlen; omega) (fun m hm => by
   obtain ⟨i, j, q, v, e, k1, k2, _⟩ := hD.mv m hm
   rw [e]
   have := (wX0 d hc.2.2.1 v (hD.good v (List.mem_of_getElem? k1)) q k2).1
   simp only [rdG]; omega) (k : Int)).sat
  rw [p1] at h5
  simp only [xK1, Option.getD_some, Option.isSome_some, ca1] at h5
  obtain ⟨u, hu⟩ : ∃ u, X.te[k]? = some u := ⟨_, List.getElem?_eq_getElem hkl⟩
  have hum := List.mem_of_getElem? hu
  have huw := hgw u hum
  have hus : u.size < 540 := (hD.good u hum).1.1
  have h6 := bp0 d gd.1 hds t gt.1 (by omega) qs (by omega) (fun x hx => by have := p4 x hx; omega)
  unfold fq0 at h6
  rw [if_pos hcf, p2, hu] at h6
  simp only [Option.getD_some, Option.isSome_some] at h6
  have h7 := zt0 u huw u
  rw [Tm.eqb_refl] at h7
  have h8 := pP0 d gd.1 hds u huw (by omega)
  have hin := fun hf v hv => hin hf u v hum hv
  have heq := fun x hx y => zt0 x (hgw x hx) y
  have hur : (X.te.map Tm.enc).getD k [] = u.enc := by
   rw [List.getD_eq_getElem?_getD, List.getElem?_map, hu]; rfl
  clear hD hX hgw hpath p1 p2 p4 hcf
  generalize hsb : bs0 d u = sb at h8 hin
  obtain ⟨te, mo, fu⟩ := X
  obtain ⟨⟨dso, dop⟩, dru, dst⟩ := d
  obtain ⟨tk, tn, tz, ta⟩ := t
  obtain ⟨uk, un, uz, ua⟩ := u
  simp only [pL1] at h1 h2 h5
  simp only at h3 hpos hlen hk hkl hur hin heq
  simp only [Tm.enc] at hur
  refine wj0 ?_
  refine CallK.mk hd ?_
  refine mX1 ?_
  refine c0' h1 ?_
  refine c0' h2 ?_
  refine c9' h3 ?_
  refine ⟨fun h => absurd h (by omega), fun _ => CallK.mk hat ?_⟩
  refine bW0 ?_
  have hkm : (n : Int).tmod (te.length : Int) = (k : Int) := by rw [hk, Int.natCast_emod]; exact Int.tmod_eq_emod_of_nonneg (by omega)
  rw [hkm]
  have hkl2 : (k : Int) < (te.length : Int) := by omega
  refine ⟨by omega, fun _ => CallK.mk h5 ?_⟩
  refine mY1 ?_
  refine CallK.mk h6 ?_
  simp -implicitDefEqProofs (disch := omega) only [go_sem, List.length_map, hkl, hur, Tm.enc]
  refine CallK.mk h7 ?_
  refine mY1 ?_
  refine CallK.mk h8 ?_
  refine mY1 ?_
  intro hf hs
  obtain ⟨v, rfl⟩ := Option.isSome_iff_exists.1 hs
  obtain ⟨j, hj, hje⟩ := List.mem_iff_getElem.1 (hin hf v rfl)
  simp only at hj hje
  obtain ⟨vk, vn, vz, va⟩ := v
  refine zn0 [] (ι := Nat) (fun i => mk 102 [(5, .one (.ptr 5 0)), (11, .one (.ptr 11 0)), (13, zG0 i)] [(5, .var [.c (.sl (te.map Tm.enc)), .c (.sl (mo.map GMove.enc)), .c (.v (.bool fu))]), (11, .var (ji0 (.mk vk vn vz va)))]) (fun i => i ≤ j) (fun i => te.length - i) 0 (Nat.zero_le _) ?_ zE0 zA0 (by decide +kernel) ?_
  ·exact le_mk (by simp [go_sem]) (by simp [go_sem, Tm.enc, ji0])
  ·intro i hi
   have hlt : i < te.length := by omega
   have hg := zD0 (ec := Tm.enc) hlt
   have hq := heq te[i] (List.getElem_mem hlt) (.mk vk vn vz va)
   have hne : te[i].eqb (.mk vk vn vz va) = false → i ≠ j := by
    rintro h rfl
    rw [hje, Tm.eqb_refl] at h; cases h
   generalize te[i] = x at hg hq hne
   generalize x.eqb (.mk vk vn vz va) = b at hq hne
   obtain ⟨xk, xn, xz, xa⟩ := x
   simp only [Tm.enc] at hg
   simp only [ji0]
   refine cM1 ?_
   refine c0' hq ?_
   intro h
   have := hne h
   exact cr1
end Go.Ai
