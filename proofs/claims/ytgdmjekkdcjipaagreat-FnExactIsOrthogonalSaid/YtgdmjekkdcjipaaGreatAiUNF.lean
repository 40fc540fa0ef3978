/- OverlapsOf of the program. -/
import Derived.Test.YtgdmjekkdcjipaaGreatAiUNE
set_option linter.unusedVariables false
set_option linter.unusedSimpArgs false
namespace Go.Ai
open Go.Proofs
set_option maxRecDepth 100000
def xa1 (o : GOverlap) : List AC := match o.t with | .mk k n s ts => [iC o.fi, iC o.se, .m (.sl (o.at_.map zO0)), iC k, iC n, sC s, .d (.sl (Tm.encs ts))]
def ki0 (l : List GOverlap) : List (List AC) := l.map xa1
theorem qG1 (l : List GOverlap) : (ki0 l).length = l.length := by simp [ki0]
theorem yQ1 (l : List GOverlap) (lb : Lk) (e : TypeId) (sz : Nat) (fz : Bool) : inB lb (.arr e sz (ki0 l) fz) := by
 intro r hr a ha
 obtain ⟨⟨fi, se, p, k, n, s, ts⟩, _, rfl⟩ := List.mem_map.1 hr
 simp only [xa1, List.mem_cons, List.not_mem_nil, or_false] at ha
 rcases ha with rfl | rfl | rfl | rfl | rfl | rfl | rfl <;> trivial
theorem qE1 (l : List GOverlap) (lb : Lk) (e : TypeId) (sz : Nat) (fz : Bool) : inB lb (.arr e sz (ki0 l) fz) = True := eq_true (yQ1 l lb e sz fz)
theorem qF1 (l : List GOverlap) : ∀ r, r ∈ ki0 l → ∀ a, a ∈ r → isO a = true := by
 intro r hr a ha
 obtain ⟨⟨fi, se, p, k, n, s, ts⟩, _, rfl⟩ := List.mem_map.1 hr
 simp only [xa1, List.mem_cons, List.not_mem_nil, or_false] at ha
 rcases ha with rfl | rfl | rfl | rfl | rfl | rfl | rfl <;> rfl
theorem qH1 (l : List GOverlap) : (ki0 l).map (fun r => r.map toC) = l.map GOverlap.enc := by
 simp only [ki0, List.map_map]
 refine List.map_congr_left (fun o _ => ?_)
 obtain ⟨fi, se, p, k, n, s, ts⟩ := o
 rfl
theorem sd0 (l : List GOverlap) (i k : Int) (p : List Int) (tk tn : Int) (ts : ByteArray) (tt : List Tm) : ki0 l ++ [[iC i, iC k, .m (.sl (p.map zO0)), iC tk, iC tn, sC ts, .d (.sl (Tm.encs tt))]] = ki0 (l ++ [⟨i, k, p, .mk tk tn ts tt⟩]) := by
 simp [ki0, xa1]
theorem tF0 (p : List Int) : ∀ r, r ∈ rowsOf zO0 p → ∀ x, x ∈ r → isO x = true := by
 intro r hr a ha
 obtain ⟨x, _, rfl⟩ := List.mem_map.1 hr
 simp [zO0] at ha
 subst ha; rfl
attribute [go_sem ↓] qE1
attribute [go_sem] qG1 qH1
theorem kB1 (d : GDefinition) (hst : d.st.length < 1048577) (le ri : Tm) (hli : leOk le) (hlk : leOk ri) (i k : Int) (p : List Int) (hp : p ∈ le.pos) : ∃ (u : Tm) (b : Bool) (L : List GBind) (o : Option Tm),
  Sat Tryz.prog 37 [tmV le, slV (p.map zO0)] (.tup [tmV u, boolV true]) ∧ Sat Tryz.prog 23 [qA0 d.enc, tmV le, slV (p.map zO0)] (boolV b) ∧
  Sat Tryz.prog 38 [tmV u, tmV (ri.ren s2)] (.tup [slV (L.map GBind.enc), boolV o.isSome]) ∧ (∀ t, o = some t → SatF Tryz.prog 40 [slV (L.map GBind.enc), tmV le] (tmV t)) ∧
  kZ1 d.st le (ri.ren s2) i k p = if u.kd = 1 ∨ b = false ∨ (p.length = 0 ∧ k ≤ i) then none else o.map (fun t => ⟨i, k, p, t⟩) := by
 have hlis := zS0 le hli.ok
 have hlks := zS0 ri hlk.ok
 have hic := hli.cnt
 have hkc := hlk.cnt
 obtain ⟨hs, hpl⟩ := gK0 le p hp
 obtain ⟨u, hu⟩ := Option.isSome_iff_exists.1 hs
 have hat := sR0 le (by omega) p (by omega)
 rw [hu] at hat
 have huo := jE1 p le u hli.ok hu
 have huc := ts0 p le u 60 hic hu
 have huw := jF1 p le u hli.wf hu
 have hun := bq0 u (ri.ren s2) huo huc hlk.ok2 (by rw [pi0]; exact hkc) huw hlk.wf2
 refine ⟨u, isSP d.st le p, wQ1 u (ri.ren s2) (qp0 u (ri.ren s2)), (qp0 u (ri.ren s2)).map fun s => le.sub (wQ1 u (ri.ren s2) (some s)), hat, dl0 d hst le (by omega) p (by simp only [maxLen]; omega), by rw [Option.isSome_map]; exact hun, fun t ht => ?_, ?_⟩
 ·cases hr : qp0 u (ri.ren s2) with
  | none => rw [hr] at ht; cases ht
  | some s =>
   rw [hr] at ht
   obtain rfl := Option.some.inj ht
   have h1 := gx0 u (ri.ren s2) huo huc hlk.ok2 s hr
   refine wV0 _ ?_ (rG0 s _ h1.1) le (by omega)
   have h2 := kk0 s (qh0 (qh0 u.vars ++ qh0 (ri.ren s2).vars))
   have h3 := yV0 (qh0 u.vars ++ qh0 (ri.ren s2).vars)
   have h4 := yV0 u.vars
   have h5 := yV0 (ri.ren s2).vars
   have h6 := zN0 u
   have h7 := zN0 (ri.ren s2)
   have h8 := zS0 u huo
   have h9 := zS0 _ hlk.ok2
   rw [pi0] at h9
   rw [List.length_append] at h3
   show (qK0 s _).length < _
   omega
 ·rw [kZ1, hu, Option.getD_some]
  split
  ·rfl
  ·cases qp0 u (ri.ren s2) with
   | none => rfl
   | some s => simp only [Option.map_some, ym1]
theorem xW0 (d : GDefinition) (hd : d.size < 1048577) (hle : fS0 d = true → (∀ x, x ∈ d.ru → leOk x.le) ∧ d.ru.length ≤ 16) : SatF Tryz.prog 9 [qA0 d.enc] (slV ((ovs d).map GOverlap.enc)) := by
 have hde : d.enc = [.sl (d.si.so.map encS), .sl (d.si.op.map GOp.enc), .sl (d.ru.map GRule.enc), .sl (d.st.map GStrict.enc)] := rfl
 have hv := pM0 d hd
 have hst : d.st.length < 1048577 := by have := zQ0 GStrict.size d.st; simp only [GDefinition.size] at hd; omega
 obtain ⟨r, hr⟩ : ∃ r, r = ovs d := ⟨_, rfl⟩
 rw [← hr]
 refine sfv [(18, ([], []))] [slV (r.map GOverlap.enc)] rfl (fun _ h => by cases h) zE0 zB0 Tryz.func9 ?_
 simp -implicitDefEqProofs (disch := omega) only [go_sem, hde]
 refine CallK.mk hv ?_
 by_cases hb : fS0 d = true
 ·obtain ⟨h1, h2⟩ := hle hb
  rw [ovs, if_pos hb] at hr
  rw [hb]
  simp -implicitDefEqProofs (disch := omega) only [go_sem, hde]
  refine zf0 [(18, ([], []))] (ι := Nat) (fun i => mk 96 [(1, .one (.ptr 1 0)), (3, .one (.own 9000 (qX1 d i).length)), (19, slV (d.ru.map GRule.enc)), (20, zD0 d.ru.length), (21, zD0 i)] [(1, .var [.c (.sl (d.si.so.map encS)), .c (.sl (d.si.op.map GOp.enc)), .c (.sl (d.ru.map GRule.enc)), .c (.sl (d.st.map GStrict.enc))]), (9000, .arr 41 7 (ki0 (qX1 d i)) false)])
   (fun i => i ≤ d.ru.length) (fun i => d.ru.length - i) 0 (Nat.zero_le _) ?_ zE0 zB0 (by decide +kernel) ?_
  ·refine (yG0 (t := 3) 9000 41 7 rfl (by decide) rfl (by decide)).trans ?_
   exact zG0 (by simp [go_sem, jN0]) (by simp [go_sem, jN0, ki0])
  ·intro i hi
   rcases Nat.lt_or_ge i d.ru.length with hlt | hge
   ·have hgi := zC0 (ec := GRule.enc) hlt
    have hli := h1 _ (List.getElem_mem hlt)
    have hei := pQ0 d i hlt
    have hlen := fun k hk => cG0 d h1 h2 i k hlt hk
    generalize d.ru[i] = x at hgi hli hei
    have hlis := zS0 x.le hli.ok
    have hic := hli.cnt
    have hps := jz0 x.le (by omega)
    have hq := fun y hy k p hp => kB1 d hst x.le y hli hy i k p hp
    have hpl := fun p hp => (gK0 x.le p hp).2
    have hpc := cJ0 x.le
    have hsuc := fun k => gG0 d i k
    rw [hei] at hsuc
    simp only [ovP] at hsuc
    generalize x.le.pos = ps at hps hq hpl hpc hsuc
    clear hei
    obtain ⟨xna, ⟨xk, xn, xs, xt⟩, ⟨rk, rn, rs, rt⟩, xg⟩ := x
    simp only [GRule.enc, Tm.enc, encS, zj0, List.cons_append, List.nil_append] at hgi
    simp only at hlis hic hps hq hpl hpc hsuc
    simp -implicitDefEqProofs (disch := omega) only [go_sem, hgi, hlt, List.length_map, hde]
    refine zf0 [(18, ([], []))] (ι := Nat) (fun k => mk 96 [(1, .one (.ptr 1 0)), (3, .one (.own 9000 (gF0 d i k).length)), (4, zD0 i), (5, .one (.ptr 5 0)), (19, slV (d.ru.map GRule.enc)), (20, zD0 d.ru.length), (21, zD0 i), (27, slV (d.ru.map GRule.enc)), (28, zD0 d.ru.length), (29, zD0 k)] [(1, .var [.c (.sl (d.si.so.map encS)), .c (.sl (d.si.op.map GOp.enc)), .c (.sl (d.ru.map GRule.enc)), .c (.sl (d.st.map GStrict.enc))]), (5, .var [sC xna, iC xk, iC xn, sC xs, tC xt, iC rk, iC rn, sC rs, tC rt, .c (.sl (xg.map GGuard.enc))]), (9000, .arr 41 7 (ki0 (gF0 d i k)) false)])
     (fun k => k ≤ d.ru.length) (fun k => d.ru.length - k) 0 (Nat.zero_le _) ?_ zE0 zB0 (by decide +kernel) ?_
    ·exact zG0 (by simp [go_sem, kj0]) (by simp [go_sem, kj0])
    ·intro k hk
     rcases Nat.lt_or_ge k d.ru.length with hkt | hge
     ·have hgk := zC0 (ec := GRule.enc) hkt
      have hlk := h1 _ (List.getElem_mem hkt)
      have hek := pQ0 d k hkt
      have hsu := hsuc k
      rw [hek] at hsu
      have hln := hlen k hk
      generalize d.ru[k] = y at hgk hlk hsu
      have hlks := zS0 y.le hlk.ok
      have hkc := hlk.cnt
      have hrn := mK0 s2 (by decide) y.le (by omega)
      have hq := hq y.le hlk k
      generalize y.le.ren s2 = other at hrn hq hsu
      clear hek
      obtain ⟨yna, ⟨yk, yn, ys, yt⟩, ⟨qk, qn, qs, qt⟩, yg⟩ := y
      obtain ⟨ok_, on, os, ot⟩ := other
      simp only [GRule.enc, Tm.enc, encS, zj0, List.cons_append, List.nil_append] at hgk
      simp only at hlks hkc hrn
      simp -implicitDefEqProofs (disch := omega) only [go_sem, hgk, hkt, List.length_map, hde]
      refine CallK.mk hrn ?_
      simp -implicitDefEqProofs (disch := omega) only [go_sem, Tm.enc]
      refine CallK.mk hps ?_
      simp -implicitDefEqProofs (disch := omega) only [go_sem, Tm.enc]
      obtain ⟨acc, hac⟩ : ∃ acc, acc = gF0 d i k := ⟨_, rfl⟩
      rw [← hac] at hsu hln
      obtain ⟨f, hf⟩ : ∃ f, f = kZ1 d.st (.mk xk xn xs xt) (.mk ok_ on os ot) i k := ⟨_, rfl⟩
      rw [← hf] at hsu hq
      obtain ⟨R, hR⟩ : ∃ R : Nat → List GOverlap, R = fun n => acc ++ (ps.take n).filterMap f := ⟨_, rfl⟩
      have hR0 : R 0 = acc := by rw [hR]; simp
      have hRe : R ps.length = gF0 d i (k + 1) := by rw [hR, hsu]; simp
      have hRl : ∀ n, (R n).length ≤ acc.length + n := by
       intro n; rw [hR]
       have h1 := List.length_filterMap_le f (ps.take n)
       rw [List.length_take] at h1
       simp only [List.length_append]; omega
      have hRs : ∀ n (h : n < ps.length), R (n + 1) = R n ++ (f ps[n]).toList := by
       intro n h; rw [hR]
       simp only [List.take_add_one, List.getElem?_eq_getElem h, Option.toList_some, List.filterMap_append, List.append_assoc]
       congr 2
       try (cases e : f ps[n] <;> simp [List.filterMap, e])
      clear hR hf hsu hsuc hlen
      refine zf0 [(18, ([], []))] (ι := Nat) (fun m => mk 96 [(1, .one (.ptr 1 0)), (3, .one (.own 9000 (R m).length)), (4, zD0 i), (5, .one (.ptr 5 0)), (6, zD0 k), (8, .one (.ptr 8 0)), (19, slV (d.ru.map GRule.enc)), (20, zD0 d.ru.length), (21, zD0 i), (27, slV (d.ru.map GRule.enc)), (28, zD0 d.ru.length), (29, zD0 k), (39, slV (ps.map xm0)), (40, zD0 ps.length), (41, zD0 m)] [(1, .var [.c (.sl (d.si.so.map encS)), .c (.sl (d.si.op.map GOp.enc)), .c (.sl (d.ru.map GRule.enc)), .c (.sl (d.st.map GStrict.enc))]), (5, .var [sC xna, iC xk, iC xn, sC xs, tC xt, iC rk, iC rn, sC rs, tC rt, .c (.sl (xg.map GGuard.enc))]), (8, .var [iC ok_, iC on, sC os, tC ot]), (9000, .arr 41 7 (ki0 (R m)) false)])
       (fun m => m ≤ ps.length) (fun m => ps.length - m) 0 (Nat.zero_le _) ?_ zE0 zB0 (by decide +kernel) ?_
      ·exact zG0 (by simp [go_sem, hR0, hac]) (by simp [go_sem, hR0, hac])
      ·intro m hm
       rcases Nat.lt_or_ge m ps.length with hmt | hge
       ·have hg := zC0 (ec := xm0) hmt
        have hs := hRs m hmt
        have hl := hRl m
        have hpm := hpl _ (List.getElem_mem hmt)
        obtain ⟨u, b, L, o, q1, q2, q3, q4, q5⟩ := hq _ (List.getElem_mem hmt)
        rw [q5] at hs
        clear q5
        generalize ps[m] = p at hg hs q1 q2 hpm
        simp only [xm0] at hg
        have hcl := vm0 p (by omega)
        have hskip : u.kd = 1 ∨ b = false ∨ (p.length = 0 ∧ (k : Int) ≤ i) → R (m + 1) = R m := fun h => by rw [hs, if_pos h]; simp
        have hgo : ¬ (u.kd = 1 ∨ b = false ∨ (p.length = 0 ∧ (k : Int) ≤ i)) → R (m + 1) = R m ++ (o.map fun t => (⟨i, k, p, t⟩ : GOverlap)).toList := fun h => by rw [hs, if_neg h]
        clear hs
        obtain ⟨uk, un, us, ut⟩ := u
        simp only [Tm.kd] at hskip hgo
        simp -implicitDefEqProofs (disch := omega) only [go_sem, hg, hmt, List.length_map, hde]
        refine CallK.mk q1 ?_
        simp -implicitDefEqProofs (disch := omega) only [go_sem, hg, hmt, List.length_map, hde, Tm.enc]
        refine ⟨fun a1 => CallK.mk q2 ?_, fun a1 => ⟨m + 1, hmt, by omega, ?_⟩⟩
        ·have a1' : ¬ uk = 1 := by simpa using a1
         cases b with
         | false =>
          simp -implicitDefEqProofs (disch := omega) only [go_sem, hg, hmt, List.length_map, hde, Tm.enc]
          refine ⟨m + 1, hmt, by omega, ?_⟩
          rw [hskip (.inr (.inl rfl))]
          exact lek
         | true =>
          simp -implicitDefEqProofs (disch := omega) only [go_sem, hg, hmt, List.length_map, hde, Tm.enc]
          refine ⟨fun b1 => ⟨fun b2 => ⟨m + 1, hmt, by omega, ?_⟩, fun b2 => ?_⟩, fun b1 => ?_⟩
          ·rw [hskip (.inr (.inr ⟨by omega, by omega⟩))]
           exact lek
          rotate_left 1
          have hn : ¬ (uk = 1 ∨ true = false ∨ (p.length = 0 ∧ (k : Int) ≤ i)) := by rintro (h | h | ⟨h, h2⟩); exact a1' h; cases h; first | omega | exact np0 b1 h
          rotate_left 1
          have hn : ¬ (uk = 1 ∨ true = false ∨ (p.length = 0 ∧ (k : Int) ≤ i)) := by rintro (h | h | ⟨h, h2⟩); exact a1' h; cases h; first | omega | exact np0 b1 h
          all_goals (
           refine CallK.mk q3 ?_
           have hgo' := hgo hn
           cases o with
           | none =>
            simp only [Option.map_none, Option.toList_none, List.append_nil] at hgo'
            simp -implicitDefEqProofs (disch := omega) only [go_sem, hg, hmt, List.length_map, hde, Tm.enc, Option.isSome_none]
            refine ⟨m + 1, hmt, by omega, ?_⟩
            rw [hgo']
            exact lek
           | some t =>
            simp only [Option.map_some, Option.toList_some] at hgo'
            have q4 := q4 t rfl
            obtain ⟨tk, tn, tss, tt⟩ := t
            simp -implicitDefEqProofs (disch := omega) only [go_sem, hg, hmt, List.length_map, hde, Tm.enc, Option.isSome_some]
            refine CallK.outN hcl rfl rfl ?_
            simp -implicitDefEqProofs (disch := omega) only [go_sem, hg, hmt, List.length_map, hde, Tm.enc]
            refine CallK.own q4 rfl ?_
            simp -implicitDefEqProofs (disch := omega) only [go_sem, hg, hmt, List.length_map, hde, Tm.enc]
            refine ⟨⟨by simp, by omega, by omega⟩, fun _ => ⟨m + 1, hmt, by omega, ?_⟩⟩
            refine (tZ0 (l := 9000) (T := 84) (c := 2) rfl rfl rfl (by simp [zY0]) rowsOf_noD (tF0 _) (by decide) qL0).trans ?_
            refine (qU0 (l := 9000) (c := 6) rfl rfl rfl rfl).trans ?_
            simp only [List.set_cons_succ, List.set_cons_zero, sd0]
            rw [hgo', List.length_append, List.length_cons, List.length_nil]
            exact lek)
        ·rw [hskip (.inl a1)]
         exact lek
       ·have hm : m = ps.length := by omega
        subst hm
        rw [hRe]
        simp -implicitDefEqProofs (disch := omega) only [go_sem, Nat.lt_irrefl, List.length_map, hde]
        exact ⟨k + 1, hkt, by omega, lek⟩
     ·have hk : k = d.ru.length := by omega
      subst hk
      rw [cF0]
      simp -implicitDefEqProofs (disch := omega) only [go_sem, Nat.lt_irrefl, List.length_map, hde]
      exact ⟨i + 1, hlt, by omega, lek⟩
   ·have hi : i = d.ru.length := by omega
    subst hi
    rw [hr]
    simp -implicitDefEqProofs (disch := omega) only [go_sem, Nat.lt_irrefl, List.length_map, hde]
    exact qF1 _
 ·have hb' : fS0 d = false := by simpa using hb
  rw [ovs, if_neg hb] at hr
  subst hr
  rw [hb']
  simp -implicitDefEqProofs (disch := omega) only [go_sem, hde]
end Go.Ai
