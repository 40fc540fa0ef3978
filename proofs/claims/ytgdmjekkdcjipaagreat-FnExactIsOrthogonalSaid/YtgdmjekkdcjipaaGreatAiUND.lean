/- Overlaps of two rules in the reference. -/
import Derived.Test.YtgdmjekkdcjipaaGreatAiUNC
set_option linter.unusedVariables false
set_option linter.unusedSimpArgs false
namespace Go.Ai
open Go.Proofs
set_option maxRecDepth 100000
theorem kp1 (d : GDefinition) (hst : d.st.length < 1048577) (le ri : Tm) (hli : leOk le) (hlk : leOk ri) (i k : Int) (p : List Int) (hp : p ∈ le.pos) : ∃ (u : Tm) (b : Bool) (L : List GBind) (o : Option Tm),
  Sat Tryz.prog 59 [tmV le, slV (p.map zO0)] (.tup [tmV u, boolV true]) ∧ Sat Tryz.prog 24 [qA0 d.enc, tmV le, slV (p.map zO0)] (boolV b) ∧
  Sat Tryz.prog 101 [tmV u, tmV (ri.ren s2)] (.tup [slV (L.map GBind.enc), boolV o.isSome]) ∧ (∀ t, o = some t → Sat Tryz.prog 49 [slV (L.map GBind.enc), tmV le] (tmV t)) ∧
  kZ1 d.st le (ri.ren s2) i k p = if u.kd = 1 ∨ b = false ∨ (p.length = 0 ∧ k ≤ i) then none else o.map (fun t => ⟨i, k, p, t⟩) := by
 have hlis := zS0 le hli.ok
 have hlks := zS0 ri hlk.ok
 have hic := hli.cnt
 have hkc := hlk.cnt
 obtain ⟨hs, hpl⟩ := gK0 le p hp
 obtain ⟨u, hu⟩ := Option.isSome_iff_exists.1 hs
 have hat := px0 le (by omega) p (by omega)
 rw [hu] at hat
 have huo := jE1 p le u hli.ok hu
 have huc := ts0 p le u 60 hic hu
 have huw := jF1 p le u hli.wf hu
 have hun := cb0 u (ri.ren s2) huo huc hlk.ok2 (by rw [pi0]; exact hkc) huw hlk.wf2
 refine ⟨u, isSP d.st le p, tU0 u (ri.ren s2) (qp0 u (ri.ren s2)), (qp0 u (ri.ren s2)).map fun s => le.sub (tU0 u (ri.ren s2) (some s)), hat, gd0 d hst le (by omega) p (by simp only [maxLen]; omega), by rw [Option.isSome_map]; exact hun, fun t ht => ?_, ?_⟩
 ·cases hr : qp0 u (ri.ren s2) with
  | none => rw [hr] at ht; cases ht
  | some s =>
   rw [hr] at ht
   obtain rfl := Option.some.inj ht
   have h1 := gx0 u (ri.ren s2) huo huc hlk.ok2 s hr
   refine wX0 _ ?_ (rG0 s _ h1.1) le (by omega)
   have h2 := kk0 s (zr0 (zr0 u.vars ++ zr0 (ri.ren s2).vars))
   have h3 := qF0 (zr0 u.vars ++ zr0 (ri.ren s2).vars)
   have h4 := qF0 u.vars
   have h5 := qF0 (ri.ren s2).vars
   have h6 := zN0 u
   have h7 := zN0 (ri.ren s2)
   have h8 := zS0 u huo
   have h9 := zS0 _ hlk.ok2
   rw [pi0] at h9
   rw [List.length_append] at h3
   show (qK0 s _).length < _
   omega
 ·rw [kZ1, hu, Option.getD_some]
  split
  ·rfl
  ·cases qp0 u (ri.ren s2) <;> rfl
theorem np0 {α : Type} {p : List α} (b1 : ((p.length : Int) == 0) = false) (h : p.length = 0) : False := by
 rw [h] at b1; cases b1
theorem gh0 (d : GDefinition) (hd : d.size < 1048577) (hle : ∀ x, x ∈ d.ru → leOk x.le) (i k : Nat) (hi : i < d.ru.length) (hk : k < d.ru.length) (acc : List GOverlap) (hacc : acc.length < 1000000000) : ff0 Tryz.prog 42 [qA0 d.enc, zD0 i, zD0 k] [] 41 7 (rowsOf GOverlap.enc acc) (rowsOf GOverlap.enc (acc ++ ovP d i k d.ru[i].le d.ru[k].le)) [] := by
 have hde : d.enc = [.sl (d.si.so.map encS), .sl (d.si.op.map GOp.enc), .sl (d.ru.map GRule.enc), .sl (d.st.map GStrict.enc)] := rfl
 have hst : d.st.length < 1048577 := by have := zQ0 GStrict.size d.st; simp only [GDefinition.size] at hd; omega
 have hgi := zC0 (ec := GRule.enc) hi
 have hgk := zC0 (ec := GRule.enc) hk
 have hli := hle _ (List.getElem_mem hi)
 have hlk := hle _ (List.getElem_mem hk)
 generalize d.ru[i] = x at hgi hli
 generalize d.ru[k] = y at hgk hlk
 have hlis := zS0 x.le hli.ok
 have hlks := zS0 y.le hlk.ok
 have hic := hli.cnt
 have hkc := hlk.cnt
 have hrn := mt0 s2 (by decide) y.le (by omega)
 have hps := kH0 x.le (by omega)
 have hq := fun p hp => kp1 d hst x.le y.le hli hlk i k p hp
 have hpl := fun p hp => (gK0 x.le p hp).2
 have hpc := cJ0 x.le
 rw [ovP]
 obtain ⟨f, hf⟩ : ∃ f, f = kZ1 d.st x.le (y.le.ren s2) i k := ⟨_, rfl⟩
 rw [← hf] at hq ⊢
 generalize y.le.ren s2 = other at hrn hq
 generalize x.le.pos = ps at hps hq hpl hpc
 obtain ⟨xna, ⟨xk, xn, xs, xt⟩, ⟨rk, rn, rs, rt⟩, xg⟩ := x
 obtain ⟨yna, ⟨yk, yn, ys, yt⟩, ⟨qk, qn, qs, qt⟩, yg⟩ := y
 obtain ⟨ok_, on, os, ot⟩ := other
 simp only [GRule.enc, Tm.enc, encS, zj0, List.cons_append, List.nil_append] at hgi hgk
 simp only at hlis hic hps hpl hpc hq hlks hkc hrn
 clear hf hle hli hlk
 refine ko0 [(7, ([], [])), (8, ([], [])), (11, ([], []))] zE0 zB0 Tryz.func42 rfl rfl rfl (by decide +kernel) (by decide +kernel) (Nat.le_of_ble_eq_true rfl) (by decide) rfl (rowsOf_cl) (rowsOf_cl) rowsOf_noD rowsOf_noD ?_
 simp -implicitDefEqProofs (disch := omega) only [go_sem, hde, hgi, hgk, hi, hk, List.length_map]
 refine CallK.mk hrn ?_
 simp -implicitDefEqProofs (disch := omega) only [go_sem, Tm.enc]
 refine CallK.mk hps ?_
 simp -implicitDefEqProofs (disch := omega) only [go_sem, Tm.enc]
 obtain ⟨R, hR⟩ : ∃ R : Nat → List GOverlap, R = fun n => acc ++ (ps.take n).filterMap f := ⟨_, rfl⟩
 have hR0 : R 0 = acc := by rw [hR]; simp
 have hRe : R ps.length = acc ++ ps.filterMap f := by rw [hR]; simp
 have hRl : ∀ n, (R n).length ≤ acc.length + n := by
  intro n; rw [hR]
  have h1 := List.length_filterMap_le f (ps.take n)
  rw [List.length_take] at h1
  simp only [List.length_append]; omega
 have hRs : ∀ n (h : n < ps.length), R (n + 1) = R n ++ (f ps[n]).toList := by
  intro n h; rw [hR]
  simp only [List.take_add_one, List.getElem?_eq_getElem h, Option.toList_some, List.filterMap_append, List.append_assoc]
  congr 2
  try (cases e : f ps[n] <;> simp [List.filterMap, e])
 rw [← hRe]
 clear hR
 refine zf0 [(7, ([], [])), (8, ([], [])), (11, ([], []))] (ι := Nat) (fun m => mk 94 [(1, zD0 i), (2, zD0 k), (3, .one (.own 9001 (R m).length)), (4, .one (.ptr 4 0)), (9, .one (.ptr 9 0)), (10, .one (.ptr 10 0)), (11, slV (ps.map xm0)), (12, zD0 m)] [(4, .var [.c (.sl (d.si.so.map encS)), .c (.sl (d.si.op.map GOp.enc)), .c (.sl (d.ru.map GRule.enc)), .c (.sl (d.st.map GStrict.enc))]), (9, .var [iC xk, iC xn, sC xs, tC xt]), (10, .var [iC ok_, iC on, sC os, tC ot]), (9001, .arr 41 7 (rowsOf GOverlap.enc (R m)) false)])
  (fun m => m ≤ ps.length) (fun m => ps.length - m) 0 (Nat.zero_le _) ?_ zE0 zB0 (by decide +kernel) ?_
 ·exact zG0 (by simp [go_sem, hR0]) (by simp [go_sem, hR0])
 ·intro m hm
  rcases Nat.lt_or_ge m ps.length with hlt | hge
  ·have hg := zC0 (ec := xm0) hlt
   have hs := hRs m hlt
   have hl := hRl m
   have hpm := hpl _ (List.getElem_mem hlt)
   obtain ⟨u, b, L, o, q1, q2, q3, q4, q5⟩ := hq _ (List.getElem_mem hlt)
   rw [q5] at hs
   clear q5
   generalize ps[m] = p at hg hs q1 q2 hpm
   simp only [xm0] at hg
   have hskip : u.kd = 1 ∨ b = false ∨ (p.length = 0 ∧ (k : Int) ≤ i) → R (m + 1) = R m := fun h => by rw [hs, if_pos h]; simp
   have hgo : ¬ (u.kd = 1 ∨ b = false ∨ (p.length = 0 ∧ (k : Int) ≤ i)) → R (m + 1) = R m ++ (o.map fun t => (⟨i, k, p, t⟩ : GOverlap)).toList := fun h => by rw [hs, if_neg h]
   clear hs
   obtain ⟨uk, un, us, ut⟩ := u
   simp only [Tm.kd] at hskip hgo
   simp -implicitDefEqProofs (disch := omega) only [go_sem, hg, hlt, List.length_map, hde]
   refine CallK.mk q1 ?_
   simp -implicitDefEqProofs (disch := omega) only [go_sem, hg, hlt, List.length_map, hde, Tm.enc]
   refine ⟨fun a1 => CallK.mk q2 ?_, fun a1 => ⟨m + 1, hlt, by omega, ?_⟩⟩
   ·have a1' : ¬ uk = 1 := by simpa using a1
    cases b with
    | false =>
     simp -implicitDefEqProofs (disch := omega) only [go_sem, hg, hlt, List.length_map, hde, Tm.enc]
     refine ⟨m + 1, hlt, by omega, ?_⟩
     rw [hskip (.inr (.inl rfl))]
     exact lek
    | true =>
     simp -implicitDefEqProofs (disch := omega) only [go_sem, hg, hlt, List.length_map, hde, Tm.enc]
     refine ⟨fun b1 => ⟨fun b2 => ⟨m + 1, hlt, by omega, ?_⟩, fun b2 => ?_⟩, fun b1 => ?_⟩
     ·rw [hskip (.inr (.inr ⟨by omega, by omega⟩))]
      exact lek
     rotate_left 1
     have hn : ¬ (uk = 1 ∨ true = false ∨ (p.length = 0 ∧ (k : Int) ≤ i)) := by rintro (h | h | ⟨h, h2⟩); exact a1' h; cases h; first | omega | exact np0 b1 h
     rotate_left 1
     have hn : ¬ (uk = 1 ∨ true = false ∨ (p.length = 0 ∧ (k : Int) ≤ i)) := by rintro (h | h | ⟨h, h2⟩); exact a1' h; cases h; first | omega | exact np0 b1 h
     all_goals (
      refine CallK.mk q3 ?_
      have hgo' := hgo hn
      cases o with
      | none =>
       simp only [Option.map_none, Option.toList_none, List.append_nil] at hgo'
       simp -implicitDefEqProofs (disch := omega) only [go_sem, hg, hlt, List.length_map, hde, Tm.enc, Option.isSome_none]
       refine ⟨m + 1, hlt, by omega, ?_⟩
       rw [hgo']
       exact lek
      | some t =>
       simp only [Option.map_some, Option.toList_some] at hgo'
       have q4 := q4 t rfl
       obtain ⟨tk, tn, tss, tt⟩ := t
       simp -implicitDefEqProofs (disch := omega) only [go_sem, hg, hlt, List.length_map, hde, Tm.enc, Option.isSome_some]
       refine CallK.mk q4 ?_
       simp -implicitDefEqProofs (disch := omega) only [go_sem, hg, hlt, List.length_map, hde, Tm.enc]
       refine ⟨⟨by simp, by omega, by omega⟩, fun _ => ⟨m + 1, hlt, by omega, ?_⟩⟩
       rw [hgo']
       generalize R m = acc2 at hl
       exact zG0 (by simp [go_sem]) (by simp [go_sem]; rw [← zb0]; rfl))
   ·rw [hskip (.inl a1)]
    exact lek
  ·have hm : m = ps.length := by omega
   subst hm
   simp -implicitDefEqProofs (disch := omega) only [go_sem, Nat.lt_irrefl, List.length_map, hde]
end Go.Ai
