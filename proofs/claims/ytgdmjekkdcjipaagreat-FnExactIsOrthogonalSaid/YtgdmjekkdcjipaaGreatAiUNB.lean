/- UnifyTerms of the program. -/
import Derived.Test.YtgdmjekkdcjipaaGreatAiUNA
set_option linter.unusedVariables false
set_option linter.unusedSimpArgs false
namespace Go.Ai
open Go.Proofs
set_option maxRecDepth 100000
theorem ve1 (e : Tm × Tm) : (eqE e).length = 8 := by simp [eqE, enc_len]
theorem eq8 (x : List C) (hx : x.length = 8) (es : List (Tm × Tm)) : ∀ r, r ∈ x :: es.map eqE → r.length = 8 := by
 intro r hr
 rcases List.mem_cons.1 hr with rfl | hr
 ·exact hx
 ·obtain ⟨e, _, rfl⟩ := List.mem_map.1 hr
  exact ve1 e
def wQ1 (a b : Tm) (r : Option (List GBind)) : List GBind := (r.map fun s => qK0 s (qh0 (qh0 a.vars ++ qh0 b.vars))).getD []
theorem bq0 (a b : Tm) (ha : okN a) (hac : a.cnt ≤ 60) (hb : okN b) (hbc : b.cnt ≤ 60) (hwa : a.wf) (hwb : b.wf) : Sat Tryz.prog 38 [tmV a, tmV b] (.tup [slV ((wQ1 a b (qp0 a b)).map GBind.enc), boolV (qp0 a b).isSome]) := by
 have has := zS0 a ha
 have hbs := zS0 b hb
 have hva := dp0 a (by omega)
 have hvb := dp0 b (by omega)
 have hVl : (a.vars ++ b.vars).length ≤ 2000 := by
  have := zN0 a
  have := zN0 b
  simp only [List.length_append]; omega
 have hnl : (qh0 a.vars).length + (qh0 b.vars).length ≤ 10000 := by
  have := zN0 a; have := zN0 b; have := yV0 a.vars; have := yV0 b.vars
  omega
 have hres := fun (s : List GBind) (h1 : s.length < 100000000) (h2 : ∀ x, x ∈ s → x.t.size < 1048577) => xX0 s h1 h2 (qh0 a.vars ++ qh0 b.vars) (by
  simp only [List.length_append]; omega)
 have hU := UI.start a b ha hb
 have hW : wfE [(a, b)] := fun e he => by rw [List.mem_singleton.1 he]; exact ⟨hwa, hwb⟩
 obtain ⟨R, hR⟩ : ∃ R, R = qp0 a b := ⟨_, rfl⟩
 rw [← hR]
 rw [qp0] at hR
 obtain ⟨n0, hn0⟩ : ∃ n0, n0 = muU (a.vars ++ b.vars) [(a, b)] [] + 1 := ⟨_, rfl⟩
 have hmu : muU (a.vars ++ b.vars) [(a, b)] [] < n0 := by omega
 rw [← hn0] at hR
 clear hn0
 generalize a.vars ++ b.vars = VS at hVl hU hmu
 generalize hna : qh0 a.vars = na at hva hres hnl
 generalize hnb : qh0 b.vars = nb at hvb hres hnl
 rw [wQ1, hna, hnb]
 clear hna hnb
 obtain ⟨ak, an, as', at_⟩ := a
 obtain ⟨bk, bn, bs', bt⟩ := b
 refine svc [(14, ([], []))] zE0 zB0 Tryz.func38 ?_
 simp -implicitDefEqProofs (disch := omega) only [go_sem, Tm.enc]
 refine zf0 [(14, ([], []))] (ι := Nat × List (Tm × Tm) × List GBind) (fun i => mk 54 [(2, .one (.ptr 2 0)), (3, .one (.ptr 3 0)), (6, slV (i.2.2.map GBind.enc)), (7, slV (i.2.1.map eqE))] [(2, .var [iC ak, iC an, sC as', tC at_]), (3, .var [iC bk, iC bn, sC bs', tC bt])])
  (fun i => UI (.mk ak an as' at_) (.mk bk bn bs' bt) VS i.2.1 i.2.2 ∧ muU VS i.2.1 i.2.2 < i.1 ∧ R = yF0 i.1 i.2.1 i.2.2 ∧ wfE i.2.1 ∧ xR1 i.2.2) (fun i => i.1) (n0, [(.mk ak an as' at_, .mk bk bn bs' bt)], []) ⟨hU, hmu, hR, hW, fun _ h => by cases h⟩ ?_ zE0 zB0 (by decide +kernel) ?_
 ·refine (cj0 (t := 6) rfl (by decide)).trans ?_
  refine (vj0 (t := 7) (l := 16) (rows' := [eqE (.mk ak an as' at_, .mk bk bn bs' bt)]) rfl rfl rfl (by decide) rfl).trans ?_
  exact lek
 ·rintro ⟨n, es, s⟩ ⟨hu, hm, hr, hw, hwb⟩
  simp only at hu hm hr hw hwb
  cases n with
  | zero => exact absurd hm (Nat.not_lt_zero _)
  | succ n =>
   have hsl : s.length ≤ 2000 := by have := hu.len; omega
   cases es with
   | nil =>
    have hr : R = some s := hr
    subst hr
    have hrs := hres s (by omega) (fun q hq => by have h7 := hu.sok q hq; have := zS0 q.t h7.1; omega)
    simp -implicitDefEqProofs (disch := omega) only [go_sem]
    refine ⟨fun h => by simp at h, fun _ => CallK.outN hva rfl rfl ?_⟩
    simp -implicitDefEqProofs (disch := omega) only [go_sem]
    refine CallK.outN hvb rfl rfl ?_
    have eap : rowsOf encS na ++ rowsOf encS nb = rowsOf encS (na ++ nb) := zb0 nb
    simp -implicitDefEqProofs (disch := omega) only [go_sem, eap]
    refine ⟨⟨rowsOf_l (fun _ => rfl), by omega, by omega⟩, fun _ => CallK.mk hrs ?_⟩
    simp -implicitDefEqProofs (disch := omega) only [go_sem]
    rfl
   | cons e es =>
    obtain ⟨x, y⟩ := e
    obtain ⟨z1, z2, z3, z4, z5, z6⟩ := hu.sizes ha hac hb hbc
    have hst := bp0 s x y z6 (by omega) z1 z2 (bN0 s hwb x (hw (x, y) List.mem_cons_self).1) z3 z4
    obtain ⟨rt, hrt⟩ : ∃ rt, rt = qP0 s x y := ⟨_, rfl⟩
    have hrn : rt = none → R = none := fun h => by rw [hr, yF0, ← hrt, h]
    have hrl : ∀ s' more, rt = some (s', more) → qn0 s' = true → R = none := fun s' more h hl => by rw [hr, yF0, ← hrt, h]; simp only [hl]; rfl
    have hrs : ∀ s' more, rt = some (s', more) → qn0 s' = false → R = yF0 n (more ++ es) s' ∧ UI (.mk ak an as' at_) (.mk bk bn bs' bt) VS (more ++ es) s' ∧ muU VS (more ++ es) s' < muU VS ((x, y) :: es) s := fun s' more h hl => ⟨by rw [hr, fE0 n x y es more s s' (by rw [← hrt, h]) hl], hu.step ha hac (by rw [← hrt, h]) hl⟩
    have hrw : ∀ s' more, rt = some (s', more) → (wfE (more ++ es) ∧ xR1 s') ∧ s'.length ≤ s.length + 1 ∧ ∀ q, q ∈ s' → q.t.size < 100000000 := fun s' more h => ⟨rT0 hw hwb (by rw [← hrt, h]), rS0 hu ha hac hb hbc (by rw [← hrt, h])⟩
    rw [← hrt] at hst
    clear hrt hr hu hw
    obtain ⟨xk, xn, xs, xt⟩ := x
    obtain ⟨yk, yn, ys, yt⟩ := y
    simp only [eqE, Tm.enc, List.cons_append, List.nil_append] at hst
    simp -implicitDefEqProofs (disch := omega) only [go_sem, eqE, Tm.enc, List.cons_append, List.nil_append]
    refine ⟨fun _ => ⟨by omega, fun _ => CallK.con [] [9100] rfl hst (by simp [go_sem]) ?_⟩, fun h => absurd h (by simp)⟩
    cases rt with
    | none =>
     obtain rfl := hrn rfl
     simp -implicitDefEqProofs (disch := omega) only [go_sem]
     exact ⟨fun _ => rfl, (fun h => by cases h)⟩
    | some q =>
     obtain ⟨s', more⟩ := q
     have h3 := hrw s' more rfl
     simp only [Option.map_some, Option.getD_some, Option.isSome_some]
     have hl1 := hrl s' more rfl
     have hl2 := hrs s' more rfl
     obtain ⟨⟨k1, k2⟩, k3, k4⟩ := h3
     clear hrn hrl hrs hrw hst
     simp -implicitDefEqProofs (disch := omega) only [go_sem]
     refine zf0 [(14, ([], []))] (ι := Nat) (fun i => mk 54 [(2, .one (.ptr 2 0)), (3, .one (.ptr 3 0)), (7, slV ([.v (.int .i64 xk), .v (.int .i64 xn), .v (.string xs), .sl (Tm.encs xt), .v (.int .i64 yk), .v (.int .i64 yn), .v (.string ys), .sl (Tm.encs yt)] :: es.map eqE)), (8, slV (s'.map GBind.enc)), (9, .one (.own 9100 more.length)), (31, slV (s'.map GBind.enc)), (32, zD0 s'.length), (33, zD0 i)] [(2, .var [iC ak, iC an, sC as', tC at_]), (3, .var [iC bk, iC bn, sC bs', tC bt]), (9100, .arr 129 8 (rowsOf eqE more) false)])
      (fun i => i ≤ s'.length ∧ qn0 s' = qn0 (s'.drop i)) (fun i => s'.length - i) 0 ⟨Nat.zero_le _, by simp⟩ ?_ zE0 zB0 (by decide +kernel) ?_
     ·exact lek
     ·rintro i ⟨hi, he⟩
      rcases Nat.lt_or_ge i s'.length with hlt | hge
      ·have hg := zC0 (ec := GBind.enc) hlt
       have hct := fT0 s'[i].t (by have := k4 _ (List.getElem_mem hlt); omega)
       have he : qn0 s' = (decide (400 < s'[i].t.cnt) || qn0 (s'.drop (i + 1))) := by rw [he, List.drop_eq_getElem_cons hlt]; rfl
       generalize s'[i] = w at hg hct he
       obtain ⟨wna, wk, wn, ws, wt⟩ := w
       simp only [GBind.enc, Tm.enc, encS, List.cons_append, List.nil_append] at hg
       simp only at he hct
       generalize (Tm.mk wk wn ws wt).cnt = c at hct he
       simp -implicitDefEqProofs (disch := omega) only [go_sem, hg, hlt, List.length_map]
       refine CallK.mk hct ?_
       simp -implicitDefEqProofs (disch := omega) only [go_sem, hlt, List.length_map]
       refine ⟨fun h => ?_, fun h => ⟨i + 1, ⟨hlt, ?_⟩, by omega, lek⟩⟩
       ·have hL : qn0 s' = true := by rw [he, decide_eq_true (by omega)]; rfl
        obtain rfl := hl1 hL
        rfl
       ·rw [he, decide_eq_false (by omega)]; rfl
      ·have hi : i = s'.length := by omega
       subst hi
       have hf : qn0 s' = false := by rw [he, List.drop_length]; rfl
       obtain ⟨m1, m2, m3⟩ := hl2 hf
       have hml : (more ++ es).length ≤ 24000 := by
        have h1 := m2.cntE_le ha hac
        have h2 := vi0 (more ++ es) (fun e => (e.1.sub s').cnt) (fun e => ba0 _)
        simp only [ww1] at h1
        omega
       rw [List.length_append] at hml
       have eap : rowsOf eqE more ++ rowsOf eqE es = rowsOf eqE (more ++ es) := zb0 es
       simp -implicitDefEqProofs (disch := omega) only [go_sem, Nat.lt_irrefl, List.length_map, kX0, eap]
       refine ⟨⟨by decide, by omega, eq8 _ rfl es⟩, fun _ => ⟨⟨rowsOf_l ve1, by omega, by omega⟩, fun _ => ⟨(n, more ++ es, s'), ⟨m2, by simp only; omega, m1, k1, k2⟩, by simp only; omega, ?_⟩⟩⟩
       refine (vj0 (t := 7) (l := 9100) (rows' := (more ++ es).map eqE) rfl rfl (by simp [zY0]) (by decide) wi0).trans ?_
       exact lek
end Go.Ai
