/- UnifyTerms of the reference. -/
import Derived.Test.YtgdmjekkdcjipaaGreatAiUN7
import Derived.Test.YtgdmjekkdcjipaaGreatAiUN8
set_option linter.unusedVariables false
set_option linter.unusedSimpArgs false
namespace Go.Ai
open Go.Proofs
set_option maxRecDepth 100000
def tU0 (a b : Tm) (r : Option (List GBind)) : List GBind := (r.map fun s => qK0 s (zr0 (zr0 a.vars ++ zr0 b.vars))).getD []
theorem cb0 (a b : Tm) (ha : okN a) (hac : a.cnt ≤ 60) (hb : okN b) (hbc : b.cnt ≤ 60) (hwa : a.wf) (hwb : b.wf) : Sat Tryz.prog 101 [tmV a, tmV b] (.tup [slV ((tU0 a b (qp0 a b)).map GBind.enc), boolV (qp0 a b).isSome]) := by
 have has := zS0 a ha
 have hbs := zS0 b hb
 have hva := gl0 a (by omega)
 have hvb := gl0 b (by omega)
 have hVl : (a.vars ++ b.vars).length ≤ 2000 := by
  have := zN0 a
  have := zN0 b
  simp only [List.length_append]; omega
 have hres := fun (s : List GBind) (h1 : s.length < 100000000) (h2 : ∀ x, x ∈ s → x.t.size < 1048577) => xf0 s h1 h2 (zr0 a.vars ++ zr0 b.vars) (by
  have := zN0 a; have := zN0 b; have := qF0 a.vars; have := qF0 b.vars
  simp only [List.length_append]; omega)
 have hnl : (zr0 a.vars).length + (zr0 b.vars).length ≤ 10000 := by
  have := zN0 a; have := zN0 b; have := qF0 a.vars; have := qF0 b.vars
  omega
 have hU := UI.start a b ha hb
 have hW : wfE [(a, b)] := fun e he => by rw [List.mem_singleton.1 he]; exact ⟨hwa, hwb⟩
 obtain ⟨R, hR⟩ : ∃ R, R = qp0 a b := ⟨_, rfl⟩
 rw [← hR]
 rw [qp0] at hR
 obtain ⟨n0, hn0⟩ : ∃ n0, n0 = muU (a.vars ++ b.vars) [(a, b)] [] + 1 := ⟨_, rfl⟩
 have hmu : muU (a.vars ++ b.vars) [(a, b)] [] < n0 := by omega
 rw [← hn0] at hR
 clear hn0
 generalize a.vars ++ b.vars = VS at hVl hU hmu
 generalize hna : zr0 a.vars = na at hva hres hnl
 generalize hnb : zr0 b.vars = nb at hvb hres hnl
 rw [tU0, hna, hnb]
 clear hna hnb
 obtain ⟨ak, an, as', at_⟩ := a
 obtain ⟨bk, bn, bs', bt⟩ := b
 refine svc [(5, ([⟨1, 8, [30], [35, 37]⟩, ⟨2, 8, [31], [35, 37]⟩, ⟨3, 8, [32], [35, 37]⟩], []))] zE0 zB0 Tryz.func101 ?_
 simp -implicitDefEqProofs (disch := omega) only [go_sem, Tm.enc]
 refine zf0 [(5, ([⟨1, 8, [30], [35, 37]⟩, ⟨2, 8, [31], [35, 37]⟩, ⟨3, 8, [32], [35, 37]⟩], []))] (ι := Nat × List (Tm × Tm) × List GBind) (fun i => mk 40 [(2, .one (.ptr 2 0)), (3, .one (.ptr 3 0)), (6, .one (.ptr 12 0))] [(2, .var [iC ak, iC an, sC as', tC at_]), (3, .var [iC bk, iC bn, sC bs', tC bt]), (12, zB (i.2.1.map Prod.fst) (i.2.1.map Prod.snd) i.2.2)])
  (fun i => UI (.mk ak an as' at_) (.mk bk bn bs' bt) VS i.2.1 i.2.2 ∧ muU VS i.2.1 i.2.2 < i.1 ∧ R = yF0 i.1 i.2.1 i.2.2 ∧ wfE i.2.1 ∧ xR1 i.2.2) (fun i => i.1) (n0, [(.mk ak an as' at_, .mk bk bn bs' bt)], []) ⟨hU, hmu, hR, hW, fun _ h => by cases h⟩ ?_ zE0 zB0 (by decide +kernel) ?_
 ·refine (vC0 12 0 8 (rows' := Tm.encs [.mk ak an as' at_]) rfl rfl rfl rfl rfl).trans ?_
  refine (vC0 12 1 10 (rows' := Tm.encs [.mk bk bn bs' bt]) rfl rfl (by simp [zR0, pJ0]; exact ⟨rfl, rfl, rfl, rfl⟩) rfl rfl).trans ?_
  refine (fI0 12 2 rfl rfl).trans ?_
  exact zG0 (by simp [go_sem]) (by simp [go_sem, Tm.encs, Tm.enc])
 ·rintro ⟨n, es, s⟩ ⟨hu, hm, hr, hw, hwb⟩
  simp only at hu hm hr hw hwb
  cases n with
  | zero => exact absurd hm (Nat.not_lt_zero _)
  | succ n =>
   have hsl : s.length ≤ 2000 := by have := hu.len; omega
   cases es with
   | nil =>
    have hr : R = some s := hr
    subst hr
    have hrs := hres s (by omega) (fun q hq => by have h7 := hu.sok q hq; have := zS0 q.t h7.1; omega)
    simp -implicitDefEqProofs (disch := omega) only [go_sem, Tm.encs]
    refine ⟨fun h => by simp at h, fun _ => CallK.outN hva rfl rfl ?_⟩
    simp -implicitDefEqProofs (disch := omega) only [go_sem, Tm.encs]
    refine CallK.outN hvb rfl rfl ?_
    have eap : rowsOf encS na ++ rowsOf encS nb = rowsOf encS (na ++ nb) := zb0 nb
    simp -implicitDefEqProofs (disch := omega) only [go_sem, Tm.encs, eap]
    refine ⟨⟨rowsOf_l (fun _ => rfl), by omega, by omega⟩, fun _ => CallK.mk hrs ?_⟩
    simp -implicitDefEqProofs (disch := omega) only [go_sem, Tm.encs]
    rfl
   | cons e es =>
    obtain ⟨x, y⟩ := e
    obtain ⟨z1, z2, z3, z4, z5, z6⟩ := hu.sizes ha hac hb hbc
    have hst := sW0 (es.map Prod.fst) (es.map Prod.snd) s x y (by omega) (by omega) (bN0 s hwb x (hw (x, y) List.mem_cons_self).1) (by omega) (by omega) (by omega) z6 (by simp; omega) (by simp; omega)
    simp -implicitDefEqProofs (disch := omega) only [go_sem, Tm.encs]
    refine ⟨fun _ => LoanK.con [12] [] hst rfl (by simp [go_sem]) ?_, fun h => absurd h (by simp)⟩
    cases ht : qP0 s x y with
    | none =>
     have hr : R = none := by rw [hr, yF0, ht]
     subst hr
     simp -implicitDefEqProofs (disch := omega) only [go_sem, Tm.encs]
     exact ⟨(fun h => by cases h), fun _ => rfl⟩
    | some q =>
     obtain ⟨s', more⟩ := q
     have h3 := rS0 hu ha hac hb hbc ht
     have hlg := mS0 s' (by omega) h3.2
     simp only [Option.map_some, Option.getD_some, Option.isSome_some]
     simp -implicitDefEqProofs (disch := omega) only [go_sem, Tm.encs]
     refine CallK.mk hlg ?_
     cases hb8 : qn0 s' with
     | true =>
      have hr : R = none := by rw [hr, yF0, ht]; simp only [hb8]; rfl
      subst hr
      simp -implicitDefEqProofs (disch := omega) only [go_sem, Tm.encs]
      rfl
     | false =>
      obtain ⟨hu2, hm2⟩ := hu.step ha hac ht hb8
      obtain ⟨hw2, hwb2⟩ := rT0 hw hwb ht
      rw [fE0 n x y es more s s' ht hb8] at hr
      simp -implicitDefEqProofs (disch := omega) only [go_sem, Tm.encs]
      refine ⟨(n, more ++ es, s'), ⟨hu2, by simp only; omega, hr, hw2, hwb2⟩, by simp only; omega, ?_⟩
      exact zG0 (by simp [go_sem]) (by simp [go_sem, List.map_append])
end Go.Ai
