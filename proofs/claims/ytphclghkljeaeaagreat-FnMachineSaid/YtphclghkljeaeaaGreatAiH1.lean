/- Guards: what holds. -/
import Derived.Test.YtphclghkljeaeaaGreatAiW1
import Derived.Test.YtphclghkljeaeaaGreatAiI5
import Derived.Test.YtphclghkljeaeaaGreatAiD1
set_option linter.unusedVariables false
set_option linter.unusedSimpArgs false
namespace Go.Ai
open Go.Proofs
set_option maxRecDepth 100000
theorem lk0 {k n : Int} {s : ByteArray} {ts : List Tm} (h : fT0 (.mk k n s ts) = true) : (Tm.mk k n s ts).vars = [] := by
 simp only [fT0, Bool.and_eq_true, beq_iff_eq, decide_eq_true_eq] at h
 obtain ⟨⟨⟨⟨h1, _⟩, _⟩, _⟩, h5⟩ := h
 have : ts = [] := List.eq_nil_of_length_eq_zero h5
 subst this h1
 rfl
theorem rj0 (k n : Int) (s : ByteArray) (ts : List Tm) : (we0 k n s ts).vars = (if k == 1 then [s] else []) ++ Tm.varss ts := by
 unfold we0
 split
 ·split
  ·rename_i h
   simp only [Bool.and_eq_true, beq_iff_eq] at h
   obtain ⟨⟨⟨⟨h1, _⟩, _⟩, h4⟩, h5⟩ := h
   simp only [Tm.varss, lk0 h4, lk0 h5, h1]
   rfl
  ·simp only [Tm.vars]
 ·simp only [Tm.vars]
mutual
theorem jj0 : ∀ (t : Tm), t.red.vars = t.vars
 | .mk k n s ts => by simp only [Tm.red, rj0, reds_vars ts, Tm.vars]
theorem reds_vars : ∀ (ts : List Tm), Tm.varss (Tm.reds ts) = Tm.varss ts
 | [] => rfl
 | a :: ts => by simp only [Tm.reds, Tm.varss, jj0 a, reds_vars ts]
end
def Tm.num : Tm → Int
 | .mk _ n _ _ => n
def wD0 (g : GGuard) : Bool :=
 (g.le.vars.length == 0) && (g.ri.vars.length == 0) && (if g.kd == 1 then g.le.red.eqb g.ri.red else if g.kd == 2 then !(g.le.red.eqb g.ri.red) else if g.kd == 3 then fT0 g.le.red && fT0 g.ri.red && decide (g.le.red.num < g.ri.red.num) else false)
theorem gH0 (g : GGuard) (h1 : g.le.size < 10000000) (h2 : g.ri.size < 10000000) (w1 : g.le.wf) (w2 : g.ri.wf) : Sat Tryz.prog 211 [zW0 g.enc] (boolV (wD0 g)) := by
 obtain ⟨r, hr⟩ : ∃ r, r = wD0 g := ⟨_, rfl⟩
 rw [← hr]
 obtain ⟨kd, le, ri⟩ := g
 simp only at h1 h2 w1 w2
 have hr1 := ws0 le h1
 have hr2 := ws0 ri h2
 have hz1 := ji0 le
 have hz2 := ji0 ri
 have hg1 := yB0 le.red (by omega)
 have hg2 := yB0 ri.red (by omega)
 have hw1 := wr0 le.red (by omega)
 have hw2 := wr0 ri.red (by omega)
 have hwf := red_wf le w1
 simp only [wD0, ← jj0 le, ← jj0 ri] at hr
 generalize le.red = x at hr hr1 hz1 hg1 hw1 hwf
 generalize ri.red = y at hr hr2 hz2 hg2 hw2
 have heq := wk0 x hwf y
 generalize hxv : (x.vars.length == 0) = gx at hr hg1
 generalize hyv : (y.vars.length == 0) = gy at hr hg2
 generalize hxw : fT0 x = wx at hr hw1
 generalize hyw : fT0 y = wy at hr hw2
 generalize hxy : x.eqb y = ex at hr heq
 obtain ⟨lk, ln, ls, lt⟩ := le
 obtain ⟨rk, rn, rs, rt⟩ := ri
 obtain ⟨xk, xn, xs, xt⟩ := x
 obtain ⟨yk, yn, ys, yt⟩ := y
 simp only [Tm.num] at hr
 refine soc zE0 zA0 Tryz.func211 ?_
 refine cr1 ?_
 refine c7' hr1 ?_
 refine c7' hr2 ?_
 refine c7' hg1 ?_
 refine ⟨fun e1 => CallK.mk hg2 ?_, fun e1 => by simp [hr, e1]⟩
 refine ff0 ?_
 refine ⟨fun e2 => by simp [hr, e1, e2], fun e2 => ?_⟩
 refine ⟨fun k1 => CallK.mk heq ?_, fun k1 => ⟨fun k2 => CallK.mk heq ?_, fun k2 => ⟨fun k3 => CallK.mk hw1 ?_, fun k3 => by simp [hr, e1, e2, k1, k2, k3]⟩⟩⟩
 ·refine zX0 ?_
  simp [hr, e1, e2, k1]
 ·refine zX0 ?_
  simp [hr, e1, e2, k1, k2]
 ·refine ff0 ?_
  refine ⟨fun x1 => CallK.mk hw2 ?_, fun x1 => by simp [hr, e1, e2, k1, k2, k3, x1]⟩
  refine ff0 ?_
  refine ⟨fun x2 => ?_, fun x2 => by simp [hr, e1, e2, k1, k2, k3, x1, x2]⟩
  simp [hr, e1, e2, k1, k2, k3, x1, x2]
  exact decide_eq_decide.2 Iff.rfl
theorem dX0 (g : GGuard) (h1 : g.le.size < 10000000) (h2 : g.ri.size < 10000000) (w1 : g.le.wf) (w2 : g.ri.wf) : Sat Tryz.prog 242 [zW0 g.enc] (boolV (wD0 g)) := by
 obtain ⟨r, hr⟩ : ∃ r, r = wD0 g := ⟨_, rfl⟩
 rw [← hr]
 obtain ⟨kd, le, ri⟩ := g
 simp only at h1 h2 w1 w2
 have hr1 := jA0 le h1
 have hr2 := jA0 ri h2
 have hz1 := ji0 le
 have hz2 := ji0 ri
 have hg1 := wz0 le (by omega)
 have hg2 := wz0 ri (by omega)
 have hw1 := qE0 le.red (by omega)
 have hw2 := qE0 ri.red (by omega)
 have hwf := red_wf le w1
 simp only [wD0, ← jj0 le, ← jj0 ri] at hr
 rw [← jj0 le] at hg1
 rw [← jj0 ri] at hg2
 generalize le.red = x at hr hr1 hz1 hg1 hw1 hwf
 generalize ri.red = y at hr hr2 hz2 hg2 hw2
 have heq := qg0 x hwf y
 generalize hxv : (x.vars.length == 0) = gx at hr hg1
 generalize hyv : (y.vars.length == 0) = gy at hr hg2
 generalize hxw : fT0 x = wx at hr hw1
 generalize hyw : fT0 y = wy at hr hw2
 generalize hxy : x.eqb y = ex at hr heq
 obtain ⟨lk, ln, ls, lt⟩ := le
 obtain ⟨rk, rn, rs, rt⟩ := ri
 obtain ⟨xk, xn, xs, xt⟩ := x
 obtain ⟨yk, yn, ys, yt⟩ := y
 simp only [Tm.num] at hr
 refine soc zE0 zA0 Tryz.func242 ?_
 refine cr1 ?_
 refine c7' hg1 ?_
 refine ⟨fun e1 => CallK.mk hg2 ?_, fun e1 => by simp [hr, e1]⟩
 refine ff0 ?_
 refine ⟨fun e2 => by simp [hr, e1, e2], fun e2 => ?_⟩
 refine c7' hr1.sat ?_
 refine c7' hr2.sat ?_
 refine ⟨fun k1 => CallK.mk heq ?_, fun k1 => ⟨fun k2 => CallK.mk heq ?_, fun k2 => ⟨fun k3 => CallK.mk hw1 ?_, fun k3 => by simp [hr, e1, e2, k1, k2, k3]⟩⟩⟩
 ·refine zX0 ?_
  simp [hr, e1, e2, k1]
 ·refine zX0 ?_
  simp [hr, e1, e2, k1, k2]
 ·refine ff0 ?_
  refine ⟨fun x1 => CallK.mk hw2 ?_, fun x1 => by simp [hr, e1, e2, k1, k2, k3, x1]⟩
  refine ff0 ?_
  refine ⟨fun x2 => ?_, fun x2 => by simp [hr, e1, e2, k1, k2, k3, x1, x2]⟩
  simp [hr, e1, e2, k1, k2, k3, x1, x2]
  exact decide_eq_decide.2 Iff.rfl
def GGuard.sub (bs : List GBind) (g : GGuard) : GGuard := ⟨g.kd, g.le.sub bs, g.ri.sub bs⟩
theorem bL0 (bs : List GBind) (hbl : bs.length < 100000000) (hb : ∀ b, b ∈ bs → b.t.size < 1048577) (g : GGuard) (h1 : g.le.size < 10000000) (h2 : g.ri.size < 10000000) : Sat Tryz.prog 212 [slV (bs.map GBind.enc), zW0 g.enc] (zW0 (g.sub bs).enc) := by
 obtain ⟨kd, le, ri⟩ := g
 simp only at h1 h2
 have hr1 := jq0 bs hbl hb le h1
 have hr2 := jq0 bs hbl hb ri h2
 simp only [GGuard.sub, GGuard.enc]
 generalize le.sub bs = x at hr1 ⊢
 generalize ri.sub bs = y at hr2 ⊢
 obtain ⟨lk, ln, ls, lt⟩ := le
 obtain ⟨rk, rn, rs, rt⟩ := ri
 obtain ⟨xk, xn, xs, xt⟩ := x
 obtain ⟨yk, yn, ys, yt⟩ := y
 refine soc zE0 zA0 Tryz.func212 ?_
 refine cr1 ?_
 refine c7' hr1 ?_
 refine c7' hr2 ?_
 rfl
theorem fP0 (bs : List GBind) (hbl : bs.length < 100000000) (hb : ∀ b, b ∈ bs → b.t.size < 1048577) (g : GGuard) (h1 : g.le.size < 10000000) (h2 : g.ri.size < 10000000) : SatF Tryz.prog 243 [slV (bs.map GBind.enc), zW0 g.enc] (zW0 (g.sub bs).enc) := by
 obtain ⟨kd, le, ri⟩ := g
 simp only at h1 h2
 have hr1 := jc0 bs hbl hb le h1
 have hr2 := jc0 bs hbl hb ri h2
 simp only [GGuard.sub, GGuard.enc]
 generalize le.sub bs = x at hr1 ⊢
 generalize ri.sub bs = y at hr2 ⊢
 obtain ⟨lk, ln, ls, lt⟩ := le
 obtain ⟨rk, rn, rs, rt⟩ := ri
 obtain ⟨xk, xn, xs, xt⟩ := x
 obtain ⟨yk, yn, ys, yt⟩ := y
 refine sfc [_] rfl (fun _ h => by cases h) zE0 zA0 Tryz.func243 ?_
 refine cr1 ?_
 refine CallK.own hr1 rfl ?_
 refine ff0 ?_
 refine CallK.own hr2 rfl ?_
 simp -implicitDefEqProofs only [go_sem, Tm.enc, encI, List.cons_append, List.nil_append, List.map_cons, List.map_nil]
end Go.Ai
