/- Guards: what holds. -/
import Derived.Test.YtphclghkljeaeaaGreatAiW1
import Derived.Test.YtphclghkljeaeaaGreatAiI5
import Derived.Test.YtphclghkljeaeaaGreatAiD1
set_option linter.unusedVariables false
set_option linter.unusedSimpArgs false
namespace Go.Ai
open Go.Proofs
set_option maxRecDepth 100000
theorem gl0 {k n : Int} {s : ByteArray} {ts : List Tm} (h : ps0 (.mk k n s ts) = true) : (Tm.mk k n s ts).vars = [] := by
 simp only [ps0, Bool.and_eq_true, beq_iff_eq, decide_eq_true_eq] at h
 obtain ⟨⟨⟨⟨h1, _⟩, _⟩, _⟩, h5⟩ := h
 have : ts = [] := List.eq_nil_of_length_eq_zero h5
 subst this h1
 rfl
theorem ng0 (k n : Int) (s : ByteArray) (ts : List Tm) : (yZ0 k n s ts).vars = (if k == 1 then [s] else []) ++ Tm.varss ts := by
 unfold yZ0
 split
 ·split
  ·rename_i h
   simp only [Bool.and_eq_true, beq_iff_eq] at h
   obtain ⟨⟨⟨⟨h1, _⟩, _⟩, h4⟩, h5⟩ := h
   simp only [Tm.varss, gl0 h4, gl0 h5, h1]
   rfl
  ·simp only [Tm.vars]
 ·simp only [Tm.vars]
mutual
theorem ja0 : ∀ (t : Tm), t.red.vars = t.vars
 | .mk k n s ts => by simp only [Tm.red, ng0, reds_vars ts, Tm.vars]
theorem reds_vars : ∀ (ts : List Tm), Tm.varss (Tm.reds ts) = Tm.varss ts
 | [] => rfl
 | a :: ts => by simp only [Tm.reds, Tm.varss, ja0 a, reds_vars ts]
end
def Tm.num : Tm → Int
 | .mk _ n _ _ => n
def wI0 (g : GGuard) : Bool :=
 (g.le.vars.length == 0) && (g.ri.vars.length == 0) && (if g.kd == 1 then g.le.red.eqb g.ri.red else if g.kd == 2 then !(g.le.red.eqb g.ri.red) else if g.kd == 3 then ps0 g.le.red && ps0 g.ri.red && decide (g.le.red.num < g.ri.red.num) else false)
theorem dP0 (g : GGuard) (h1 : g.le.size < 10000000) (h2 : g.ri.size < 10000000) (w1 : g.le.wf) (w2 : g.ri.wf) : Sat Tryz.prog 211 [zn0 g.enc] (boolV (wI0 g)) := by
 obtain ⟨r, hr⟩ : ∃ r, r = wI0 g := ⟨_, rfl⟩
 rw [← hr]
 obtain ⟨kd, le, ri⟩ := g
 simp only at h1 h2 w1 w2
 have hr1 := wn0 le h1
 have hr2 := wn0 ri h2
 have hz1 := jZ0 le
 have hz2 := jZ0 ri
 have hg1 := wx0 le.red (by omega)
 have hg2 := wx0 ri.red (by omega)
 have hw1 := wm0 le.red (by omega)
 have hw2 := wm0 ri.red (by omega)
 have hwf := red_wf le w1
 simp only [wI0, ← ja0 le, ← ja0 ri] at hr
 generalize le.red = x at hr hr1 hz1 hg1 hw1 hwf
 generalize ri.red = y at hr hr2 hz2 hg2 hw2
 have heq := zu0 x hwf y
 generalize hxv : (x.vars.length == 0) = gx at hr hg1
 generalize hyv : (y.vars.length == 0) = gy at hr hg2
 generalize hxw : ps0 x = wx at hr hw1
 generalize hyw : ps0 y = wy at hr hw2
 generalize hxy : x.eqb y = ex at hr heq
 obtain ⟨lk, ln, ls, lt⟩ := le
 obtain ⟨rk, rn, rs, rt⟩ := ri
 obtain ⟨xk, xn, xs, xt⟩ := x
 obtain ⟨yk, yn, ys, yt⟩ := y
 simp only [Tm.num] at hr
 refine soc zE0 zA0 Tryz.func211 ?_
 refine fn1 ?_
 refine c7' hr1 ?_
 refine c7' hr2 ?_
 refine c7' hg1 ?_
 refine ⟨fun e1 => CallK.mk hg2 ?_, fun e1 => by simp [hr, e1]⟩
 refine fC0 ?_
 refine ⟨fun e2 => by simp [hr, e1, e2], fun e2 => ?_⟩
 refine ⟨fun k1 => CallK.mk heq ?_, fun k1 => ⟨fun k2 => CallK.mk heq ?_, fun k2 => ⟨fun k3 => CallK.mk hw1 ?_, fun k3 => by simp [hr, e1, e2, k1, k2, k3]⟩⟩⟩
 ·refine zr0 ?_
  simp [hr, e1, e2, k1]
 ·refine zr0 ?_
  simp [hr, e1, e2, k1, k2]
 ·refine fC0 ?_
  refine ⟨fun x1 => CallK.mk hw2 ?_, fun x1 => by simp [hr, e1, e2, k1, k2, k3, x1]⟩
  refine fC0 ?_
  refine ⟨fun x2 => ?_, fun x2 => by simp [hr, e1, e2, k1, k2, k3, x1, x2]⟩
  simp [hr, e1, e2, k1, k2, k3, x1, x2]
  exact decide_eq_decide.2 Iff.rfl
theorem ci0 (g : GGuard) (h1 : g.le.size < 10000000) (h2 : g.ri.size < 10000000) (w1 : g.le.wf) (w2 : g.ri.wf) : Sat Tryz.prog 242 [zn0 g.enc] (boolV (wI0 g)) := by
 obtain ⟨r, hr⟩ : ∃ r, r = wI0 g := ⟨_, rfl⟩
 rw [← hr]
 obtain ⟨kd, le, ri⟩ := g
 simp only at h1 h2 w1 w2
 have hr1 := yv0 le h1
 have hr2 := yv0 ri h2
 have hz1 := jZ0 le
 have hz2 := jZ0 ri
 have hg1 := wv0 le (by omega)
 have hg2 := wv0 ri (by omega)
 have hw1 := qE0 le.red (by omega)
 have hw2 := qE0 ri.red (by omega)
 have hwf := red_wf le w1
 simp only [wI0, ← ja0 le, ← ja0 ri] at hr
 rw [← ja0 le] at hg1
 rw [← ja0 ri] at hg2
 generalize le.red = x at hr hr1 hz1 hg1 hw1 hwf
 generalize ri.red = y at hr hr2 hz2 hg2 hw2
 have heq := jD0 x hwf y
 generalize hxv : (x.vars.length == 0) = gx at hr hg1
 generalize hyv : (y.vars.length == 0) = gy at hr hg2
 generalize hxw : ps0 x = wx at hr hw1
 generalize hyw : ps0 y = wy at hr hw2
 generalize hxy : x.eqb y = ex at hr heq
 obtain ⟨lk, ln, ls, lt⟩ := le
 obtain ⟨rk, rn, rs, rt⟩ := ri
 obtain ⟨xk, xn, xs, xt⟩ := x
 obtain ⟨yk, yn, ys, yt⟩ := y
 simp only [Tm.num] at hr
 refine soc zE0 zA0 Tryz.func242 ?_
 refine fn1 ?_
 refine c7' hg1 ?_
 refine ⟨fun e1 => CallK.mk hg2 ?_, fun e1 => by simp [hr, e1]⟩
 refine fC0 ?_
 refine ⟨fun e2 => by simp [hr, e1, e2], fun e2 => ?_⟩
 refine c7' hr1.sat ?_
 refine c7' hr2.sat ?_
 refine ⟨fun k1 => CallK.mk heq ?_, fun k1 => ⟨fun k2 => CallK.mk heq ?_, fun k2 => ⟨fun k3 => CallK.mk hw1 ?_, fun k3 => by simp [hr, e1, e2, k1, k2, k3]⟩⟩⟩
 ·refine zr0 ?_
  simp [hr, e1, e2, k1]
 ·refine zr0 ?_
  simp [hr, e1, e2, k1, k2]
 ·refine fC0 ?_
  refine ⟨fun x1 => CallK.mk hw2 ?_, fun x1 => by simp [hr, e1, e2, k1, k2, k3, x1]⟩
  refine fC0 ?_
  refine ⟨fun x2 => ?_, fun x2 => by simp [hr, e1, e2, k1, k2, k3, x1, x2]⟩
  simp [hr, e1, e2, k1, k2, k3, x1, x2]
  exact decide_eq_decide.2 Iff.rfl
def GGuard.sub (bs : List GBind) (g : GGuard) : GGuard := ⟨g.kd, g.le.sub bs, g.ri.sub bs⟩
theorem fg0 (bs : List GBind) (hbl : bs.length < 100000000) (hb : ∀ b, b ∈ bs → b.t.size < 1048577) (g : GGuard) (h1 : g.le.size < 10000000) (h2 : g.ri.size < 10000000) : Sat Tryz.prog 212 [slV (bs.map GBind.enc), zn0 g.enc] (zn0 (g.sub bs).enc) := by
 obtain ⟨kd, le, ri⟩ := g
 simp only at h1 h2
 have hr1 := jg0 bs hbl hb le h1
 have hr2 := jg0 bs hbl hb ri h2
 simp only [GGuard.sub, GGuard.enc]
 generalize le.sub bs = x at hr1 ⊢
 generalize ri.sub bs = y at hr2 ⊢
 obtain ⟨lk, ln, ls, lt⟩ := le
 obtain ⟨rk, rn, rs, rt⟩ := ri
 obtain ⟨xk, xn, xs, xt⟩ := x
 obtain ⟨yk, yn, ys, yt⟩ := y
 refine soc zE0 zA0 Tryz.func212 ?_
 refine fn1 ?_
 refine c7' hr1 ?_
 refine c7' hr2 ?_
 rfl
theorem pn0 (bs : List GBind) (hbl : bs.length < 100000000) (hb : ∀ b, b ∈ bs → b.t.size < 1048577) (g : GGuard) (h1 : g.le.size < 10000000) (h2 : g.ri.size < 10000000) : SatF Tryz.prog 243 [slV (bs.map GBind.enc), zn0 g.enc] (zn0 (g.sub bs).enc) := by
 obtain ⟨kd, le, ri⟩ := g
 simp only at h1 h2
 have hr1 := jU0 bs hbl hb le h1
 have hr2 := jU0 bs hbl hb ri h2
 simp only [GGuard.sub, GGuard.enc]
 generalize le.sub bs = x at hr1 ⊢
 generalize ri.sub bs = y at hr2 ⊢
 obtain ⟨lk, ln, ls, lt⟩ := le
 obtain ⟨rk, rn, rs, rt⟩ := ri
 obtain ⟨xk, xn, xs, xt⟩ := x
 obtain ⟨yk, yn, ys, yt⟩ := y
 refine sfc [_] rfl (fun _ h => by cases h) zE0 zA0 Tryz.func243 ?_
 refine fn1 ?_
 refine CallK.own hr1 rfl ?_
 refine fC0 ?_
 refine CallK.own hr2 rfl ?_
 simp -implicitDefEqProofs only [go_sem, Tm.enc, encI, List.cons_append, List.nil_append, List.map_cons, List.map_nil]
end Go.Ai
