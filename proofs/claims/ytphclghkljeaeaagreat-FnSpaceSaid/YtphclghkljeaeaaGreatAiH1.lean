/- Guards: what holds. -/
import Derived.Test.YtphclghkljeaeaaGreatAiW1
import Derived.Test.YtphclghkljeaeaaGreatAiI5
import Derived.Test.YtphclghkljeaeaaGreatAiD1
set_option linter.unusedVariables false
set_option linter.unusedSimpArgs false
namespace Go.Ai
open Go.Proofs
set_option maxRecDepth 100000
theorem lw0 {k n : Int} {s : ByteArray} {ts : List Tm} (h : fS0 (.mk k n s ts) = true) : (Tm.mk k n s ts).vars = [] := by
 simp only [fS0, Bool.and_eq_true, beq_iff_eq, decide_eq_true_eq] at h
 obtain ⟨⟨⟨⟨h1, _⟩, _⟩, _⟩, h5⟩ := h
 have : ts = [] := List.eq_nil_of_length_eq_zero h5
 subst this h1
 rfl
theorem sA0 (k n : Int) (s : ByteArray) (ts : List Tm) : (wP0 k n s ts).vars = (if k == 1 then [s] else []) ++ Tm.varss ts := by
 unfold wP0
 split
 ·split
  ·rename_i h
   simp only [Bool.and_eq_true, beq_iff_eq] at h
   obtain ⟨⟨⟨⟨h1, _⟩, _⟩, h4⟩, h5⟩ := h
   simp only [Tm.varss, lw0 h4, lw0 h5, h1]
   rfl
  ·simp only [Tm.vars]
 ·simp only [Tm.vars]
mutual
theorem jT0 : ∀ (t : Tm), t.red.vars = t.vars
 | .mk k n s ts => by simp only [Tm.red, sA0, reds_vars ts, Tm.vars]
theorem reds_vars : ∀ (ts : List Tm), Tm.varss (Tm.reds ts) = Tm.varss ts
 | [] => rfl
 | a :: ts => by simp only [Tm.reds, Tm.varss, jT0 a, reds_vars ts]
end
def Tm.num : Tm → Int
 | .mk _ n _ _ => n
def qw0 (g : GGuard) : Bool :=
 (g.le.vars.length == 0) && (g.ri.vars.length == 0) && (if g.kd == 1 then g.le.red.eqb g.ri.red else if g.kd == 2 then !(g.le.red.eqb g.ri.red) else if g.kd == 3 then fS0 g.le.red && fS0 g.ri.red && decide (g.le.red.num < g.ri.red.num) else false)
theorem gV0 (g : GGuard) (h1 : g.le.size < 10000000) (h2 : g.ri.size < 10000000) (w1 : g.le.wf) (w2 : g.ri.wf) : Sat Tryz.prog 211 [zz0 g.enc] (boolV (qw0 g)) := by
 obtain ⟨r, hr⟩ : ∃ r, r = qw0 g := ⟨_, rfl⟩
 rw [← hr]
 obtain ⟨kd, le, ri⟩ := g
 simp only at h1 h2 w1 w2
 have hr1 := we0 le h1
 have hr2 := we0 ri h2
 have hz1 := jS0 le
 have hz2 := jS0 ri
 have hg1 := wp0 le.red (by omega)
 have hg2 := wp0 ri.red (by omega)
 have hw1 := wd0 le.red (by omega)
 have hw2 := wd0 ri.red (by omega)
 have hwf := red_wf le w1
 simp only [qw0, ← jT0 le, ← jT0 ri] at hr
 generalize le.red = x at hr hr1 hz1 hg1 hw1 hwf
 generalize ri.red = y at hr hr2 hz2 hg2 hw2
 have heq := zt0 x hwf y
 generalize hxv : (x.vars.length == 0) = gx at hr hg1
 generalize hyv : (y.vars.length == 0) = gy at hr hg2
 generalize hxw : fS0 x = wx at hr hw1
 generalize hyw : fS0 y = wy at hr hw2
 generalize hxy : x.eqb y = ex at hr heq
 obtain ⟨lk, ln, ls, lt⟩ := le
 obtain ⟨rk, rn, rs, rt⟩ := ri
 obtain ⟨xk, xn, xs, xt⟩ := x
 obtain ⟨yk, yn, ys, yt⟩ := y
 simp only [Tm.num] at hr
 refine soc zE0 zA0 Tryz.func211 ?_
 refine dN1 ?_
 refine c4' hr1 ?_
 refine c4' hr2 ?_
 refine c4' hg1 ?_
 refine ⟨fun e1 => CallK.mk hg2 ?_, fun e1 => by simp [hr, e1]⟩
 refine pL0 ?_
 refine ⟨fun e2 => by simp [hr, e1, e2], fun e2 => ?_⟩
 refine ⟨fun k1 => CallK.mk heq ?_, fun k1 => ⟨fun k2 => CallK.mk heq ?_, fun k2 => ⟨fun k3 => CallK.mk hw1 ?_, fun k3 => by simp [hr, e1, e2, k1, k2, k3]⟩⟩⟩
 ·refine zW0 ?_
  simp [hr, e1, e2, k1]
 ·refine zW0 ?_
  simp [hr, e1, e2, k1, k2]
 ·refine pL0 ?_
  refine ⟨fun x1 => CallK.mk hw2 ?_, fun x1 => by simp [hr, e1, e2, k1, k2, k3, x1]⟩
  refine pL0 ?_
  refine ⟨fun x2 => ?_, fun x2 => by simp [hr, e1, e2, k1, k2, k3, x1, x2]⟩
  simp [hr, e1, e2, k1, k2, k3, x1, x2]
  exact decide_eq_decide.2 Iff.rfl
theorem di0 (g : GGuard) (h1 : g.le.size < 10000000) (h2 : g.ri.size < 10000000) (w1 : g.le.wf) (w2 : g.ri.wf) : Sat Tryz.prog 242 [zz0 g.enc] (boolV (qw0 g)) := by
 obtain ⟨r, hr⟩ : ∃ r, r = qw0 g := ⟨_, rfl⟩
 rw [← hr]
 obtain ⟨kd, le, ri⟩ := g
 simp only at h1 h2 w1 w2
 have hr1 := ym0 le h1
 have hr2 := ym0 ri h2
 have hz1 := jS0 le
 have hz2 := jS0 ri
 have hg1 := wo0 le (by omega)
 have hg2 := wo0 ri (by omega)
 have hw1 := qA0 le.red (by omega)
 have hw2 := qA0 ri.red (by omega)
 have hwf := red_wf le w1
 simp only [qw0, ← jT0 le, ← jT0 ri] at hr
 rw [← jT0 le] at hg1
 rw [← jT0 ri] at hg2
 generalize le.red = x at hr hr1 hz1 hg1 hw1 hwf
 generalize ri.red = y at hr hr2 hz2 hg2 hw2
 have heq := wT0 x hwf y
 generalize hxv : (x.vars.length == 0) = gx at hr hg1
 generalize hyv : (y.vars.length == 0) = gy at hr hg2
 generalize hxw : fS0 x = wx at hr hw1
 generalize hyw : fS0 y = wy at hr hw2
 generalize hxy : x.eqb y = ex at hr heq
 obtain ⟨lk, ln, ls, lt⟩ := le
 obtain ⟨rk, rn, rs, rt⟩ := ri
 obtain ⟨xk, xn, xs, xt⟩ := x
 obtain ⟨yk, yn, ys, yt⟩ := y
 simp only [Tm.num] at hr
 refine soc zE0 zA0 Tryz.func242 ?_
 refine dN1 ?_
 refine c4' hg1 ?_
 refine ⟨fun e1 => CallK.mk hg2 ?_, fun e1 => by simp [hr, e1]⟩
 refine pL0 ?_
 refine ⟨fun e2 => by simp [hr, e1, e2], fun e2 => ?_⟩
 refine c4' hr1.sat ?_
 refine c4' hr2.sat ?_
 refine ⟨fun k1 => CallK.mk heq ?_, fun k1 => ⟨fun k2 => CallK.mk heq ?_, fun k2 => ⟨fun k3 => CallK.mk hw1 ?_, fun k3 => by simp [hr, e1, e2, k1, k2, k3]⟩⟩⟩
 ·refine zW0 ?_
  simp [hr, e1, e2, k1]
 ·refine zW0 ?_
  simp [hr, e1, e2, k1, k2]
 ·refine pL0 ?_
  refine ⟨fun x1 => CallK.mk hw2 ?_, fun x1 => by simp [hr, e1, e2, k1, k2, k3, x1]⟩
  refine pL0 ?_
  refine ⟨fun x2 => ?_, fun x2 => by simp [hr, e1, e2, k1, k2, k3, x1, x2]⟩
  simp [hr, e1, e2, k1, k2, k3, x1, x2]
  exact decide_eq_decide.2 Iff.rfl
def GGuard.sub (bs : List GBind) (g : GGuard) : GGuard := ⟨g.kd, g.le.sub bs, g.ri.sub bs⟩
theorem bM0 (bs : List GBind) (hbl : bs.length < 100000000) (hb : ∀ b, b ∈ bs → b.t.size < 1048577) (g : GGuard) (h1 : g.le.size < 10000000) (h2 : g.ri.size < 10000000) : Sat Tryz.prog 212 [slV (bs.map GBind.enc), zz0 g.enc] (zz0 (g.sub bs).enc) := by
 obtain ⟨kd, le, ri⟩ := g
 simp only at h1 h2
 have hr1 := jc0 bs hbl hb le h1
 have hr2 := jc0 bs hbl hb ri h2
 simp only [GGuard.sub, GGuard.enc]
 generalize le.sub bs = x at hr1 ⊢
 generalize ri.sub bs = y at hr2 ⊢
 obtain ⟨lk, ln, ls, lt⟩ := le
 obtain ⟨rk, rn, rs, rt⟩ := ri
 obtain ⟨xk, xn, xs, xt⟩ := x
 obtain ⟨yk, yn, ys, yt⟩ := y
 refine soc zE0 zA0 Tryz.func212 ?_
 refine dN1 ?_
 refine c4' hr1 ?_
 refine c4' hr2 ?_
 rfl
theorem fN0 (bs : List GBind) (hbl : bs.length < 100000000) (hb : ∀ b, b ∈ bs → b.t.size < 1048577) (g : GGuard) (h1 : g.le.size < 10000000) (h2 : g.ri.size < 10000000) : SatF Tryz.prog 243 [slV (bs.map GBind.enc), zz0 g.enc] (zz0 (g.sub bs).enc) := by
 obtain ⟨kd, le, ri⟩ := g
 simp only at h1 h2
 have hr1 := jP0 bs hbl hb le h1
 have hr2 := jP0 bs hbl hb ri h2
 simp only [GGuard.sub, GGuard.enc]
 generalize le.sub bs = x at hr1 ⊢
 generalize ri.sub bs = y at hr2 ⊢
 obtain ⟨lk, ln, ls, lt⟩ := le
 obtain ⟨rk, rn, rs, rt⟩ := ri
 obtain ⟨xk, xn, xs, xt⟩ := x
 obtain ⟨yk, yn, ys, yt⟩ := y
 refine sfc [_] rfl (fun _ h => by cases h) zE0 zA0 Tryz.func243 ?_
 refine dN1 ?_
 refine CallK.own hr1 rfl ?_
 refine pL0 ?_
 refine CallK.own hr2 rfl ?_
 simp -implicitDefEqProofs only [go_sem, Tm.enc, encI, List.cons_append, List.nil_append, List.map_cons, List.map_nil]
end Go.Ai
