/- Guards: what holds. -/
import Derived.Test.YtmddjojbaompiaaGreatAiW1
import Derived.Test.YtmddjojbaompiaaGreatAiI5
import Derived.Test.YtmddjojbaompiaaGreatAiD1
set_option linter.unusedVariables false
set_option linter.unusedSimpArgs false
namespace Go.Ai
open Go.Proofs
set_option maxRecDepth 100000
theorem isWd_vars {k n : Int} {s : ByteArray} {ts : List Tm} (h : isWd (.mk k n s ts) = true) : (Tm.mk k n s ts).vars = [] := by
 simp only [isWd, Bool.and_eq_true, beq_iff_eq, decide_eq_true_eq] at h
 obtain ⟨⟨⟨⟨h1, _⟩, _⟩, _⟩, h5⟩ := h
 have : ts = [] := List.eq_nil_of_length_eq_zero h5
 subst this h1
 rfl
theorem redTop_vars (k n : Int) (s : ByteArray) (ts : List Tm) : (redTop k n s ts).vars = (if k == 1 then [s] else []) ++ Tm.varss ts := by
 unfold redTop
 split
 ·split
  ·rename_i h
   simp only [Bool.and_eq_true, beq_iff_eq] at h
   obtain ⟨⟨⟨⟨h1, _⟩, _⟩, h4⟩, h5⟩ := h
   simp only [Tm.varss, isWd_vars h4, isWd_vars h5, h1]
   rfl
  ·simp only [Tm.vars]
 ·simp only [Tm.vars]
mutual
theorem red_vars : ∀ (t : Tm), t.red.vars = t.vars
 | .mk k n s ts => by simp only [Tm.red, redTop_vars, reds_vars ts, Tm.vars]
theorem reds_vars : ∀ (ts : List Tm), Tm.varss (Tm.reds ts) = Tm.varss ts
 | [] => rfl
 | a :: ts => by simp only [Tm.reds, Tm.varss, red_vars a, reds_vars ts]
end
def Tm.num : Tm → Int
 | .mk _ n _ _ => n
def holdsG (g : GGuard) : Bool :=
 (g.le.vars.length == 0) && (g.ri.vars.length == 0) && (if g.kd == 1 then g.le.red.eqb g.ri.red else if g.kd == 2 then !(g.le.red.eqb g.ri.red) else if g.kd == 3 then isWd g.le.red && isWd g.ri.red && decide (g.le.red.num < g.ri.red.num) else false)
theorem specHolds_sat (g : GGuard) (h1 : g.le.size < 10000000) (h2 : g.ri.size < 10000000) (w1 : g.le.wf) (w2 : g.ri.wf) : Sat Tryz.prog 180 [aggV g.enc] (boolV (holdsG g)) := by
 obtain ⟨r, hr⟩ : ∃ r, r = holdsG g := ⟨_, rfl⟩
 rw [← hr]
 obtain ⟨kd, le, ri⟩ := g
 simp only at h1 h2 w1 w2
 have hr1 := specReduce_sat le h1
 have hr2 := specReduce_sat ri h2
 have hz1 := red_size le
 have hz2 := red_size ri
 have hg1 := specIsGround_sat le.red (by omega)
 have hg2 := specIsGround_sat ri.red (by omega)
 have hw1 := specIsWord_sat le.red (by omega)
 have hw2 := specIsWord_sat ri.red (by omega)
 have hwf := red_wf le w1
 simp only [holdsG, ← red_vars le, ← red_vars ri] at hr
 generalize le.red = x at hr hr1 hz1 hg1 hw1 hwf
 generalize ri.red = y at hr hr2 hz2 hg2 hw2
 have heq := specEqualTerm_sat x hwf y
 generalize hxv : (x.vars.length == 0) = gx at hr hg1
 generalize hyv : (y.vars.length == 0) = gy at hr hg2
 generalize hxw : isWd x = wx at hr hw1
 generalize hyw : isWd y = wy at hr hw2
 generalize hxy : x.eqb y = ex at hr heq
 obtain ⟨lk, ln, ls, lt⟩ := le
 obtain ⟨rk, rn, rs, rt⟩ := ri
 obtain ⟨xk, xn, xs, xt⟩ := x
 obtain ⟨yk, yn, ys, yt⟩ := y
 simp only [Tm.num] at hr
 refine sat_of_code tbOk mixed Tryz.func180 rfl rfl rfl (by decide +kernel) (by decide +kernel) (Nat.le_of_ble_eq_true rfl) ?_
 simp -implicitDefEqProofs (disch := omega) only [go_sem, GGuard.enc, Tm.enc, encI, List.cons_append, List.nil_append]
 refine CallK.mk hr1 ?_
 simp -implicitDefEqProofs (disch := omega) only [go_sem, Tm.enc]
 refine CallK.mk hr2 ?_
 simp -implicitDefEqProofs (disch := omega) only [go_sem, Tm.enc]
 refine CallK.mk hg1 ?_
 simp -implicitDefEqProofs (disch := omega) only [go_sem, Tm.enc]
 refine ⟨fun e1 => CallK.mk hg2 ?_, fun e1 => by simp [hr, e1]⟩
 simp -implicitDefEqProofs (disch := omega) only [go_sem, Tm.enc]
 refine ⟨fun e2 => by simp [hr, e1, e2], fun e2 => ?_⟩
 refine ⟨fun k1 => CallK.mk heq ?_, fun k1 => ⟨fun k2 => CallK.mk heq ?_, fun k2 => ⟨fun k3 => CallK.mk hw1 ?_, fun k3 => by simp [hr, e1, e2, k1, k2, k3]⟩⟩⟩
 ·simp -implicitDefEqProofs (disch := omega) only [go_sem]
  simp [hr, e1, e2, k1]
 ·simp -implicitDefEqProofs (disch := omega) only [go_sem]
  simp [hr, e1, e2, k1, k2]
 ·simp -implicitDefEqProofs (disch := omega) only [go_sem, Tm.enc]
  refine ⟨fun x1 => CallK.mk hw2 ?_, fun x1 => by simp [hr, e1, e2, k1, k2, k3, x1]⟩
  simp -implicitDefEqProofs (disch := omega) only [go_sem, Tm.enc]
  refine ⟨fun x2 => ?_, fun x2 => by simp [hr, e1, e2, k1, k2, k3, x1, x2]⟩
  simp [hr, e1, e2, k1, k2, k3, x1, x2]
  exact decide_eq_decide.2 Iff.rfl
theorem implHolds_sat (g : GGuard) (h1 : g.le.size < 10000000) (h2 : g.ri.size < 10000000) (w1 : g.le.wf) (w2 : g.ri.wf) : Sat Tryz.prog 202 [aggV g.enc] (boolV (holdsG g)) := by
 obtain ⟨r, hr⟩ : ∃ r, r = holdsG g := ⟨_, rfl⟩
 rw [← hr]
 obtain ⟨kd, le, ri⟩ := g
 simp only at h1 h2 w1 w2
 have hr1 := implReduce_sat le h1
 have hr2 := implReduce_sat ri h2
 have hz1 := red_size le
 have hz2 := red_size ri
 have hg1 := implIsGround_sat le (by omega)
 have hg2 := implIsGround_sat ri (by omega)
 have hw1 := implIsWord_sat le.red (by omega)
 have hw2 := implIsWord_sat ri.red (by omega)
 have hwf := red_wf le w1
 simp only [holdsG, ← red_vars le, ← red_vars ri] at hr
 rw [← red_vars le] at hg1
 rw [← red_vars ri] at hg2
 generalize le.red = x at hr hr1 hz1 hg1 hw1 hwf
 generalize ri.red = y at hr hr2 hz2 hg2 hw2
 have heq := implEqualTerm_sat x hwf y
 generalize hxv : (x.vars.length == 0) = gx at hr hg1
 generalize hyv : (y.vars.length == 0) = gy at hr hg2
 generalize hxw : isWd x = wx at hr hw1
 generalize hyw : isWd y = wy at hr hw2
 generalize hxy : x.eqb y = ex at hr heq
 obtain ⟨lk, ln, ls, lt⟩ := le
 obtain ⟨rk, rn, rs, rt⟩ := ri
 obtain ⟨xk, xn, xs, xt⟩ := x
 obtain ⟨yk, yn, ys, yt⟩ := y
 simp only [Tm.num] at hr
 refine sat_of_code tbOk mixed Tryz.func202 rfl rfl rfl (by decide +kernel) (by decide +kernel) (Nat.le_of_ble_eq_true rfl) ?_
 simp -implicitDefEqProofs (disch := omega) only [go_sem, GGuard.enc, Tm.enc, encI, List.cons_append, List.nil_append]
 refine CallK.mk hg1 ?_
 simp -implicitDefEqProofs (disch := omega) only [go_sem, Tm.enc]
 refine ⟨fun e1 => CallK.mk hg2 ?_, fun e1 => by simp [hr, e1]⟩
 simp -implicitDefEqProofs (disch := omega) only [go_sem, Tm.enc]
 refine ⟨fun e2 => by simp [hr, e1, e2], fun e2 => ?_⟩
 refine CallK.mk hr1.sat ?_
 simp -implicitDefEqProofs (disch := omega) only [go_sem, Tm.enc]
 refine CallK.mk hr2.sat ?_
 simp -implicitDefEqProofs (disch := omega) only [go_sem, Tm.enc]
 refine ⟨fun k1 => CallK.mk heq ?_, fun k1 => ⟨fun k2 => CallK.mk heq ?_, fun k2 => ⟨fun k3 => CallK.mk hw1 ?_, fun k3 => by simp [hr, e1, e2, k1, k2, k3]⟩⟩⟩
 ·simp -implicitDefEqProofs (disch := omega) only [go_sem]
  simp [hr, e1, e2, k1]
 ·simp -implicitDefEqProofs (disch := omega) only [go_sem]
  simp [hr, e1, e2, k1, k2]
 ·simp -implicitDefEqProofs (disch := omega) only [go_sem, Tm.enc]
  refine ⟨fun x1 => CallK.mk hw2 ?_, fun x1 => by simp [hr, e1, e2, k1, k2, k3, x1]⟩
  simp -implicitDefEqProofs (disch := omega) only [go_sem, Tm.enc]
  refine ⟨fun x2 => ?_, fun x2 => by simp [hr, e1, e2, k1, k2, k3, x1, x2]⟩
  simp [hr, e1, e2, k1, k2, k3, x1, x2]
  exact decide_eq_decide.2 Iff.rfl
def GGuard.sub (bs : List GBind) (g : GGuard) : GGuard := ⟨g.kd, g.le.sub bs, g.ri.sub bs⟩
theorem specToGuard_sat (bs : List GBind) (hbl : bs.length < 100000000) (hb : ∀ b, b ∈ bs → b.t.size < 1048577) (g : GGuard) (h1 : g.le.size < 10000000) (h2 : g.ri.size < 10000000) : Sat Tryz.prog 181 [slV (bs.map GBind.enc), aggV g.enc] (aggV (g.sub bs).enc) := by
 obtain ⟨kd, le, ri⟩ := g
 simp only at h1 h2
 have hr1 := specSubst_sat bs hbl hb le h1
 have hr2 := specSubst_sat bs hbl hb ri h2
 simp only [GGuard.sub, GGuard.enc]
 generalize le.sub bs = x at hr1 ⊢
 generalize ri.sub bs = y at hr2 ⊢
 obtain ⟨lk, ln, ls, lt⟩ := le
 obtain ⟨rk, rn, rs, rt⟩ := ri
 obtain ⟨xk, xn, xs, xt⟩ := x
 obtain ⟨yk, yn, ys, yt⟩ := y
 refine sat_of_code tbOk mixed Tryz.func181 rfl rfl rfl (by decide +kernel) (by decide +kernel) (Nat.le_of_ble_eq_true rfl) ?_
 simp -implicitDefEqProofs (disch := omega) only [go_sem, GGuard.enc, Tm.enc, encI, List.cons_append, List.nil_append]
 refine CallK.mk hr1 ?_
 simp -implicitDefEqProofs (disch := omega) only [go_sem, Tm.enc]
 refine CallK.mk hr2 ?_
 simp -implicitDefEqProofs (disch := omega) only [go_sem, Tm.enc]
 rfl
theorem implToGuard_sat (bs : List GBind) (hbl : bs.length < 100000000) (hb : ∀ b, b ∈ bs → b.t.size < 1048577) (g : GGuard) (h1 : g.le.size < 10000000) (h2 : g.ri.size < 10000000) : SatF Tryz.prog 203 [slV (bs.map GBind.enc), aggV g.enc] (aggV (g.sub bs).enc) := by
 obtain ⟨kd, le, ri⟩ := g
 simp only at h1 h2
 have hr1 := implSubst_sat bs hbl hb le h1
 have hr2 := implSubst_sat bs hbl hb ri h2
 simp only [GGuard.sub, GGuard.enc]
 generalize le.sub bs = x at hr1 ⊢
 generalize ri.sub bs = y at hr2 ⊢
 obtain ⟨lk, ln, ls, lt⟩ := le
 obtain ⟨rk, rn, rs, rt⟩ := ri
 obtain ⟨xk, xn, xs, xt⟩ := x
 obtain ⟨yk, yn, ys, yt⟩ := y
 refine satF_of_code [_] rfl (fun _ h => by cases h) tbOk mixed Tryz.func203 rfl rfl rfl (by decide +kernel) (by decide +kernel) (Nat.le_of_ble_eq_true rfl) ?_
 simp -implicitDefEqProofs (disch := omega) only [go_sem, GGuard.enc, Tm.enc, encI, List.cons_append, List.nil_append]
 refine CallK.own hr1 rfl ?_
 simp -implicitDefEqProofs (disch := omega) only [go_sem, Tm.enc]
 refine CallK.own hr2 rfl ?_
 simp -implicitDefEqProofs (disch := omega) only [go_sem, Tm.enc, encI, List.cons_append, List.nil_append, List.map_cons, List.map_nil]
end Go.Ai
