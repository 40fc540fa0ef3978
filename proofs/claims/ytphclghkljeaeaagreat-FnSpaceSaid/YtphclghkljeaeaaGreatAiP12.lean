/- FireRule. -/
import Derived.Test.YtphclghkljeaeaaGreatAiP5
set_option linter.unusedVariables false
set_option linter.unusedSimpArgs false
namespace Go.Ai
open Go.Proofs
set_option maxRecDepth 100000
def tf1 (d : GDefinition) (i : Int) (t : Tm) : Option Tm :=
 if yu0 d t && decide (0 ≤ i) && decide (i < (d.ru.length : Int)) then (wn0 (d.ru.getD i.toNat ⟨sE, qE0, qE0, []⟩) t).map fun bs => ((d.ru.getD i.toNat ⟨sE, qE0, qE0, []⟩).ri.sub bs).red else none
theorem lc0 (x : GRule) (t : Tm) : wL0 x t = ((wn0 x t).map fun bs => (x.ri.sub bs).red).getD qE0 := by
 unfold wL0
 cases wn0 x t <;> rfl
theorem fn1 (sg : GSignature) (r : GRule) (t : Tm) (h : qk0 sg r = true) (bs : List GBind) (hm : r.le.mat t [] = some bs) : r.ri.sub (bt0 r bs) = r.ri.sub bs := by
 simp only [qk0, Bool.and_eq_true] at h
 have hv := List.all_eq_true.1 h.1.2
 refine vg0 _ _ _ (fun v hv' => pp0 bs v _ ((kD0 _ v).2 ((kD0 _ v).2 ((df0 _ v).1 (hv v hv')))))
end Go.Ai
namespace Go.Ai
open Go.Proofs
set_option maxRecDepth 100000
theorem vl1 (x : GRule) (hx : qS0 x) (t : Tm) (ht : kc0 t) (bs : List GBind) (h : wn0 x t = some bs) : (x.ri.sub bs).red.size ≤ 40000 ∧ (x.ri.sub bs).red.wf ∧ (x.ri.sub bs).size ≤ 40000 := by
 have hm : x.le.mat t [] = some bs := by
  unfold wn0 at h
  cases hq : x.le.mat t [] with
  | none => rw [hq] at h; cases h
  | some b =>
   rw [hq] at h
   simp only at h
   split at h
   ·exact h
   ·cases h
 have hb := tZ0 x.le t ht bs hm
 have h1 := kx0 bs (fun b hb' => (hb b hb').1) x.ri
 have h2 := hx.2.1.1
 have h3 := hx.2.1.2.1
 have h4 := jS0 (x.ri.sub bs)
 exact ⟨by omega, red_wf _ (kZ1 bs (fun b hb' => (hb b hb').2) x.ri hx.2.1.2.2), by omega⟩
theorem yZ1 (sg : GSignature) (x : GRule) (t : Tm) (h : qk0 sg x = true) (h2 : (jM0 x t).2 = true) : (x.ri.sub (jM0 x t).1).red = wL0 x t := by
 have h3 := vQ0 sg x t h
 rw [h2] at h3
 rw [lc0]
 unfold wn0 at h3 ⊢
 unfold jM0 at h2 ⊢
 cases hq : x.le.mat t [] with
 | none => rw [hq] at h2; cases h2
 | some bs =>
  rw [hq] at h2 h3
  simp only at h2 h3 ⊢
  split
  ·simp only [Option.map_some, Option.getD_some]
   exact congrArg Tm.red (fn1 sg x t h bs hq)
  ·rename_i hn
   simp [hn] at h3
theorem vm1 (x : GRule) (hx : qS0 x) (t : Tm) (ht : kc0 t) : (∀ b, b ∈ (jM0 x t).1 → b.t.size < 540 ∧ b.t.wf) ∧ (jM0 x t).1.length < 1000000 := by
 obtain ⟨hle, hri, hgl, hgu⟩ := hx
 have hmo := tZ0 x.le t ht
 unfold jM0
 cases hq : x.le.mat t [] with
 | none => simp
 | some bs =>
  simp only
  refine ⟨fun b hb => ?_, ?_⟩
  ·obtain ⟨b', hb1, hb2⟩ := mb0 bs _ b hb
   rw [← hb2]; exact hmo bs hq b' hb1
  ·have h1 := ft0 bs (qd0 (qd0 x.le.vars))
   have h2 := wk0 (qd0 x.le.vars)
   have h3 := wk0 x.le.vars
   have h4 := qb0 x.le
   have h5 := hle.1
   unfold bt0
   omega
end Go.Ai
