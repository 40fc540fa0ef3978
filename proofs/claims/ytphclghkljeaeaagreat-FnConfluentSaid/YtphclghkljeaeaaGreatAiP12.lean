/- FireRule. -/
import Derived.Test.YtphclghkljeaeaaGreatAiP5
set_option linter.unusedVariables false
set_option linter.unusedSimpArgs false
namespace Go.Ai
open Go.Proofs
set_option maxRecDepth 100000
end Go.Ai
/- FireRule on both sides (not built yet: r5.Z has the functions). -/
namespace Go.Ai
open Go.Proofs
set_option maxRecDepth 100000
def tB1 (d : GDefinition) (i : Int) (t : Tm) : Option Tm :=
 if yr0 d t && decide (0 ≤ i) && decide (i < (d.ru.length : Int)) then (wk0 (d.ru.getD i.toNat ⟨sE, qS0, qS0, []⟩) t).map fun bs => ((d.ru.getD i.toNat ⟨sE, qS0, qS0, []⟩).ri.sub bs).red else none
theorem lv0 (x : GRule) (t : Tm) : jP0 x t = ((wk0 x t).map fun bs => (x.ri.sub bs).red).getD qS0 := by
 unfold jP0
 cases wk0 x t <;> rfl
theorem bA1 (sg : GSignature) (r : GRule) (t : Tm) (h : qs0 sg r = true) (bs : List GBind) (hm : r.le.mat t [] = some bs) : r.ri.sub (cL0 r bs) = r.ri.sub bs := by
 simp only [qs0, Bool.and_eq_true] at h
 have hv := List.all_eq_true.1 h.1.2
 refine vy0 _ _ _ (fun v hv' => fN0 bs v _ ((kY0 _ v).2 ((kY0 _ v).2 ((gC0 _ v).1 (hv v hv')))))
end Go.Ai
/- FireRule on both sides: the calls. -/
namespace Go.Ai
open Go.Proofs
set_option maxRecDepth 100000
theorem xE1 (x : GRule) (hx : qm0 x) (t : Tm) (ht : vO0 t) (bs : List GBind) (h : wk0 x t = some bs) : (x.ri.sub bs).red.size ≤ 40000 ∧ (x.ri.sub bs).red.wf ∧ (x.ri.sub bs).size ≤ 40000 := by
 have hm : x.le.mat t [] = some bs := by
  unfold wk0 at h
  cases hq : x.le.mat t [] with
  | none => rw [hq] at h; cases h
  | some b =>
   rw [hq] at h
   simp only at h
   split at h
   ·exact h
   ·cases h
 have hb := tu0 x.le t ht bs hm
 have h1 := vN0 bs (fun b hb' => (hb b hb').1) x.ri
 have h2 := hx.2.1.1
 have h3 := hx.2.1.2.1
 have h4 := jp0 (x.ri.sub bs)
 exact ⟨by omega, red_wf _ (kw1 bs (fun b hb' => (hb b hb').2) x.ri hx.2.1.2.2), by omega⟩
theorem jB1 (sg : GSignature) (x : GRule) (t : Tm) (h : qs0 sg x = true) (h2 : (jh0 x t).2 = true) : (x.ri.sub (jh0 x t).1).red = jP0 x t := by
 have h3 := vj0 sg x t h
 rw [h2] at h3
 rw [lv0]
 unfold wk0 at h3 ⊢
 unfold jh0 at h2 ⊢
 cases hq : x.le.mat t [] with
 | none => rw [hq] at h2; cases h2
 | some bs =>
  rw [hq] at h2 h3
  simp only at h2 h3 ⊢
  split
  ·simp only [Option.map_some, Option.getD_some]
   exact congrArg Tm.red (bA1 sg x t h bs hq)
  ·rename_i hn
   simp [hn] at h3
theorem xF1 (x : GRule) (hx : qm0 x) (t : Tm) (ht : vO0 t) : (∀ b, b ∈ (jh0 x t).1 → b.t.size < 540 ∧ b.t.wf) ∧ (jh0 x t).1.length < 1000000 := by
 obtain ⟨hle, hri, hgl, hgu⟩ := hx
 have hmo := tu0 x.le t ht
 unfold jh0
 cases hq : x.le.mat t [] with
 | none => simp
 | some bs =>
  simp only
  refine ⟨fun b hb => ?_, ?_⟩
  ·obtain ⟨b', hb1, hb2⟩ := mw0 bs _ b hb
   rw [← hb2]; exact hmo bs hq b' hb1
  ·have h1 := bK0 bs (qp0 (qp0 x.le.vars))
   have h2 := yE0 (qp0 x.le.vars)
   have h3 := yE0 x.le.vars
   have h4 := qk0 x.le
   have h5 := hle.1
   unfold cL0
   omega
end Go.Ai
