/- FireRule. -/
import Derived.Test.YtphclghkljeaeaaGreatAiP5
set_option linter.unusedVariables false
set_option linter.unusedSimpArgs false
namespace Go.Ai
open Go.Proofs
set_option maxRecDepth 100000
def rF1 (d : GDefinition) (i : Int) (t : Tm) : Option Tm :=
 if vK0 d t && decide (0 ≤ i) && decide (i < (d.ru.length : Int)) then (fireI (d.ru.getD i.toNat ⟨sE, zeroT, zeroT, []⟩) t).map fun bs => ((d.ru.getD i.toNat ⟨sE, zeroT, zeroT, []⟩).ri.sub bs).red else none
theorem fireT_map (x : GRule) (t : Tm) : fireT x t = ((fireI x t).map fun bs => (x.ri.sub bs).red).getD zeroT := by
 unfold fireT
 cases fireI x t <;> rfl
theorem xb1 (sg : GSignature) (r : GRule) (t : Tm) (h : yb0 sg r = true) (bs : List GBind) (hm : r.le.mat t [] = some bs) : r.ri.sub (bM0 r bs) = r.ri.sub bs := by
 simp only [yb0, Bool.and_eq_true] at h
 have hv := List.all_eq_true.1 h.1.2
 refine vi0 _ _ _ (fun v hv' => pa0 bs v _ ((kF0 _ v).2 ((kF0 _ v).2 ((cf0 _ v).1 (hv v hv')))))
end Go.Ai
namespace Go.Ai
open Go.Proofs
set_option maxRecDepth 100000
theorem fireI_ok (x : GRule) (hx : ruleOk x) (t : Tm) (ht : tmOk t) (bs : List GBind) (h : fireI x t = some bs) : (x.ri.sub bs).red.size ≤ 40000 ∧ (x.ri.sub bs).red.wf ∧ (x.ri.sub bs).size ≤ 40000 := by
 have hm : x.le.mat t [] = some bs := by
  unfold fireI at h
  cases hq : x.le.mat t [] with
  | none => rw [hq] at h; cases h
  | some b =>
   rw [hq] at h
   simp only at h
   split at h
   ·exact h
   ·cases h
 have hb := ru0 x.le t ht bs hm
 have h1 := kz0 bs (fun b hb' => (hb b hb').1) x.ri
 have h2 := hx.2.1.1
 have h3 := hx.2.1.2.1
 have h4 := jZ0 (x.ri.sub bs)
 exact ⟨by omega, red_wf _ (yo1 bs (fun b hb' => (hb b hb').2) x.ri hx.2.1.2.2), by omega⟩
theorem fireS_sub (sg : GSignature) (x : GRule) (t : Tm) (h : yb0 sg x = true) (h2 : (fireS x t).2 = true) : (x.ri.sub (fireS x t).1).red = fireT x t := by
 have h3 := fire_same sg x t h
 rw [h2] at h3
 rw [fireT_map]
 unfold fireI at h3 ⊢
 unfold fireS at h2 ⊢
 cases hq : x.le.mat t [] with
 | none => rw [hq] at h2; cases h2
 | some bs =>
  rw [hq] at h2 h3
  simp only at h2 h3 ⊢
  split
  ·simp only [Option.map_some, Option.getD_some]
   exact congrArg Tm.red (xb1 sg x t h bs hq)
  ·rename_i hn
   simp [hn] at h3
theorem fireS_ok (x : GRule) (hx : ruleOk x) (t : Tm) (ht : tmOk t) : (∀ b, b ∈ (fireS x t).1 → b.t.size < 540 ∧ b.t.wf) ∧ (fireS x t).1.length < 1000000 := by
 obtain ⟨hle, hri, hgl, hgu⟩ := hx
 have hmo := ru0 x.le t ht
 unfold fireS
 cases hq : x.le.mat t [] with
 | none => simp
 | some bs =>
  simp only
  refine ⟨fun b hb => ?_, ?_⟩
  ·obtain ⟨b', hb1, hb2⟩ := lO0 bs _ b hb
   rw [← hb2]; exact hmo bs hq b' hb1
  ·have h1 := fQ0 bs (qp0 (qp0 x.le.vars))
   have h2 := wt0 (qp0 x.le.vars)
   have h3 := wt0 x.le.vars
   have h4 := ql0 x.le
   have h5 := hle.1
   unfold bM0
   omega
end Go.Ai
