/- Helpers of the great laws: big, has, climbs, sameInts. -/
import Derived.Test.YtmddjojbaompiaaGreatAiDw13
import Derived.Test.YtmddjojbaompiaaGreatAiF1
import Derived.Test.YtmddjojbaompiaaGreatAiU6
import Derived.Test.YtmddjojbaompiaaGreatAiU10
import Derived.Test.YtmddjojbaompiaaGreatAiQ2
import Derived.Test.YtmddjojbaompiaaGreatAiPR3
import Derived.Test.YtmddjojbaompiaaGreatAiY3
set_option linter.unusedVariables false
set_option linter.unusedSimpArgs false
namespace Go.Ai
open Go.Proofs
set_option maxRecDepth 100000
theorem lawsBig_sat (bs : List Int) (b : Bool) (hb : b = decide (1048576 < bs.length)) : Sat Tryz.prog 7 [slV (bs.map encU)] (boolV b) := by
 subst hb
 refine sat_of_code tbOk mixed Tryz.func7 rfl rfl rfl (by decide +kernel) (by decide +kernel) (Nat.le_of_ble_eq_true rfl) ?_
 by_cases h : (bs.length : Int) > 1048576
 ·have h2 : 1048576 < bs.length := by omega
  simp -implicitDefEqProofs (disch := omega) only [go_sem, List.length_map, h, h2]
 ·have h2 : ¬ 1048576 < bs.length := by omega
  simp -implicitDefEqProofs (disch := omega) only [go_sem, List.length_map, h, h2]
theorem lawsSame_sat (xs : List Int) (hl : xs.length < 100000000) : Sat Tryz.prog 20 [slV (xs.map encI), slV (xs.map encI)] (boolV true) := by
 refine sat_of_code tbOk mixed Tryz.func20 rfl rfl rfl (by decide +kernel) (by decide +kernel) (Nat.le_of_ble_eq_true rfl) ?_
 simp -implicitDefEqProofs (disch := omega) only [go_sem, List.length_map]
 refine loopA_rule (ι := Nat) (fun i => mk 26 [(0, slV (xs.map encI)), (1, slV (xs.map encI)), (5, intV i)] []) (fun i => i ≤ xs.length) (fun i => xs.length - i) 0 (Nat.zero_le _) ?_ tbOk mixed (by decide +kernel) ?_
 ·exact le_mk (by simp [go_sem]) (by simp [go_sem])
 ·intro i hi
  rcases Nat.lt_or_ge i xs.length with hlt | hge
  ·have hg := map_getD (ec := encI) hlt
   generalize xs[i] = x at hg
   simp only [encI] at hg
   simp -implicitDefEqProofs (disch := omega) only [go_sem, List.length_map, hlt, hg]
   exact ⟨i + 1, by omega, by omega, le_mk (by simp [go_sem]) (by simp [go_sem])⟩
  ·have : i = xs.length := by omega
   subst this
   simp -implicitDefEqProofs (disch := omega) only [go_sem, List.length_map, Nat.lt_irrefl]
end Go.Ai
/- FnRedexes. -/
namespace Go.Ai
open Go.Proofs
set_option maxRecDepth 100000
theorem lawsSameRedexes_sat (xs : List GRedex) (hl : xs.length < 100000000) (hp : ∀ x, x ∈ xs → x.ps.length < 100000000) : Sat Tryz.prog 36 [slV (xs.map GRedex.enc), slV (xs.map GRedex.enc)] (boolV true) := by
 refine sat_of_code tbOk mixed Tryz.func36 rfl rfl rfl (by decide +kernel) (by decide +kernel) (Nat.le_of_ble_eq_true rfl) ?_
 simp -implicitDefEqProofs (disch := omega) only [go_sem, List.length_map]
 refine loopA_rule (ι := Nat) (fun i => mk 42 [(0, slV (xs.map GRedex.enc)), (1, slV (xs.map GRedex.enc)), (5, intV i)] []) (fun i => i ≤ xs.length) (fun i => xs.length - i) 0 (Nat.zero_le _) ?_ tbOk mixed (by decide +kernel) ?_
 ·exact le_mk (by simp [go_sem]) (by simp [go_sem])
 ·intro i hi
  rcases Nat.lt_or_ge i xs.length with hlt | hge
  ·have hg := map_getD (ec := GRedex.enc) hlt
   have hs := lawsSame_sat xs[i].ps (hp _ (List.getElem_mem hlt))
   generalize xs[i] = x at hg hs
   obtain ⟨ru, ps⟩ := x
   simp only [GRedex.enc, encI, encL, List.cons_append, List.nil_append] at hg
   simp -implicitDefEqProofs (disch := omega) only [go_sem, List.length_map, hlt, hg]
   refine CallK.mk hs ?_
   simp -implicitDefEqProofs (disch := omega) only [go_sem]
   exact ⟨i + 1, by omega, by omega, le_mk (by simp [go_sem]) (by simp [go_sem])⟩
  ·have : i = xs.length := by omega
   subst this
   simp -implicitDefEqProofs (disch := omega) only [go_sem, List.length_map, Nat.lt_irrefl]
end Go.Ai
/- FnSteps. -/
namespace Go.Ai
open Go.Proofs
set_option maxRecDepth 100000
theorem lawSteps_sat (bs : List Int) (hb : ∀ x, x ∈ bs → 0 ≤ x ∧ x ≤ 255) : Sat Tryz.prog 6 [slV (bs.map encU)] (boolV true) := by
 have hbig := lawsBig_sat bs _ rfl
 refine sat_of_code tbOk mixed Tryz.func6 rfl rfl rfl (by decide +kernel) (by decide +kernel) (Nat.le_of_ble_eq_true rfl) ?_
 simp -implicitDefEqProofs (disch := omega) only [go_sem]
 refine CallK.mk hbig ?_
 by_cases hl : 1048576 < bs.length
 ·rw [decide_eq_true hl]
  simp -implicitDefEqProofs (disch := omega) only [go_sem]
 rw [decide_eq_false hl]
 have hok : okBs8 bs := ⟨by omega, hb⟩
 obtain ⟨d, t, gd, gt, hd⟩ := DrawStepTerm_ex bs hok
 have gts := gt.2
 have hds : d.size < 1048577 := by have := gd.2; omega
 have h1 := (implStepTermF_sat d gd.1 hds t gt.1 (by omega)).sat
 have h2 := specStepTerm_sat d gd.1 hds t gt.1 (by omega)
 have h3 := implNextRedex_sat d gd.1 hds t gt.1 (by omega)
 have h4 := specNextRedex_sat d gd.1 hds t gt.1 (by omega)
 have h5 := implIsNormal_sat d gd.1 hds t gt.1 (by omega)
 have h6 := implCfg_sat d hds t (by omega)
 have h7 := specCfg_sat d hds t (by omega)
 have hso := stepB_ok d gd.1 t gt.1
 have h8 := specEqualTerm_sat _ hso.2 ((stepB d t).getD t)
 rw [Tm.eqb_refl] at h8
 have h9 := specEqualTerm_sat _ gt.1 t
 rw [Tm.eqb_refl] at h9
 have hparts := step_parts d gd.1 t gt.1
 have hred := fun q => next_ok d gd.1 t gt.1 q
 have hrp : ∀ q : Int × List Int, q.2.length < 1000 → Sat Tryz.prog 52 [aggV d.enc, tmV t, slV ([q].map encQ)] (.tup [tmV ((replayB d t [q]).getD zeroT), boolV (replayB d t [q]).isSome]) := fun q hq =>
  specReplay_sat d gd.1 hds t gt.1 (by omega) [q] (by simp) (fun x hx => by rw [List.mem_singleton] at hx; subst hx; omega)
 have hsr := fun (q : Int × List Int) (hq : q.2.length < 1000) => lawsSameRedexes_sat [rdG q] (by simp) (fun x hx => by rw [List.mem_singleton] at hx; subst hx; simp only [rdG]; omega)
 have hk : opOk d.si := opOk_of d.si (by have := gd.2; simp only [GDefinition.size] at this; omega)
 have hs1 := specSortOf_sat d.si hk [] (by simp) t (by omega)
 have hs2 := specSortOf_sat d.si hk [] (by simp) ((stepB d t).getD t) (by have := hso.1; omega)
 have hcq : ∀ q : Int × List Int, rdx [] (some q) = encQ q := fun q => rfl
 have hcase : (stepB d t = none ∧ ∃ q0 : Int × List Int, rdx [] (nextB d t) = encQ q0 ∧ q0.2.length < 1000) ∨ ∃ q u, stepB d t = some u ∧ nextB d t = some q ∧ cfgB d t = true ∧ q.2.length < 1000 ∧ replayB d t [q] = some u ∧ u.sort d.si [] = t.sort d.si [] := by
  cases hst : stepB d t with
  | none =>
   refine .inl ⟨rfl, ?_⟩
   cases hnx : nextB d t with
   | none => exact ⟨(0, []), rfl, by simp⟩
   | some q => exact ⟨q, rfl, (hred q hnx).2.1⟩
  | some u =>
   obtain ⟨q, a1, a2, a3, a4, a5⟩ := hparts u hst
   exact .inr ⟨q, u, rfl, a1, a2, a3.1, a4, a5⟩
 clear hparts hred hcq
 generalize hnx : nextB d t = nx at h3 h4 h5 hcase
 generalize hcc : cfgB d t = cb at h5 h6 h7 hcase
 rcases hcase with ⟨hst, q0, he, hql⟩ | ⟨q0, u, hst, rfl, rfl, hql, hr, hsu⟩
 ·have hsr := hsr q0 hql
  rw [hst] at h1 h2 h8
  simp only [Option.getD_none, Option.isSome_none] at h1 h2 h8
  simp only [he] at h3 h4
  clear hrp hs1 hs2 hcc hnx hst hso
  generalize nx.isSome = z at h3 h4 h5
  obtain ⟨⟨dso, dop⟩, dru, dst⟩ := d
  obtain ⟨tk, tn, tz, ta⟩ := t
  obtain ⟨qr, qp⟩ := q0
  simp only [encQ] at h3 h4
  simp only [rdG, List.map_cons, List.map_nil, GRedex.enc, encI, encL, List.cons_append, List.nil_append] at hsr
  cases cb <;> cases z
  all_goals
   simp only [Bool.and_true, Bool.and_false, Bool.not_true, Bool.not_false] at h5
   simp -implicitDefEqProofs (disch := omega) only [go_sem]
   refine CallK.mk hd ?_
   simp -implicitDefEqProofs (disch := omega) only [go_sem, GDefinition.enc, GSignature.enc, Tm.enc, encS, encL, List.cons_append, List.nil_append]
   refine CallK.mk h1 ?_
   simp -implicitDefEqProofs (disch := omega) only [go_sem, Tm.enc]
   refine CallK.mk h2 ?_
   simp -implicitDefEqProofs (disch := omega) only [go_sem, Tm.enc]
   refine CallK.mk h3 ?_
   simp -implicitDefEqProofs (disch := omega) only [go_sem]
   refine CallK.mk h4 ?_
   simp -implicitDefEqProofs (disch := omega) only [go_sem]
   refine CallK.mk h8 ?_
   simp -implicitDefEqProofs (disch := omega) only [go_sem]
   refine CallK.bor hsr rfl ?_
   simp -implicitDefEqProofs (disch := omega) only [go_sem]
   refine CallK.mk h5 ?_
   simp -implicitDefEqProofs (disch := omega) only [go_sem]
   refine CallK.mk h7 ?_
   simp -implicitDefEqProofs (disch := omega) only [go_sem]
   refine CallK.mk h6 ?_
   simp -implicitDefEqProofs (disch := omega) only [go_sem]
   refine CallK.mk h7 ?_
   simp -implicitDefEqProofs (disch := omega) only [go_sem]
   refine CallK.mk h9 ?_
   simp -implicitDefEqProofs (disch := omega) only [go_sem]
 ·have hsr := hsr q0 hql
  have hrp := hrp q0 hql
  rw [hst] at h1 h2 h8 hs2
  rw [hr] at hrp
  simp only [Option.getD_some, Option.isSome_some, rdx, List.nil_append, Bool.and_false, Bool.not_true] at h1 h2 h8 hs2 hrp h3 h4 h5
  rw [hsu] at hs2
  clear hnx hcc hr hst hsu hso
  obtain ⟨⟨dso, dop⟩, dru, dst⟩ := d
  obtain ⟨tk, tn, tz, ta⟩ := t
  obtain ⟨uk, un, uz, ua⟩ := u
  obtain ⟨qr, qp⟩ := q0
  generalize Tm.sort ⟨dso, dop⟩ [] (.mk tk tn tz ta) = so at hs1 hs2
  simp only [rdG, List.map_cons, List.map_nil, GRedex.enc, encI, encL, encQ, List.cons_append, List.nil_append] at hsr h3 h4 hrp
  simp only [List.map_nil] at hs1 hs2
  simp -implicitDefEqProofs (disch := omega) only [go_sem]
  refine CallK.mk hd ?_
  simp -implicitDefEqProofs (disch := omega) only [go_sem, GDefinition.enc, GSignature.enc, Tm.enc, encS, encL, List.cons_append, List.nil_append]
  refine CallK.mk h1 ?_
  simp -implicitDefEqProofs (disch := omega) only [go_sem, Tm.enc]
  refine CallK.mk h2 ?_
  simp -implicitDefEqProofs (disch := omega) only [go_sem, Tm.enc]
  refine CallK.mk h3 ?_
  simp -implicitDefEqProofs (disch := omega) only [go_sem]
  refine CallK.mk h4 ?_
  simp -implicitDefEqProofs (disch := omega) only [go_sem]
  refine CallK.mk h8 ?_
  simp -implicitDefEqProofs (disch := omega) only [go_sem]
  refine CallK.bor hsr rfl ?_
  simp -implicitDefEqProofs (disch := omega) only [go_sem]
  refine CallK.mk h5 ?_
  simp -implicitDefEqProofs (disch := omega) only [go_sem]
  refine CallK.mk h7 ?_
  simp -implicitDefEqProofs (disch := omega) only [go_sem]
  refine CallK.mk h6 ?_
  simp -implicitDefEqProofs (disch := omega) only [go_sem]
  refine CallK.mk h7 ?_
  simp -implicitDefEqProofs (disch := omega) only [go_sem]
  refine CallK.mk hrp ?_
  simp -implicitDefEqProofs (disch := omega) only [go_sem, Tm.enc]
  refine CallK.mk h8 ?_
  simp -implicitDefEqProofs (disch := omega) only [go_sem]
  refine CallK.mk hs2 ?_
  simp -implicitDefEqProofs (disch := omega) only [go_sem]
  refine CallK.mk hs1 ?_
  simp -implicitDefEqProofs (disch := omega) only [go_sem]
end Go.Ai
