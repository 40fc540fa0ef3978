/- Helpers of the great laws: big, has, climbs, sameInts. -/
import Derived.Test.YtmddjojbaompiaaGreatAiDw13
import Derived.Test.YtmddjojbaompiaaGreatAiF1
import Derived.Test.YtmddjojbaompiaaGreatAiU6
import Derived.Test.YtmddjojbaompiaaGreatAiU9
import Derived.Test.YtmddjojbaompiaaGreatAiQ2
import Derived.Test.YtmddjojbaompiaaGreatAiPR1
import Derived.Test.YtmddjojbaompiaaGreatAiY2
set_option linter.unusedVariables false
set_option linter.unusedSimpArgs false
namespace Go.Ai
open Go.Proofs
set_option maxRecDepth 100000
theorem lawsBig_sat (bs : List Int) (b : Bool) (hb : b = decide (1048576 < bs.length)) : Sat Tryz.prog 7 [slV (bs.map encU)] (boolV b) := by
 subst hb
 refine sat_of_code tbOk mixed Tryz.func7 rfl rfl rfl (by decide +kernel) (by decide +kernel) (Nat.le_of_ble_eq_true rfl) ?_
 by_cases h : (bs.length : Int) > 1048576
 ·have h2 : 1048576 < bs.length := by omega
  simp -implicitDefEqProofs (disch := omega) only [go_sem, List.length_map, h, h2]
 ·have h2 : ¬ 1048576 < bs.length := by omega
  simp -implicitDefEqProofs (disch := omega) only [go_sem, List.length_map, h, h2]
theorem lawsSame_sat (xs : List Int) (hl : xs.length < 100000000) : Sat Tryz.prog 20 [slV (xs.map encI), slV (xs.map encI)] (boolV true) := by
 refine sat_of_code tbOk mixed Tryz.func20 rfl rfl rfl (by decide +kernel) (by decide +kernel) (Nat.le_of_ble_eq_true rfl) ?_
 simp -implicitDefEqProofs (disch := omega) only [go_sem, List.length_map]
 refine loopA_rule (ι := Nat) (fun i => mk 26 [(0, slV (xs.map encI)), (1, slV (xs.map encI)), (5, intV i)] []) (fun i => i ≤ xs.length) (fun i => xs.length - i) 0 (Nat.zero_le _) ?_ tbOk mixed (by decide +kernel) ?_
 ·exact le_mk (by simp [go_sem]) (by simp [go_sem])
 ·intro i hi
  rcases Nat.lt_or_ge i xs.length with hlt | hge
  ·have hg := map_getD (ec := encI) hlt
   generalize xs[i] = x at hg
   simp only [encI] at hg
   simp -implicitDefEqProofs (disch := omega) only [go_sem, List.length_map, hlt, hg]
   exact ⟨i + 1, by omega, by omega, le_mk (by simp [go_sem]) (by simp [go_sem])⟩
  ·have : i = xs.length := by omega
   subst this
   simp -implicitDefEqProofs (disch := omega) only [go_sem, List.length_map, Nat.lt_irrefl]
end Go.Ai
/- FnRedexes. -/
namespace Go.Ai
open Go.Proofs
set_option maxRecDepth 100000
theorem lawsSameRedexes_sat (xs : List GRedex) (hl : xs.length < 100000000) (hp : ∀ x, x ∈ xs → x.ps.length < 100000000) : Sat Tryz.prog 36 [slV (xs.map GRedex.enc), slV (xs.map GRedex.enc)] (boolV true) := by
 refine sat_of_code tbOk mixed Tryz.func36 rfl rfl rfl (by decide +kernel) (by decide +kernel) (Nat.le_of_ble_eq_true rfl) ?_
 simp -implicitDefEqProofs (disch := omega) only [go_sem, List.length_map]
 refine loopA_rule (ι := Nat) (fun i => mk 42 [(0, slV (xs.map GRedex.enc)), (1, slV (xs.map GRedex.enc)), (5, intV i)] []) (fun i => i ≤ xs.length) (fun i => xs.length - i) 0 (Nat.zero_le _) ?_ tbOk mixed (by decide +kernel) ?_
 ·exact le_mk (by simp [go_sem]) (by simp [go_sem])
 ·intro i hi
  rcases Nat.lt_or_ge i xs.length with hlt | hge
  ·have hg := map_getD (ec := GRedex.enc) hlt
   have hs := lawsSame_sat xs[i].ps (hp _ (List.getElem_mem hlt))
   generalize xs[i] = x at hg hs
   obtain ⟨ru, ps⟩ := x
   simp only [GRedex.enc, encI, encL, List.cons_append, List.nil_append] at hg
   simp -implicitDefEqProofs (disch := omega) only [go_sem, List.length_map, hlt, hg]
   refine CallK.mk hs ?_
   simp -implicitDefEqProofs (disch := omega) only [go_sem]
   exact ⟨i + 1, by omega, by omega, le_mk (by simp [go_sem]) (by simp [go_sem])⟩
  ·have : i = xs.length := by omega
   subst this
   simp -implicitDefEqProofs (disch := omega) only [go_sem, List.length_map, Nat.lt_irrefl]
theorem lawRedexes_sat (bs : List Int) (hb : ∀ x, x ∈ bs → 0 ≤ x ∧ x ≤ 255) : Sat Tryz.prog 5 [slV (bs.map encU)] (boolV true) := by
 have hbig := lawsBig_sat bs _ rfl
 refine sat_of_code tbOk mixed Tryz.func5 rfl rfl rfl (by decide +kernel) (by decide +kernel) (Nat.le_of_ble_eq_true rfl) ?_
 simp -implicitDefEqProofs (disch := omega) only [go_sem]
 refine CallK.mk hbig ?_
 by_cases hl : 1048576 < bs.length
 ·rw [decide_eq_true hl]
  simp -implicitDefEqProofs (disch := omega) only [go_sem]
 rw [decide_eq_false hl]
 have hok : okBs8 bs := ⟨by omega, hb⟩
 obtain ⟨d, t, gd, gt, hd⟩ := DrawAllRedexes_ex bs hok
 obtain ⟨e, n, u, ge, hn, gu, he⟩ := DrawFireRule_ex bs hok
 have gts := gt.2
 have gus := gu.2
 have hds : d.size < 1048577 := by have := gd.2; omega
 have hes : e.size < 1048577 := by have := ge.2; omega
 have hdst : d.st.length < 1048577 := by have := len_szL GStrict.size d.st; simp only [GDefinition.size] at hds; omega
 have h1 := (implAllRedexesF_sat d gd.1 hds t gt.1 (by omega)).sat
 have h2 := specAllRedexes_sat d gd.1 hds t gt.1 (by omega)
 have hall := allB_ok d gd.1 t gt.1
 have hL := len_szL GRedex.size (allB d t)
 have hps : ∀ x, x ∈ allB d t → x.ps.length < 100000000 := fun x hx => by
  have a1 := szL_mem GRedex.size _ x hx
  have a2 := len_szL szI x.ps
  have a3 := hall.1
  simp only [GRedex.size] at a1
  omega
 have h3 := lawsSameRedexes_sat (allB d t) (by have := hall.1; omega) hps
 have h4 := implRoot_sat d gd.1 hds t gt.1 (by omega)
 have h5 := specRoot_sat2 d gd.1 hds t gt.1 (by omega)
 have hroot := all_root d t
 have hfire := all_fires d t
 have f1 := (implFireRuleF_sat e ge.1 hes n u gu.1 (by omega)).sat
 have f2 := specFireRule_sat e ge.1 hes n u gu.1 (by omega)
 have fw : ((fireB e n u).getD zeroT).wf := by
  cases hf : fireB e n u with
  | none => exact zeroT_wf
  | some v => exact (fireB_ok e ge.1 n u gu.1 v hf).2
 have f3 := specEqualTerm_sat _ fw ((fireB e n u).getD zeroT)
 rw [Tm.eqb_refl] at f3
 have hstep : ∀ (i : Nat) (hi : i < (allB d t).length), ∃ v w, Sat Tryz.prog 40 [tmV t, slV ((allB d t)[i].ps.map encI)] (.tup [tmV v, boolV true]) ∧ Sat Tryz.prog 41 [aggV d.enc, intV (allB d t)[i].ru, tmV v] (.tup [tmV w, boolV true]) ∧ Sat Tryz.prog 42 [aggV d.enc, tmV t, slV ((allB d t)[i].ps.map encI)] (boolV true) := fun i hi => by
  obtain ⟨v, a1, a2, a3, a4⟩ := hfire i hi
  have hpl := hps _ (List.getElem_mem hi)
  have s1 := specTermAtp_sat t (by omega) (allB d t)[i].ps hpl
  have vz := atp_size _ _ _ a1
  have s2 := (implFireRuleF_sat d gd.1 hds (allB d t)[i].ru v (atp_wf _ _ _ a1 gt.1) (by omega)).sat
  have s3 := specIsSP_sat d hdst t (by omega) (allB d t)[i].ps (Nat.le_of_lt (Nat.lt_of_lt_of_le hpl (by decide)))
  rw [a1] at s1
  rw [a2] at s2
  rw [a3] at s3
  exact ⟨v, _, s1, s2, s3⟩
 have hL8 : (allB d t).length ≤ 1000000 := by have := hall.1; omega
 generalize allB d t = L at h1 h2 h3 hroot hstep hL8
 generalize rootB d t = k at h4 h5 hroot
 generalize (fireB e n u).getD zeroT = w at f1 f2 f3
 generalize (fireB e n u).isSome = wb at f1 f2
 have hcase : k < 0 ∨ (0 ≤ k ∧ 0 < L.length ∧ (L.map GRedex.enc).getD 0 [] = [.v (.int .i64 k), .sl []]) := by
  rcases Int.lt_or_le k 0 with h | h
  ·exact .inl h
  ·obtain ⟨tl, rfl⟩ := hroot h
   exact .inr ⟨h, by simp, by simp [GRedex.enc, encI, encL]⟩
 obtain ⟨⟨dso, dop⟩, dru, dst⟩ := d
 obtain ⟨tk, tn, tz, ta⟩ := t
 simp -implicitDefEqProofs (disch := omega) only [go_sem]
 refine CallK.mk hd ?_
 simp -implicitDefEqProofs (disch := omega) only [go_sem, GDefinition.enc, GSignature.enc, Tm.enc, encS, encL, List.cons_append, List.nil_append]
 refine CallK.mk h1 ?_
 simp -implicitDefEqProofs (disch := omega) only [go_sem]
 refine CallK.mk h2 ?_
 simp -implicitDefEqProofs (disch := omega) only [go_sem]
 refine CallK.mk h3 ?_
 simp -implicitDefEqProofs (disch := omega) only [go_sem]
 refine CallK.mk h4 ?_
 simp -implicitDefEqProofs (disch := omega) only [go_sem]
 refine CallK.mk h5 ?_
 rcases hcase with hk | ⟨hk, hl0, hg0⟩
 case' inl =>
  have hk' : ¬ k ≥ 0 := by omega
  simp -implicitDefEqProofs (disch := omega) only [go_sem, List.length_map, hk']
 case' inr =>
  have hk' : k ≥ 0 := hk
  have hl0' : ¬ ((L.length : Int) = 0) := by omega
  simp -implicitDefEqProofs (disch := omega) only [go_sem, List.length_map, hk', hl0, hl0', hg0]
  refine fun _ => ⟨by omega, fun _ => ⟨by omega, fun _ => ⟨fun h => absurd h (by decide), fun _ => ?_⟩⟩⟩
 all_goals
  refine loopA_rule (ι := Nat) (fun i => mk 140 [(0, slV (bs.map encU)), (3, .one (.ptr 3 0)), (4, .one (.ptr 4 0)), (5, slV (L.map GRedex.enc)), (7, intV i)] [(3, .var [.c (.sl (dso.map encS)), .c (.sl (dop.map GOp.enc)), .c (.sl (dru.map GRule.enc)), .c (.sl (dst.map GStrict.enc))]), (4, .var [iC tk, iC tn, sC tz, .c (.sl (Tm.encs ta))])]) (fun i => i ≤ L.length) (fun i => L.length - i) 0 (Nat.zero_le _) ?_ tbOk mixed (by decide +kernel) ?_
  ·exact le_mk (by simp [go_sem]) (by simp [go_sem])
  ·intro i hi
   rcases Nat.lt_or_ge i L.length with hlt | hge
   ·have hg := map_getD (ec := GRedex.enc) hlt
    obtain ⟨v, w', s1, s2, s3⟩ := hstep i hlt
    generalize L[i] = q at hg s1 s2 s3
    obtain ⟨qr, qp⟩ := q
    obtain ⟨vk, vn, vz, va⟩ := v
    obtain ⟨wk, wn, wz, wa⟩ := w'
    simp only [GRedex.enc, encI, encL, List.cons_append, List.nil_append] at hg
    simp -implicitDefEqProofs (disch := omega) only [go_sem, List.length_map, hlt, hg]
    refine CallK.mk s1 ?_
    simp -implicitDefEqProofs (disch := omega) only [go_sem, Tm.enc, hlt, hg]
    refine CallK.mk s2 ?_
    simp -implicitDefEqProofs (disch := omega) only [go_sem, Tm.enc, hlt, hg]
    refine CallK.mk s3 ?_
    simp -implicitDefEqProofs (disch := omega) only [go_sem]
    exact ⟨i + 1, by omega, by omega, le_mk (by simp [go_sem]) (by simp [go_sem])⟩
   ·have : i = L.length := by omega
    subst this
    obtain ⟨⟨eso, eop⟩, eru, est⟩ := e
    obtain ⟨uk, un, uz, ua⟩ := u
    obtain ⟨wk, wn, wz, wa⟩ := w
    simp -implicitDefEqProofs (disch := omega) only [go_sem, List.length_map, Nat.lt_irrefl]
    refine CallK.mk he ?_
    simp -implicitDefEqProofs (disch := omega) only [go_sem, GDefinition.enc, GSignature.enc, Tm.enc, encS, encL, List.cons_append, List.nil_append]
    refine CallK.mk f1 ?_
    simp -implicitDefEqProofs (disch := omega) only [go_sem, Tm.enc]
    refine CallK.mk f2 ?_
    simp -implicitDefEqProofs (disch := omega) only [go_sem, Tm.enc]
    refine CallK.mk f3 ?_
    simp -implicitDefEqProofs (disch := omega) only [go_sem]
end Go.Ai
