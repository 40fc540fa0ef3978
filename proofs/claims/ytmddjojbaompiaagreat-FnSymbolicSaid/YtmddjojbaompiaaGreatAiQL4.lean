/- Helpers of the great laws: big, has, climbs, sameInts. -/
import Derived.Test.YtmddjojbaompiaaGreatAiDw13
import Derived.Test.YtmddjojbaompiaaGreatAiF1
import Derived.Test.YtmddjojbaompiaaGreatAiU6
import Derived.Test.YtmddjojbaompiaaGreatAiU11
import Derived.Test.YtmddjojbaompiaaGreatAiQ2
import Derived.Test.YtmddjojbaompiaaGreatAiDw14
import Derived.Test.YtmddjojbaompiaaGreatAiPR2
set_option linter.unusedVariables false
set_option linter.unusedSimpArgs false
namespace Go.Ai
open Go.Proofs
set_option maxRecDepth 100000
theorem lawsBig_sat (bs : List Int) (b : Bool) (hb : b = decide (1048576 < bs.length)) : Sat Tryz.prog 7 [slV (bs.map encU)] (boolV b) := by
 subst hb
 refine sat_of_code tbOk mixed Tryz.func7 rfl rfl rfl (by decide +kernel) (by decide +kernel) (Nat.le_of_ble_eq_true rfl) ?_
 by_cases h : (bs.length : Int) > 1048576
 ·have h2 : 1048576 < bs.length := by omega
  simp -implicitDefEqProofs (disch := omega) only [go_sem, List.length_map, h, h2]
 ·have h2 : ¬ 1048576 < bs.length := by omega
  simp -implicitDefEqProofs (disch := omega) only [go_sem, List.length_map, h, h2]
end Go.Ai
/- FnSymbolic. -/
namespace Go.Ai
open Go.Proofs
set_option maxRecDepth 100000
theorem lawSymbolic_sat (bs : List Int) (hb : ∀ x, x ∈ bs → 0 ≤ x ∧ x ≤ 255) : Sat Tryz.prog 4 [slV (bs.map encU)] (boolV true) := by
 have hbig := lawsBig_sat bs _ rfl
 refine sat_of_code tbOk mixed Tryz.func4 rfl rfl rfl (by decide +kernel) (by decide +kernel) (Nat.le_of_ble_eq_true rfl) ?_
 simp -implicitDefEqProofs (disch := omega) only [go_sem]
 refine CallK.mk hbig ?_
 by_cases hl : 1048576 < bs.length
 ·rw [decide_eq_true hl]
  simp -implicitDefEqProofs (disch := omega) only [go_sem]
 rw [decide_eq_false hl]
 have hok : okBs8 bs := ⟨by omega, hb⟩
 obtain ⟨d, s, gd, gs, hd⟩ := DrawIsSymbolic_ex bs hok
 obtain ⟨y, n, gy, hn, hi⟩ := DrawInstanceOf_ex bs hok
 have hds : d.size < 1048577 := by have := gd.2; omega
 have hss : s.size < 1048577 := by have := gs.2; omega
 have hy := gy.2
 have h1 := implSym_sat d hds s hss
 have h2 := specSym_sat d hds s hss
 have h3 := implEqualSymbolic_sat s gs.1 s
 rw [GSymbolic.eqb_refl] at h3
 have hvl : s.va.length < 1048577 := by have := len_szL szS s.va; simp only [GSymbolic.size] at hss; omega
 have hyl : y.va.length < 1048577 := by have := len_szL szS y.va; simp only [GSymbolic.size] at hy; omega
 have hcl : s.ca.length < 1048577 := by have := len_szL szI s.ca; simp only [GSymbolic.size] at hss; omega
 have hst : s.t.size < 1048577 := by simp only [GSymbolic.size] at hss; omega
 have hyt : y.t.size < 1048577 := by simp only [GSymbolic.size] at hy; omega
 have f1 := (implInstanceOfF_sat y hyl hyt n).sat
 have f2 := specInstanceOf_sat y hyl hyt n
 have fw := instOf_wf y.va y.t n gy.1.2.1
 have f3 := specEqualTerm_sat _ fw (instOf y.va y.t n).1
 rw [Tm.eqb_refl] at f3
 have hstep : symB d s = true → ∀ (i : Nat) (hi : i < s.ca.length), ∃ u, Sat Tryz.prog 29 [aggV s.enc, intV s.ca[i]] (.tup [tmV u, boolV true]) ∧ Sat Tryz.prog 30 [aggV d.enc, tmV u] (boolV true) := fun hs i hi => by
  obtain ⟨⟨c0, c1⟩, hc⟩ := sym_inst d s hs i hi
  have a1 := (implInstanceOfF_sat s hvl hst s.ca[i]).sat
  have hz := instOf_size s.va s.t s.ca[i]
  have e : instOf s.va s.t s.ca[i] = ((s.t.sub (caseSubst s.va s.ca[i])).red, true) := if_pos ⟨c0, c1⟩
  rw [e] at a1 hz
  have a2 := specCfg_sat d hds (s.t.sub (caseSubst s.va s.ca[i])).red (by simp only at hz; omega)
  rw [hc] at a2
  exact ⟨_, a1, a2⟩
 generalize symB d s = ok at h1 h2 hstep
 obtain ⟨⟨dso, dop⟩, dru, dst⟩ := d
 obtain ⟨va, ⟨tk, tn, tz, ta⟩, ca⟩ := s
 simp only at hstep hcl
 simp -implicitDefEqProofs (disch := omega) only [go_sem]
 refine CallK.mk hd ?_
 simp -implicitDefEqProofs (disch := omega) only [go_sem, List.cons_append, List.nil_append]
 refine CallK.mk h1 ?_
 simp -implicitDefEqProofs (disch := omega) only [go_sem]
 refine CallK.mk h2 ?_
 simp -implicitDefEqProofs (disch := omega) only [go_sem]
 refine CallK.mk h3 ?_
 simp -implicitDefEqProofs (disch := omega) only [go_sem]
 refine loopA_rule (ι := Nat) (fun i => mk 89 [(0, slV (bs.map encU)), (3, .one (.ptr 3 0)), (4, .one (.ptr 4 0)), (5, boolV ok), (6, intV i)] [(3, .var [.c (.sl (dso.map encS)), .c (.sl (dop.map GOp.enc)), .c (.sl (dru.map GRule.enc)), .c (.sl (dst.map GStrict.enc))]), (4, .var [.c (.sl (va.map encS)), iC tk, iC tn, sC tz, .c (.sl (Tm.encs ta)), .c (.sl (ca.map encI))])]) (fun i => i ≤ ca.length) (fun i => ca.length - i) 0 (Nat.zero_le _) ?_ tbOk mixed (by decide +kernel) ?_
 ·exact le_mk (by simp [go_sem]) (by simp [go_sem])
 ·intro i hi'
  by_cases hc : i < ca.length ∧ ok = true
  ·obtain ⟨hlt, rfl⟩ := hc
   have hg := map_getD (ec := encI) hlt
   obtain ⟨u, s1, s2⟩ := hstep rfl i hlt
   generalize ca[i] = c at hg s1
   obtain ⟨uk, un, uz, ua⟩ := u
   simp only [encI] at hg
   simp -implicitDefEqProofs (disch := omega) only [go_sem, List.length_map, hlt, hg]
   refine CallK.mk s1 ?_
   simp -implicitDefEqProofs (disch := omega) only [go_sem]
   refine CallK.mk s2 ?_
   simp -implicitDefEqProofs (disch := omega) only [go_sem]
   exact ⟨i + 1, hlt, by omega, le_mk (by simp [go_sem]) (by simp [go_sem])⟩
  ·generalize (instOf y.va y.t n).1 = w at f1 f2 f3
   generalize (instOf y.va y.t n).2 = wb at f1 f2
   obtain ⟨yva, ⟨yk, yn, yz, ya⟩, yca⟩ := y
   obtain ⟨wk, wn, wz, wa⟩ := w
   have hxx : (i < ca.length ∧ ok = false) ∨ i = ca.length := by
    rcases Nat.lt_or_ge i ca.length with hlt | hge
    ·left; refine ⟨hlt, ?_⟩
     cases ok with
     | false => rfl
     | true => exact absurd ⟨hlt, rfl⟩ hc
    ·right; omega
   rcases hxx with ⟨hlt, rfl⟩ | rfl
   case' inl => simp -implicitDefEqProofs (disch := omega) only [go_sem, List.length_map, hlt]
   case' inr => simp -implicitDefEqProofs (disch := omega) only [go_sem, List.length_map, Nat.lt_irrefl]
   all_goals
    refine CallK.mk hi ?_
    simp -implicitDefEqProofs (disch := omega) only [go_sem]
    refine CallK.mk f1 ?_
    simp -implicitDefEqProofs (disch := omega) only [go_sem]
    refine CallK.mk f2 ?_
    simp -implicitDefEqProofs (disch := omega) only [go_sem]
    refine CallK.mk f3 ?_
    simp -implicitDefEqProofs (disch := omega) only [go_sem]
end Go.Ai
