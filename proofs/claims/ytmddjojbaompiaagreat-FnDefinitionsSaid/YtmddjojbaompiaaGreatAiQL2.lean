/- Helpers of the great laws: big, has, climbs, sameInts. -/
import Derived.Test.YtmddjojbaompiaaGreatAiDw12
import Derived.Test.YtmddjojbaompiaaGreatAiF1
import Derived.Test.YtmddjojbaompiaaGreatAiU6
import Derived.Test.YtmddjojbaompiaaGreatAiU9
import Derived.Test.YtmddjojbaompiaaGreatAiQ2
import Derived.Test.YtmddjojbaompiaaGreatAiE1
set_option linter.unusedVariables false
set_option linter.unusedSimpArgs false
namespace Go.Ai
open Go.Proofs
set_option maxRecDepth 100000
theorem lawsBig_sat (bs : List Int) (b : Bool) (hb : b = decide (1048576 < bs.length)) : Sat Tryz.prog 7 [slV (bs.map encU)] (boolV b) := by
 subst hb
 refine sat_of_code tbOk mixed Tryz.func7 rfl rfl rfl (by decide +kernel) (by decide +kernel) (Nat.le_of_ble_eq_true rfl) ?_
 by_cases h : (bs.length : Int) > 1048576
 ·have h2 : 1048576 < bs.length := by omega
  simp -implicitDefEqProofs (disch := omega) only [go_sem, List.length_map, h, h2]
 ·have h2 : ¬ 1048576 < bs.length := by omega
  simp -implicitDefEqProofs (disch := omega) only [go_sem, List.length_map, h, h2]
theorem lawsSame_sat (xs : List Int) (hl : xs.length < 100000000) : Sat Tryz.prog 20 [slV (xs.map encI), slV (xs.map encI)] (boolV true) := by
 refine sat_of_code tbOk mixed Tryz.func20 rfl rfl rfl (by decide +kernel) (by decide +kernel) (Nat.le_of_ble_eq_true rfl) ?_
 simp -implicitDefEqProofs (disch := omega) only [go_sem, List.length_map]
 refine loopA_rule (ι := Nat) (fun i => mk 26 [(0, slV (xs.map encI)), (1, slV (xs.map encI)), (5, intV i)] []) (fun i => i ≤ xs.length) (fun i => xs.length - i) 0 (Nat.zero_le _) ?_ tbOk mixed (by decide +kernel) ?_
 ·exact le_mk (by simp [go_sem]) (by simp [go_sem])
 ·intro i hi
  rcases Nat.lt_or_ge i xs.length with hlt | hge
  ·have hg := map_getD (ec := encI) hlt
   generalize xs[i] = x at hg
   simp only [encI] at hg
   simp -implicitDefEqProofs (disch := omega) only [go_sem, List.length_map, hlt, hg]
   exact ⟨i + 1, by omega, by omega, le_mk (by simp [go_sem]) (by simp [go_sem])⟩
  ·have : i = xs.length := by omega
   subst this
   simp -implicitDefEqProofs (disch := omega) only [go_sem, List.length_map, Nat.lt_irrefl]
theorem lawsHas_sat (xs : List Int) (hl : xs.length < 100000000) (n : Int) (h : n ∈ xs) : Sat Tryz.prog 15 [slV (xs.map encI), intV n] (boolV true) := by
 refine sat_of_code tbOk mixed Tryz.func15 rfl rfl rfl (by decide +kernel) (by decide +kernel) (Nat.le_of_ble_eq_true rfl) ?_
 simp -implicitDefEqProofs (disch := omega) only [go_sem, List.length_map]
 refine loopA_rule (ι := Nat) (fun i => mk 18 [(0, slV (xs.map encI)), (1, intV n), (5, intV i)] []) (fun i => i ≤ xs.length ∧ n ∈ xs.drop i) (fun i => xs.length - i) 0 ⟨Nat.zero_le _, by simpa using h⟩ ?_ tbOk mixed (by decide +kernel) ?_
 ·exact le_mk (by simp [go_sem]) (by simp [go_sem])
 ·rintro i ⟨hi, hm⟩
  rcases Nat.lt_or_ge i xs.length with hlt | hge
  ·have hg := map_getD (ec := encI) hlt
   rw [List.drop_eq_getElem_cons hlt, List.mem_cons] at hm
   generalize xs[i] = x at hg hm
   simp only [encI] at hg
   by_cases hx : n = x
   ·have hx' : x = n := hx.symm
    simp -implicitDefEqProofs (disch := omega) only [go_sem, List.length_map, hlt, hg, hx']
   ·have hx' : ¬ x = n := fun e => hx e.symm
    simp -implicitDefEqProofs (disch := omega) only [go_sem, List.length_map, hlt, hg, hx']
    exact fun _ => ⟨i + 1, ⟨by omega, hm.resolve_left hx⟩, by omega, le_mk (by simp [go_sem]) (by simp [go_sem])⟩
  ·rw [List.drop_of_length_le hge] at hm
   cases hm
theorem lawsClimbs_sat (xs : List Int) (hl : xs.length < 100000000) (h : ∀ i, 0 < i → i < xs.length → xs.getD (i - 1) 0 < xs.getD i 0) : Sat Tryz.prog 24 [slV (xs.map encI)] (boolV true) := by
 refine sat_of_code tbOk mixed Tryz.func24 rfl rfl rfl (by decide +kernel) (by decide +kernel) (Nat.le_of_ble_eq_true rfl) ?_
 simp -implicitDefEqProofs (disch := omega) only [go_sem, List.length_map]
 refine loopA_rule (ι := Nat) (fun i => mk 20 [(0, slV (xs.map encI)), (3, intV (i + 1 : Nat))] []) (fun i => i ≤ xs.length) (fun i => xs.length - i) 0 (Nat.zero_le _) ?_ tbOk mixed (by decide +kernel) ?_
 ·exact le_mk (by simp [go_sem]) (by simp [go_sem])
 ·intro i hi
  rcases Nat.lt_or_ge (i + 1) xs.length with hlt | hge
  ·have hg := map_getD (ec := encI) hlt
   have hlt0 : i < xs.length := by omega
   have hg0 := map_getD (ec := encI) hlt0
   have hx := h (i + 1) (by omega) hlt
   rw [Nat.add_sub_cancel, List.getD_eq_getElem?_getD, List.getElem?_eq_getElem hlt0, List.getD_eq_getElem?_getD, List.getElem?_eq_getElem hlt] at hx
   simp only [Option.getD_some] at hx
   have e1 : (((i + 1 : Nat) : Int) - 1) = (i : Int) := by omega
   have hlti : (((i + 1 : Nat) : Int)) < xs.length := by omega
   generalize xs[i + 1] = x at hg hx
   generalize xs[i] = y at hg0 hx
   simp only [encI] at hg hg0
   have hge2 : ¬ y ≥ x := by omega
   simp -implicitDefEqProofs (disch := omega) only [go_sem, List.length_map, hlti, e1, hg, hg0, hge2]
   exact ⟨hlt0, fun _ => ⟨i + 1, by omega, by omega, le_mk (by simp [go_sem]) (by simp [go_sem])⟩⟩
  ·have hlti : ¬ (((i + 1 : Nat) : Int)) < xs.length := by omega
   simp -implicitDefEqProofs (disch := omega) only [go_sem, List.length_map, hlti]
theorem rfor_pw (op : ByteArray) : ∀ (rs : List GRule) (i : Nat), (rfor op rs i).Pairwise (· < ·) ∧ ∀ n, n ∈ rfor op rs i → (i : Int) ≤ n
 | [], _ => by simp [rfor]
 | r :: rs, i => by
  obtain ⟨h1, h2⟩ := rfor_pw op rs (i + 1)
  simp only [rfor]
  split
  ·refine ⟨List.pairwise_cons.2 ⟨fun n hn => by have := h2 n hn; omega, h1⟩, fun n hn => ?_⟩
   rcases List.mem_cons.1 hn with rfl | hn
   ·exact Int.le_refl _
   ·have := h2 n hn; omega
  ·exact ⟨h1, fun n hn => by have := h2 n hn; omega⟩
theorem pw_getD (xs : List Int) (h : xs.Pairwise (· < ·)) (i : Nat) (h0 : 0 < i) (hi : i < xs.length) : xs.getD (i - 1) 0 < xs.getD i 0 := by
 have h1 : i - 1 < xs.length := by omega
 rw [List.getD_eq_getElem?_getD, List.getElem?_eq_getElem h1, List.getD_eq_getElem?_getD, List.getElem?_eq_getElem hi]
 exact List.pairwise_iff_getElem.1 h (i - 1) i h1 hi (by omega)
theorem rfor_climbs (op : ByteArray) (rs : List GRule) (i : Nat) (h0 : 0 < i) (hi : i < (rfor op rs 0).length) : (rfor op rs 0).getD (i - 1) 0 < (rfor op rs 0).getD i 0 := pw_getD _ (rfor_pw op rs 0).1 i h0 hi
theorem rfor_has (op : ByteArray) : ∀ (rs : List GRule) (i j : Nat) (h : j < rs.length), isFor op rs[j] = true → ((i + j : Nat) : Int) ∈ rfor op rs i
 | r :: rs, i, 0, _, hf => by
  simp only [List.getElem_cons_zero] at hf
  simp only [rfor, if_pos hf, Nat.add_zero]; exact List.mem_cons_self ..
 | r :: rs, i, j + 1, h, hf => by
  simp only [List.getElem_cons_succ] at hf
  have := rfor_has op rs (i + 1) j (by simpa using h) hf
  rw [show i + 1 + j = i + (j + 1) by omega] at this
  simp only [rfor]
  split
  ·exact List.mem_cons_of_mem _ this
  ·exact this
theorem kd_kind (t : Tm) : t.kd = t.kind := by cases t; rfl
theorem nm_name (t : Tm) : t.nm = t.name := by cases t; rfl
theorem ruleB_for (sg : GSignature) (r : GRule) (h : ruleB sg r = true) : isFor r.le.name r = true := by
 simp only [ruleB, Bool.and_eq_true] at h
 simp only [isFor, kd_kind, nm_name, Bool.and_eq_true]
 exact ⟨h.1.1.1.1.1.1.2, by simp⟩
theorem ruleB_vars (sg : GSignature) (r : GRule) (h : ruleB sg r = true) : (wout (sortN r.ri.vars) (sortN r.le.vars)).length = 0 := by
 simp only [ruleB, Bool.and_eq_true] at h
 have := wout_sort r.ri.vars r.le.vars
 rw [h.1.2] at this
 simpa using this
theorem defB_rule (d : GDefinition) (h : defB d = true) (j : Nat) (hj : j < d.ru.length) : ruleB d.si d.ru[j] = true := by
 simp only [defB, Bool.and_eq_true] at h
 exact List.all_eq_true.1 h.1.1.1.1.1 _ (List.getElem_mem hj)
end Go.Ai
/- FnDefinitions. -/
namespace Go.Ai
open Go.Proofs
set_option maxRecDepth 100000
theorem lawDefinitions_sat (bs : List Int) (hb : ∀ x, x ∈ bs → 0 ≤ x ∧ x ≤ 255) : Sat Tryz.prog 3 [slV (bs.map encU)] (boolV true) := by
 have hbig := lawsBig_sat bs _ rfl
 refine sat_of_code tbOk mixed Tryz.func3 rfl rfl rfl (by decide +kernel) (by decide +kernel) (Nat.le_of_ble_eq_true rfl) ?_
 simp -implicitDefEqProofs (disch := omega) only [go_sem]
 refine CallK.mk hbig ?_
 by_cases hl : 1048576 < bs.length
 ·rw [decide_eq_true hl]
  simp -implicitDefEqProofs (disch := omega) only [go_sem]
 rw [decide_eq_false hl]
 have hok : okBs8 bs := ⟨by omega, hb⟩
 obtain ⟨d, gd, hd⟩ := DrawIsValidDefinition_ex bs hok
 obtain ⟨sg, r, gs, gr, hr⟩ := DrawIsValidRule_ex bs hok
 obtain ⟨e, op, ge, hop, he⟩ := DrawStrictArgs_ex bs hok
 have h1 := implDef_sat d (by have := gd.2; omega)
 have h2 := specDef_sat d (by have := gd.2; omega)
 have h3 := implEqualDefinition_sat d gd.1 d
 rw [GDefinition.eqb_refl] at h3
 have hrules := defB_rule d
 have hdl : d.ru.length < 1048577 := by have := len_szL GRule.size d.ru; have := gd.2; simp only [GDefinition.size] at this; omega
 have hk : opOk d.si := opOk_of d.si (by have := gd.2; simp only [GDefinition.size] at this; omega)
 have hfor := fun op => (implRulesForF_sat d hdl op).sat
 have hrs : ∀ x, x ∈ d.ru → x.size ≤ 30000 := fun x hx => by have := szL_mem GRule.size d.ru x hx; have := gd.2; simp only [GDefinition.size] at this; omega
 have hforl := fun op => rfor_len op d.ru 0
 have hhas := fun op => rfor_has op d.ru 0
 generalize defB d = ok at h1 h2 hrules
 obtain ⟨⟨dso, dop⟩, dru, dst⟩ := d
 simp only at hrules hdl hk hfor hrs hforl hhas
 simp -implicitDefEqProofs (disch := omega) only [go_sem]
 refine CallK.mk hd ?_
 simp -implicitDefEqProofs (disch := omega) only [go_sem, GDefinition.enc, GSignature.enc, encL, List.cons_append, List.nil_append]
 refine CallK.mk h1 ?_
 simp -implicitDefEqProofs (disch := omega) only [go_sem]
 refine CallK.mk h2 ?_
 simp -implicitDefEqProofs (disch := omega) only [go_sem]
 refine CallK.mk h3 ?_
 simp -implicitDefEqProofs (disch := omega) only [go_sem]
 refine loopA_rule (ι := Nat) (fun i => mk 109 [(0, slV (bs.map encU)), (3, .one (.ptr 3 0)), (4, boolV ok), (5, intV i)] [(3, .var [.c (.sl (dso.map encS)), .c (.sl (dop.map GOp.enc)), .c (.sl (dru.map GRule.enc)), .c (.sl (dst.map GStrict.enc))])]) (fun i => i ≤ dru.length) (fun i => dru.length - i) 0 (Nat.zero_le _) ?_ tbOk mixed (by decide +kernel) ?_
 ·exact le_mk (by simp [go_sem]) (by simp [go_sem])
 ·intro i hi
  have h00 : ¬ (((0 : Nat) : Int) > 0) := by decide
  by_cases hc : i < dru.length ∧ ok = true
  ·obtain ⟨hlt, rfl⟩ := hc
   have hg := map_getD (ec := GRule.enc) hlt
   have hrb := hrules rfl i hlt
   have hrz := hrs _ (List.getElem_mem hlt)
   have hh := hhas dru[i].le.name i hlt (ruleB_for _ _ hrb)
   rw [Nat.zero_add] at hh
   have hcn := lawsHas_sat _ (by have := hforl dru[i].le.name; omega) _ hh
   have hw0 := ruleB_vars _ _ hrb
   generalize dru[i] = r at hg hrb hrz hcn hw0
   have hv := implRule_sat ⟨dso, dop⟩ hk r (by omega)
   rw [rule_same, hrb] at hv
   have hvr := specVarsOf_sat r.ri (by simp only [GRule.size] at hrz; omega)
   have hvl := specVarsOf_sat r.le (by simp only [GRule.size] at hrz; omega)
   have hwo := specWithout_sat (sortN r.ri.vars) (sortN r.le.vars) (Nat.lt_of_le_of_lt (sortN_len _) (by have := vars_len r.ri; simp only [GRule.size] at hrz; omega)) (Nat.lt_of_le_of_lt (sortN_len _) (by have := vars_len r.le; simp only [GRule.size] at hrz; omega))
   rw [List.eq_nil_of_length_eq_zero hw0] at hwo
   have hf1 := hfor r.le.name
   generalize sortN r.ri.vars = v1 at hvr hwo
   generalize sortN r.le.vars = v2 at hvl hwo
   generalize rfor r.le.name dru 0 = q at hf1 hcn
   obtain ⟨na, ⟨lk, ln, lz, la⟩, ⟨rk, rn, rz, ra⟩, gu⟩ := r
   simp only [Tm.name] at *
   simp only [GRule.enc, Tm.enc, encS, encL, List.cons_append, List.nil_append] at hg
   simp -implicitDefEqProofs (disch := omega) only [go_sem, List.length_map, hlt, hg]
   refine CallK.mk hv ?_
   simp -implicitDefEqProofs (disch := omega) only [go_sem]
   refine CallK.mk hvr ?_
   simp -implicitDefEqProofs (disch := omega) only [go_sem]
   refine CallK.mk hvl ?_
   simp -implicitDefEqProofs (disch := omega) only [go_sem]
   refine CallK.mk hwo ?_
   simp -implicitDefEqProofs (disch := omega) only [go_sem, h00]
   refine CallK.mk hf1 ?_
   simp -implicitDefEqProofs (disch := omega) only [go_sem]
   refine CallK.mk hcn ?_
   simp -implicitDefEqProofs (disch := omega) only [go_sem]
   exact ⟨i + 1, hlt, by omega, le_mk (by simp [go_sem]) (by simp [go_sem])⟩
  ·have v1 := implRule_sat sg (opOk_of sg (by have := gs.2; omega)) r (by have := gr.2; omega)
   have v2 := specRule_sat sg (opOk_of sg (by have := gs.2; omega)) r (by have := gr.2; omega)
   rw [rule_same] at v1
   have hel : e.st.length < 1048577 := by have := len_szL GStrict.size e.st; have := ge.2; simp only [GDefinition.size] at this; omega
   have hel2 : e.ru.length < 1048577 := by have := len_szL GRule.size e.ru; have := ge.2; simp only [GDefinition.size] at this; omega
   have a1 := implStrictArgs_sat e hel op
   have a2 := specStrictArgs_sat e hel op
   have a3 := (implRulesForF_sat e hel2 op).sat
   have a4 := specRulesFor_sat e hel2 op
   have q1 := lawsSame_sat (strictOf e.st op) (by have := strictOf_len e.st op e.st.length; rw [List.take_length] at this; omega)
   have q2 := lawsSame_sat (rfor op e.ru 0) (by have := rfor_len op e.ru 0; omega)
   have q3 := lawsClimbs_sat (rfor op e.ru 0) (by have := rfor_len op e.ru 0; omega) (rfor_climbs op e.ru)
   generalize ruleB sg r = bb at v1 v2
   generalize strictOf e.st op = l1 at a1 a2 q1
   generalize rfor op e.ru 0 = l2 at a3 a4 q2 q3
   obtain ⟨so, oo⟩ := sg
   obtain ⟨na, ⟨lk, ln, lz, la⟩, ⟨rk, rn, rz, ra⟩, gu⟩ := r
   obtain ⟨⟨eso, eop⟩, eru, est⟩ := e
   have hxx : (i < dru.length ∧ ok = false) ∨ i = dru.length := by
    rcases Nat.lt_or_ge i dru.length with hlt | hge
    ·left; refine ⟨hlt, ?_⟩
     cases ok with
     | false => rfl
     | true => exact absurd ⟨hlt, rfl⟩ hc
    ·right; omega
   rcases hxx with ⟨hlt, rfl⟩ | rfl
   ·simp -implicitDefEqProofs (disch := omega) only [go_sem, List.length_map, hlt]
    refine CallK.mk hr ?_
    simp -implicitDefEqProofs (disch := omega) only [go_sem, GSignature.enc, GRule.enc, Tm.enc, encS, encL, List.cons_append, List.nil_append]
    refine CallK.mk he ?_
    simp -implicitDefEqProofs (disch := omega) only [go_sem, GDefinition.enc, GSignature.enc, encS, encL, List.cons_append, List.nil_append]
    refine CallK.mk v1 ?_
    simp -implicitDefEqProofs (disch := omega) only [go_sem]
    refine CallK.mk v2 ?_
    simp -implicitDefEqProofs (disch := omega) only [go_sem]
    refine CallK.mk a1 ?_
    simp -implicitDefEqProofs (disch := omega) only [go_sem]
    refine CallK.mk a2 ?_
    simp -implicitDefEqProofs (disch := omega) only [go_sem]
    refine CallK.mk q1 ?_
    simp -implicitDefEqProofs (disch := omega) only [go_sem]
    refine CallK.mk a3 ?_
    simp -implicitDefEqProofs (disch := omega) only [go_sem]
    refine CallK.mk a4 ?_
    simp -implicitDefEqProofs (disch := omega) only [go_sem]
    refine CallK.mk q2 ?_
    simp -implicitDefEqProofs (disch := omega) only [go_sem]
    refine CallK.mk a3 ?_
    simp -implicitDefEqProofs (disch := omega) only [go_sem]
    refine CallK.mk q3 ?_
    simp -implicitDefEqProofs (disch := omega) only [go_sem]
   ·simp -implicitDefEqProofs (disch := omega) only [go_sem, List.length_map, Nat.lt_irrefl]
    refine CallK.mk hr ?_
    simp -implicitDefEqProofs (disch := omega) only [go_sem, GSignature.enc, GRule.enc, Tm.enc, encS, encL, List.cons_append, List.nil_append]
    refine CallK.mk he ?_
    simp -implicitDefEqProofs (disch := omega) only [go_sem, GDefinition.enc, GSignature.enc, encS, encL, List.cons_append, List.nil_append]
    refine CallK.mk v1 ?_
    simp -implicitDefEqProofs (disch := omega) only [go_sem]
    refine CallK.mk v2 ?_
    simp -implicitDefEqProofs (disch := omega) only [go_sem]
    refine CallK.mk a1 ?_
    simp -implicitDefEqProofs (disch := omega) only [go_sem]
    refine CallK.mk a2 ?_
    simp -implicitDefEqProofs (disch := omega) only [go_sem]
    refine CallK.mk q1 ?_
    simp -implicitDefEqProofs (disch := omega) only [go_sem]
    refine CallK.mk a3 ?_
    simp -implicitDefEqProofs (disch := omega) only [go_sem]
    refine CallK.mk a4 ?_
    simp -implicitDefEqProofs (disch := omega) only [go_sem]
    refine CallK.mk q2 ?_
    simp -implicitDefEqProofs (disch := omega) only [go_sem]
    refine CallK.mk a3 ?_
    simp -implicitDefEqProofs (disch := omega) only [go_sem]
    refine CallK.mk q3 ?_
    simp -implicitDefEqProofs (disch := omega) only [go_sem]
end Go.Ai
