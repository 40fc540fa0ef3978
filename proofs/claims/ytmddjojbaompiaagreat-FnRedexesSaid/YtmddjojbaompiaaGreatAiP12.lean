/- FireRule. -/
import Derived.Test.YtmddjojbaompiaaGreatAiP5
set_option linter.unusedVariables false
set_option linter.unusedSimpArgs false
namespace Go.Ai
open Go.Proofs
set_option maxRecDepth 100000
theorem implFireF_sat (d : GDefinition) (hl : d.ru.length < 100000000) (i : Nat) (hi : i < d.ru.length) (hx : ruleOk d.ru[i]) (t : Tm) (ht : tmOk t) : SatF Tryz.prog 115 [aggV d.enc, intV i, tmV t] (.tup [tmV (fireT d.ru[i] t), boolV (fireI d.ru[i] t).isSome]) := by
 have hg := map_getD (ec := GRule.enc) hi
 have hde : d.enc = [.sl (d.si.so.map encS), .sl (d.si.op.map GOp.enc), .sl (d.ru.map GRule.enc), .sl (d.st.map GStrict.enc)] := rfl
 rw [hde]
 clear hde
 obtain ⟨si, ru, st⟩ := d
 simp only at hl hi hx hg ⊢
 generalize ru[i] = x at hg hx
 obtain ⟨hle, hri, hgl, hgu⟩ := hx
 have hm := implMatch_sat x.le (by have := hle.1; omega) t [] (by have := ht.1; omega) ht.2.2 (by simp) (by have := hle.2.1; simp; omega)
 have hmo := mat_ok x.le t ht
 have hml := mat_len x.le t []
 have hc := hle.2.1
 obtain ⟨r1, r2, hr1, hr2⟩ : ∃ r1 r2, r1 = fireT x t ∧ r2 = (fireI x t).isSome := ⟨_, _, rfl, rfl⟩
 rw [← hr1, ← hr2]
 unfold fireT at hr1
 unfold fireI at hr1 hr2
 generalize hq : x.le.mat t [] = q at hm hr1 hr2 hmo hml
 obtain ⟨na, le, ri, gu⟩ := x
 obtain ⟨k2, n2, s2, ts2⟩ := t
 simp only at hm hr1 hr2 hgl hgu hri
 cases q with
 | none =>
  clear hq
  have hr1 : r1 = zeroT := hr1
  have hr2 : r2 = false := hr2
  subst hr1 hr2
  obtain ⟨lk, ln, ls, lt⟩ := le
  obtain ⟨rk, rn, rs, rt⟩ := ri
  simp only [GRule.enc, Tm.enc, encS, encL, List.cons_append, List.nil_append] at hg
  have hm : SatL Tryz.prog 177 [tmV (.mk lk ln ls lt), tmV (.mk k2 n2 s2 ts2)] [] 171 5 [] [boolV false] := hm
  refine satF_of_code [tmV zeroT, boolV false] rfl (fun _ h => by cases h; rfl) tbOk mixed Tryz.func115 rfl rfl rfl (by decide +kernel) (by decide +kernel) (Nat.le_of_ble_eq_true rfl) ?_
  simp -implicitDefEqProofs (disch := omega) only [go_sem, Tm.enc, hg, hi, List.length_map]
  refine CallK.lost 2 rfl hm ⟨by simp [go_sem], rfl, rfl⟩ ?_
  simp -implicitDefEqProofs (disch := omega) only [go_sem, List.getElem?_cons_succ, List.getElem?_cons_zero, zeroT, Tm.enc, Tm.encs, List.map_cons, List.map_nil]
  rfl
 | some bs =>
  clear hq
  have hbs := hmo bs rfl
  have hbl : bs.length < 1000000 := by
   have h1 : bs.length ≤ 0 + le.cnt := hml bs rfl
   have h2 : le.cnt ≤ 60 := hc
   omega
  have hr0 : ((gu.all fun g => holdsG (g.sub bs)) = false → r1 = zeroT ∧ r2 = false) ∧ ((gu.all fun g => holdsG (g.sub bs)) = true → r1 = (ri.sub bs).red ∧ r2 = true) := by
   refine ⟨fun h => ?_, fun h => ?_⟩ <;> (rw [hr1, hr2]; simp only [h]; exact ⟨rfl, rfl⟩)
  clear hr1 hr2
  have hho := allHoldG_sat bs (by omega) hbs gu (by omega) hgu
  have hsu := implSubst_sat bs (by omega) (fun b hb => by have := (hbs b hb).1; omega) ri (by have := hri.1; omega)
  have z1 := gsub_ok bs hbs ri hri
  have hre := implReduce_sat (ri.sub bs) z1.1
  generalize (gu.all fun g => holdsG (g.sub bs)) = ok at hho hr0
  generalize (ri.sub bs).red = y at hre hr0
  generalize ri.sub bs = y1 at hsu hre
  obtain ⟨lk, ln, ls, lt⟩ := le
  obtain ⟨rk, rn, rs, rt⟩ := ri
  obtain ⟨yk, yn, ys, yt⟩ := y1
  obtain ⟨zk, zn, zs, zt⟩ := y
  simp only [GRule.enc, Tm.enc, encS, encL, List.cons_append, List.nil_append] at hg
  have hm : SatA Tryz.prog 177 [tmV (.mk lk ln ls lt), tmV (.mk k2 n2 s2 ts2)] [] 171 5 [] (rowsOf GBind.enc bs) [boolV true] := hm
  refine satF_of_code [tmV r1, boolV r2] rfl (fun _ h => by cases h; rfl) tbOk mixed Tryz.func115 rfl rfl rfl (by decide +kernel) (by decide +kernel) (Nat.le_of_ble_eq_true rfl) ?_
  simp -implicitDefEqProofs (disch := omega) only [go_sem, Tm.enc, hg, hi, List.length_map]
  refine CallK.acc 2 hm ⟨by simp [go_sem], rfl, rfl⟩ rfl ?_
  simp -implicitDefEqProofs (disch := omega) only [go_sem, List.getElem?_cons_succ, List.getElem?_cons_zero, rowsOf_toC]
  refine CallK.bor hho rfl ?_
  simp -implicitDefEqProofs (disch := omega) only [go_sem]
  refine ⟨fun h => ?_, fun h => ?_⟩
  ·obtain ⟨rfl, rfl⟩ := hr0.1 h
   simp [go_sem, zeroT, Tm.enc, Tm.encs]
   rfl
  ·obtain ⟨rfl, rfl⟩ := hr0.2 h
   refine CallK.own hsu rfl ?_
   simp -implicitDefEqProofs (disch := omega) only [go_sem, Tm.enc]
   refine CallK.own hre rfl ?_
   simp -implicitDefEqProofs (disch := omega) only [go_sem, Tm.enc]
end Go.Ai
/- FireRule on both sides (not built yet: r5.Z has the functions). -/
namespace Go.Ai
open Go.Proofs
set_option maxRecDepth 100000
def fireB (d : GDefinition) (i : Int) (t : Tm) : Option Tm :=
 if cfgB d t && decide (0 ≤ i) && decide (i < (d.ru.length : Int)) then (fireI (d.ru.getD i.toNat ⟨sE, zeroT, zeroT, []⟩) t).map fun bs => ((d.ru.getD i.toNat ⟨sE, zeroT, zeroT, []⟩).ri.sub bs).red else none
theorem fireT_map (x : GRule) (t : Tm) : fireT x t = ((fireI x t).map fun bs => (x.ri.sub bs).red).getD zeroT := by
 unfold fireT
 cases fireI x t <;> rfl
theorem ri_same (sg : GSignature) (r : GRule) (t : Tm) (h : ruleB sg r = true) (bs : List GBind) (hm : r.le.mat t [] = some bs) : r.ri.sub (subOf r bs) = r.ri.sub bs := by
 simp only [ruleB, Bool.and_eq_true] at h
 have hv := List.all_eq_true.1 h.1.2
 refine sub_congr _ _ _ (fun v hv' => bnd_restr bs v _ ((sortN_mem _ v).2 ((sortN_mem _ v).2 ((hasS_mem _ v).1 (hv v hv')))))
end Go.Ai
/- FireRule on both sides: the calls. -/
namespace Go.Ai
open Go.Proofs
set_option maxRecDepth 100000
theorem fireI_ok (x : GRule) (hx : ruleOk x) (t : Tm) (ht : tmOk t) (bs : List GBind) (h : fireI x t = some bs) : (x.ri.sub bs).red.size ≤ 40000 ∧ (x.ri.sub bs).red.wf ∧ (x.ri.sub bs).size ≤ 40000 := by
 have hm : x.le.mat t [] = some bs := by
  unfold fireI at h
  cases hq : x.le.mat t [] with
  | none => rw [hq] at h; cases h
  | some b =>
   rw [hq] at h
   simp only at h
   split at h
   ·exact h
   ·cases h
 have hb := mat_ok x.le t ht bs hm
 have h1 := sub_size540 bs (fun b hb' => (hb b hb').1) x.ri
 have h2 := hx.2.1.1
 have h3 := hx.2.1.2.1
 have h4 := red_size (x.ri.sub bs)
 exact ⟨by omega, red_wf _ (sub_wf bs (fun b hb' => (hb b hb').2) x.ri hx.2.1.2.2), by omega⟩
theorem fireB_in (d : GDefinition) (i : Nat) (hi : i < d.ru.length) (t : Tm) (h : cfgB d t = true) : fireB d (i : Int) t = (fireI d.ru[i] t).map fun bs => (d.ru[i].ri.sub bs).red := by
 unfold fireB
 rw [h, if_pos (by simp; omega)]
 simp [List.getD, hi]
theorem fireB_ok (d : GDefinition) (hw : d.wf) (i : Int) (t : Tm) (htw : t.wf) (u : Tm) (h : fireB d i t = some u) : u.size ≤ 40000 ∧ u.wf := by
 by_cases hc : (cfgB d t && decide (0 ≤ i) && decide (i < (d.ru.length : Int))) = true
 ·simp only [Bool.and_eq_true, decide_eq_true_eq] at hc
  obtain ⟨j, rfl⟩ : ∃ j : Nat, i = (j : Int) := ⟨i.toNat, by omega⟩
  have hj : j < d.ru.length := by omega
  rw [fireB_in d j hj t hc.1.1] at h
  have hok := cfg_ok d hw t htw hc.1.1
  cases hq : fireI d.ru[j] t with
  | none => rw [hq] at h; cases h
  | some bs =>
   rw [hq] at h
   cases h
   have := fireI_ok d.ru[j] (hok.1 _ (List.getElem_mem hj)) t hok.2.1 bs hq
   exact ⟨this.1, this.2.1⟩
 ·unfold fireB at h
  rw [if_neg hc] at h
  cases h
theorem fireS_sub (sg : GSignature) (x : GRule) (t : Tm) (h : ruleB sg x = true) (h2 : (fireS x t).2 = true) : (x.ri.sub (fireS x t).1).red = fireT x t := by
 have h3 := fire_same sg x t h
 rw [h2] at h3
 rw [fireT_map]
 unfold fireI at h3 ⊢
 unfold fireS at h2 ⊢
 cases hq : x.le.mat t [] with
 | none => rw [hq] at h2; cases h2
 | some bs =>
  rw [hq] at h2 h3
  simp only at h2 h3 ⊢
  split
  ·simp only [Option.map_some, Option.getD_some]
   exact congrArg Tm.red (ri_same sg x t h bs hq)
  ·rename_i hn
   simp [hn] at h3
theorem implFireRuleF_sat (d : GDefinition) (hw : d.wf) (hs : d.size < 1048577) (i : Int) (t : Tm) (htw : t.wf) (ht : t.size < 30000000) : SatF Tryz.prog 41 [aggV d.enc, intV i, tmV t] (.tup [tmV ((fireB d i t).getD zeroT), boolV (fireB d i t).isSome]) := by
 have hc := implCfg_sat d hs t ht
 have hok := cfg_ok d hw t htw
 have hl : d.ru.length < 100000000 := by
  have := len_szL GRule.size d.ru
  simp only [GDefinition.size] at hs
  omega
 obtain ⟨r1, r2, hr1, hr2⟩ : ∃ r1 r2, r1 = (fireB d i t).getD zeroT ∧ r2 = (fireB d i t).isSome := ⟨_, _, rfl, rfl⟩
 rw [← hr1, ← hr2]
 have h0 : (cfgB d t && decide (0 ≤ i) && decide (i < (d.ru.length : Int))) = false → r1 = zeroT ∧ r2 = false := by
  intro h
  unfold fireB at hr1 hr2
  rw [h] at hr1 hr2
  exact ⟨hr1, hr2⟩
 have h1 : cfgB d t = true → 0 ≤ i → i < (d.ru.length : Int) → SatF Tryz.prog 115 [aggV d.enc, intV i, tmV t] (.tup [tmV r1, boolV r2]) := by
  intro h k1 k2
  obtain ⟨j, rfl⟩ : ∃ j : Nat, i = (j : Int) := ⟨i.toNat, by omega⟩
  have hj : j < d.ru.length := by omega
  have hf := implFireF_sat d hl j hj ((hok h).1 _ (List.getElem_mem hj)) t (hok h).2.1
  rw [fireT_map] at hf
  rw [fireB_in d j hj t h] at hr1 hr2
  have e2 : r2 = (fireI d.ru[j] t).isSome := by rw [hr2]; simp
  rw [hr1, e2]
  exact hf
 clear hr1 hr2 hok
 generalize cfgB d t = b at hc h0 h1
 obtain ⟨k2, n2, s2, ts2⟩ := t
 obtain ⟨rk, rn, rs, rt⟩ := r1
 have hde : d.enc = [.sl (d.si.so.map encS), .sl (d.si.op.map GOp.enc), .sl (d.ru.map GRule.enc), .sl (d.st.map GStrict.enc)] := rfl
 have hz : tmV zeroT = .agg [iC 0, iC 0, sC sE, tC []] := rfl
 refine satF_of_code [tmV (.mk rk rn rs rt), boolV r2] rfl (fun _ h => by cases h; rfl) tbOk mixed Tryz.func41 rfl rfl rfl (by decide +kernel) (by decide +kernel) (Nat.le_of_ble_eq_true rfl) ?_
 simp -implicitDefEqProofs (disch := omega) only [go_sem, Tm.enc, hde]
 refine CallK.mk hc ?_
 simp -implicitDefEqProofs (disch := omega) only [go_sem]
 have z0 : Tm.mk rk rn rs rt = zeroT ∧ r2 = false → rk = 0 ∧ rn = 0 ∧ rs = ByteArray.empty ∧ rt = [] ∧ r2 = false := by
  rintro ⟨e, rfl⟩
  cases e
  exact ⟨rfl, rfl, rfl, rfl, rfl⟩
 refine ⟨fun hb => ⟨fun k1 => ⟨fun k2 => ?_, fun k2 => ?_⟩, fun k1 => ?_⟩, fun hb => ?_⟩
 ·obtain ⟨rfl, rfl, rfl, rfl, rfl⟩ := z0 (h0 (by simp [hb]; omega))
  simp [go_sem, Tm.enc, Tm.encs]
  rfl
 ·refine CallK.own (h1 hb (by omega) (by omega)) rfl ?_
  simp -implicitDefEqProofs (disch := omega) only [go_sem, Tm.enc]
 ·obtain ⟨rfl, rfl, rfl, rfl, rfl⟩ := z0 (h0 (by simp [hb]; omega))
  simp [go_sem, Tm.enc, Tm.encs]
  rfl
 ·obtain ⟨rfl, rfl, rfl, rfl, rfl⟩ := z0 (h0 (by simp [hb]))
  simp [go_sem, Tm.enc, Tm.encs]
  rfl
theorem fireS_ok (x : GRule) (hx : ruleOk x) (t : Tm) (ht : tmOk t) : (∀ b, b ∈ (fireS x t).1 → b.t.size < 540 ∧ b.t.wf) ∧ (fireS x t).1.length < 1000000 := by
 obtain ⟨hle, hri, hgl, hgu⟩ := hx
 have hmo := mat_ok x.le t ht
 unfold fireS
 cases hq : x.le.mat t [] with
 | none => simp
 | some bs =>
  simp only
  refine ⟨fun b hb => ?_, ?_⟩
  ·obtain ⟨b', hb1, hb2⟩ := restr_mem bs _ b hb
   rw [← hb2]; exact hmo bs hq b' hb1
  ·have h1 := restr_len bs (sortN (sortN x.le.vars))
   have h2 := sortN_len (sortN x.le.vars)
   have h3 := sortN_len x.le.vars
   have h4 := vars_len x.le
   have h5 := hle.1
   unfold subOf
   omega
theorem specFireRule_sat (d : GDefinition) (hw : d.wf) (hs : d.size < 1048577) (i : Int) (t : Tm) (htw : t.wf) (ht : t.size < 30000000) : Sat Tryz.prog 44 [aggV d.enc, intV i, tmV t] (.tup [tmV ((fireB d i t).getD zeroT), boolV (fireB d i t).isSome]) := by
 have hc := specCfg_sat d hs t ht
 have hok := cfg_ok d hw t htw
 have hl : d.ru.length < 100000000 := by
  have := len_szL GRule.size d.ru
  simp only [GDefinition.size] at hs
  omega
 obtain ⟨r, hr⟩ : ∃ r, r = (AV.tup [tmV ((fireB d i t).getD zeroT), boolV (fireB d i t).isSome]) := ⟨_, rfl⟩
 rw [← hr]
 have hin := l1In_sat i 0 ((d.ru.length : Int) - 1)
 by_cases hg : (cfgB d t && decide (0 ≤ i) && decide (i < (d.ru.length : Int))) = true
 ·simp only [Bool.and_eq_true, decide_eq_true_eq] at hg
  obtain ⟨j, rfl⟩ : ∃ j : Nat, i = (j : Int) := ⟨i.toNat, by omega⟩
  have hj : j < d.ru.length := by omega
  rw [fireB_in d j hj t hg.1.1] at hr
  have hx := (hok hg.1.1).1 _ (List.getElem_mem hj)
  have hto := (hok hg.1.1).2.1
  have hfi := specFires_sat d.ru[j] hx t hto
  have hrb := (hok hg.1.1).2.2 _ (List.getElem_mem hj)
  have hsm := fire_same d.si d.ru[j] t hrb
  have hsb := fireS_sub d.si d.ru[j] t hrb
  rw [show (decide ((0 : Int) ≤ (j : Int)) && decide ((j : Int) ≤ (d.ru.length : Int) - 1)) = true by simp; omega] at hin
  rw [hg.1.1] at hc
  have hgr := map_getD (ec := GRule.enc) hj
  replace hr : r = .tup [tmV (fireT d.ru[j] t), boolV (fireI d.ru[j] t).isSome] := by rw [hr, fireT_map]; simp
  have hz : (fireI d.ru[j] t).isSome = false → fireT d.ru[j] t = zeroT := by
   intro h
   rw [fireT_map]
   cases hq : fireI d.ru[j] t with
   | none => rfl
   | some b => rw [hq] at h; cases h
  rw [← hsm] at hr hz
  have hso := fireS_ok d.ru[j] hx t hto
  clear hsm hrb hok
  generalize d.ru[j] = x at hr hz hso hsb hx hfi hgr
  generalize fireT x t = y at hr hz hsb
  generalize fireS x t = sb at hr hz hso hsb hfi
  obtain ⟨sb, ok⟩ := sb
  simp only at hr hz hso hsb hfi
  have z1 := gsub_ok sb hso.1 x.ri hx.2.1
  have hsu := specSubst_sat sb (by omega) (fun b hb => by have := (hso.1 b hb).1; omega) x.ri (by have := hx.2.1.1; omega)
  have hre := specReduce_sat (x.ri.sub sb) z1.1
  generalize (x.ri.sub sb).red = y2 at hre hsb
  generalize x.ri.sub sb = y1 at hsu hre
  obtain ⟨na, ⟨lk, ln, ls, lt⟩, ⟨rk, rn, rs, rt⟩, gu⟩ := x
  obtain ⟨k2, n2, s2, ts2⟩ := t
  obtain ⟨yk, yn, ys, yt⟩ := y1
  obtain ⟨zk, zn, zs, zt⟩ := y2
  have hde : d.enc = [.sl (d.si.so.map encS), .sl (d.si.op.map GOp.enc), .sl (d.ru.map GRule.enc), .sl (d.st.map GStrict.enc)] := rfl
  simp only [GRule.enc, Tm.enc, encS, encL, List.cons_append, List.nil_append] at hgr
  refine sat_of_code tbOk mixed Tryz.func44 rfl rfl rfl (by decide +kernel) (by decide +kernel) (Nat.le_of_ble_eq_true rfl) ?_
  simp -implicitDefEqProofs (disch := omega) only [go_sem, Tm.enc, hde]
  refine CallK.mk hc ?_
  simp -implicitDefEqProofs (disch := omega) only [go_sem, List.length_map]
  refine CallK.mk hin ?_
  simp -implicitDefEqProofs (disch := omega) only [go_sem, List.length_map, hgr, hj]
  refine CallK.mk hfi ?_
  simp -implicitDefEqProofs (disch := omega) only [go_sem, List.length_map, hgr, hj]
  refine ⟨fun h => by rw [hr, hz h, h]; rfl, fun h => CallK.mk hsu ?_⟩
  simp -implicitDefEqProofs (disch := omega) only [go_sem, Tm.enc]
  refine CallK.mk hre ?_
  simp -implicitDefEqProofs (disch := omega) only [go_sem, Tm.enc]
  rw [hr, h, ← hsb h]; rfl
 ·replace hr : r = .tup [tmV zeroT, boolV false] := by
   rw [hr]
   unfold fireB
   rw [if_neg hg]
   rfl
  rw [show (decide ((0 : Int) ≤ i) && decide (i ≤ (d.ru.length : Int) - 1)) = (decide (0 ≤ i) && decide (i < (d.ru.length : Int))) by congr 1; exact decide_eq_decide.2 (by omega)] at hin
  rw [Bool.and_assoc] at hg
  generalize (decide (0 ≤ i) && decide (i < (d.ru.length : Int))) = b2 at hin hg
  clear hok
  generalize cfgB d t = b at hc hg
  obtain ⟨k2, n2, s2, ts2⟩ := t
  have hde : d.enc = [.sl (d.si.so.map encS), .sl (d.si.op.map GOp.enc), .sl (d.ru.map GRule.enc), .sl (d.st.map GStrict.enc)] := rfl
  refine sat_of_code tbOk mixed Tryz.func44 rfl rfl rfl (by decide +kernel) (by decide +kernel) (Nat.le_of_ble_eq_true rfl) ?_
  simp -implicitDefEqProofs (disch := omega) only [go_sem, Tm.enc, hde]
  refine CallK.mk hc ?_
  simp -implicitDefEqProofs (disch := omega) only [go_sem, List.length_map]
  refine ⟨fun h => CallK.mk hin ?_, fun h => by rw [hr]; rfl⟩
  have h2 : b2 = false := by simpa [h] using hg
  subst h2
  simp -implicitDefEqProofs (disch := omega) only [go_sem]
  rw [hr]; rfl
end Go.Ai
