/- Instances of symbolic terms, and that they are the same. -/
import Derived.Test.YtmddjojbaompiaaGreatAiU11
import Derived.Test.YtmddjojbaompiaaGreatAiI5
import Derived.Test.YtmddjojbaompiaaGreatAiDw13
import Derived.Test.YtmddjojbaompiaaGreatAiH2
set_option linter.unusedVariables false
set_option linter.unusedSimpArgs false
namespace Go.Ai
open Go.Proofs
set_option maxRecDepth 100000
def instOf (va : List ByteArray) (t : Tm) (c : Int) : Tm × Bool := if 0 ≤ c ∧ c < ccN va.length then ((t.sub (caseSubst va c)).red, true) else (zeroT, false)
theorem instOf_size (va : List ByteArray) (t : Tm) (c : Int) : (instOf va t c).1.size ≤ t.size := by
 unfold instOf
 split
 ·have h1 := red_size (t.sub (caseSubst va c))
  have h2 := sub_size (caseSubst va c) (caseSubst_zero va c) t
  simp only; omega
 ·exact Nat.zero_le _
theorem instOf_wf (va : List ByteArray) (t : Tm) (c : Int) (h : t.wf) : (instOf va t c).1.wf := by
 unfold instOf
 split
 ·exact red_wf _ (sub_wf _ (caseSubst_twf va c) t h)
 ·exact zeroT_wf
theorem specOf_sat (va : List ByteArray) (t : Tm) (c : Int) (hl : va.length < 1048577) (ht : t.size < 1048577) : Sat Tryz.prog 108 [slV (va.map encS), tmV t, intV c] (tmV (t.sub (caseSubst va c)).red) := by
 have hc := caseSubst_len va c
 have h2 := sub_size (caseSubst va c) (caseSubst_zero va c) t
 have hs := specSubst_sat (caseSubst va c) (by omega) (fun b hb => by rw [caseSubst_zero va c b hb]; omega) t (by omega)
 have hr := specReduce_sat (t.sub (caseSubst va c)) (by omega)
 obtain ⟨k, n, s, ts⟩ := t
 refine sat_of_code tbOk mixed Tryz.func108 rfl rfl rfl (by decide +kernel) (by decide +kernel) (Nat.le_of_ble_eq_true rfl) ?_
 simp -implicitDefEqProofs (disch := omega) only [go_sem, Tm.enc]
 refine CallK.mk (specCaseSubst_sat va c (by omega)) ?_
 simp -implicitDefEqProofs (disch := omega) only [go_sem, Tm.enc]
 refine CallK.mk hs ?_
 simp -implicitDefEqProofs (disch := omega) only [go_sem, Tm.enc]
 refine CallK.mk hr ?_
 simp -implicitDefEqProofs (disch := omega) only [go_sem, Tm.enc]
theorem specInstanceOf_sat (x : GSymbolic) (hl : x.va.length < 1048577) (ht : x.t.size < 1048577) (c : Int) : Sat Tryz.prog 32 [aggV x.enc, intV c] (.tup [tmV (instOf x.va x.t c).1, boolV (instOf x.va x.t c).2]) := by
 have hof := specOf_sat x.va x.t c hl ht
 obtain ⟨xva, ⟨xtk, xtn, xts, xtt⟩, xca⟩ := x
 simp only at hl ht hof
 obtain ⟨r, hr⟩ : ∃ r, r = instOf xva (.mk xtk xtn xts xtt) c := ⟨_, rfl⟩
 simp only [← hr]
 unfold instOf at hr
 have hcc : ccN xva.length ≤ 64 ∧ 0 ≤ ccN xva.length := by
  unfold ccN
  split
  ·have := p4_b xva.length (by omega); omega
  ·omega
 refine sat_of_code tbOk mixed Tryz.func32 rfl rfl rfl (by decide +kernel) (by decide +kernel) (Nat.le_of_ble_eq_true rfl) ?_
 simp -implicitDefEqProofs (disch := omega) only [go_sem, GSymbolic.enc, encL, Tm.enc, List.cons_append, List.nil_append, List.append_nil, List.length_map]
 refine CallK.mk (specCount_sat xva.length (by omega)) ?_
 simp -implicitDefEqProofs (disch := omega) only [go_sem, List.length_map]
 refine CallK.mk (l1In_sat c 0 (ccN xva.length - 1)) ?_
 simp -implicitDefEqProofs (disch := omega) only [go_sem, List.length_map]
 refine ⟨fun h => ?_, fun h => ?_⟩
 ·rw [if_neg (by grind)] at hr
  subst hr; rfl
 ·rw [if_pos (by grind)] at hr
  subst hr
  refine CallK.mk hof ?_
  simp -implicitDefEqProofs (disch := omega) only [go_sem, List.length_map]
theorem implInstanceOfF_sat (x : GSymbolic) (hl : x.va.length < 1048577) (ht : x.t.size < 1048577) (c : Int) : SatF Tryz.prog 29 [aggV x.enc, intV c] (.tup [tmV (instOf x.va x.t c).1, boolV (instOf x.va x.t c).2]) := by
 have hc := caseSubst_len x.va c
 have h2 := sub_size (caseSubst x.va c) (caseSubst_zero x.va c) x.t
 have hs := implSubst_sat (caseSubst x.va c) (by omega) (fun b hb => by rw [caseSubst_zero x.va c b hb]; omega) x.t (by omega)
 have hre := implReduce_sat (x.t.sub (caseSubst x.va c)) (by omega)
 have hcs := implCaseSubstF_sat x.va c (by omega)
 obtain ⟨xva, ⟨xtk, xtn, xts, xtt⟩, xca⟩ := x
 simp only at hl ht hs hre hcs
 obtain ⟨r, hr⟩ : ∃ r, r = instOf xva (.mk xtk xtn xts xtt) c := ⟨_, rfl⟩
 simp only [← hr]
 unfold instOf at hr
 refine satF_of_code [tmV r.1, boolV r.2] rfl (fun _ h => by cases h; rfl) tbOk mixed Tryz.func29 rfl rfl rfl (by decide +kernel) (by decide +kernel) (Nat.le_of_ble_eq_true rfl) ?_
 simp -implicitDefEqProofs (disch := omega) only [go_sem, GSymbolic.enc, encL, Tm.enc, List.cons_append, List.nil_append, List.append_nil, List.length_map]
 refine CallK.mk (isCase_sat xva.length (by omega) c) ?_
 simp -implicitDefEqProofs (disch := omega) only [go_sem, List.length_map]
 refine ⟨fun h => ?_, fun h => ?_⟩
 ·rw [if_neg (by grind)] at hr
  subst hr
  simp -implicitDefEqProofs (disch := omega) only [go_sem, zeroT, Tm.enc, Tm.encs, List.map_cons, List.map_nil]
  rfl
 ·rw [if_pos (by grind)] at hr
  subst hr
  refine CallK.mk hcs.sat ?_
  simp -implicitDefEqProofs (disch := omega) only [go_sem, List.length_map]
  refine CallK.mk hs.sat ?_
  simp -implicitDefEqProofs (disch := omega) only [go_sem, List.length_map]
  generalize (Tm.sub (caseSubst xva c) (Tm.mk xtk xtn xts xtt)).red = R at hre ⊢
  obtain ⟨rk, rn, rs, rt⟩ := R
  refine CallK.own hre rfl ?_
  simp -implicitDefEqProofs (disch := omega) only [go_sem, Tm.enc, List.length_map]
theorem slicesEqualInt_sat (xs : List Int) (hw : wfL wfI xs) (ys : List Int) : Sat Tryz.prog 102 [slV (xs.map encI), slV (ys.map encI)] (boolV (eqL eqI xs ys)) := by
 have hl := hw.1
 simp only [maxLen] at hl
 refine sat_of_code tbOk mixed Tryz.func102 rfl rfl rfl (by decide +kernel) (by decide +kernel) (Nat.le_of_ble_eq_true rfl) ?_
 simp -implicitDefEqProofs (disch := omega) only [go_sem]
 refine ⟨fun h4 => ?_, fun h4 => ?_⟩
 ·rw [eqL_len eqI xs ys (by omega)]
 ·have hll : xs.length = ys.length := by simp at h4; omega
  refine loopA_rule (ι := Nat) (fun i => mk 26 [(0, slV (xs.map encI)), (1, slV (ys.map encI)), (11, slV (xs.map encI)), (12, intV xs.length), (13, intV i)] [])
   (fun i => i ≤ xs.length ∧ eqL eqI (xs.drop i) (ys.drop i) = eqL eqI xs ys) (fun i => xs.length - i) 0 ⟨Nat.zero_le _, by simp⟩ ?_ tbOk mixed (by decide +kernel) ?_
  ·exact le_mk (by simp [go_sem]) (by simp [go_sem])
  ·rintro i ⟨hi, he⟩
   rcases Nat.lt_or_ge i xs.length with hlt | hge
   ·have hlt' : i < ys.length := by omega
    have hg := map_getD (ec := encI) hlt
    have hg' := map_getD (ec := encI) hlt'
    rw [eqL_drop eqI xs ys i hlt hlt'] at he
    have hx := hw.2 _ (List.getElem_mem hlt)
    generalize xs[i] = x at hg he hx
    generalize ys[i] = y at hg' he
    simp only [encI] at hg hg'
    simp only [eqI] at he
    simp -implicitDefEqProofs (disch := omega) only [go_sem, hg, hg', hlt, hlt']
    refine ⟨fun h => ?_, fun h => ⟨i + 1, ⟨hlt, ?_⟩, by omega, le_mk (by simp [go_sem]) (by simp [go_sem])⟩⟩
    ·grind
    ·grind
   ·have e1 : xs.drop i = [] := List.drop_of_length_le hge
    have e2 : ys.drop i = [] := List.drop_of_length_le (by omega)
    rw [e1, e2] at he
    simp -implicitDefEqProofs (disch := omega) only [go_sem, Nat.not_lt.2 hge]
    rw [← he]; rfl
theorem implEqualSymbolic_sat (x : GSymbolic) (hw : x.wf) (y : GSymbolic) : Sat Tryz.prog 28 [aggV x.enc, aggV y.enc] (boolV (x.eqb y)) := by
 obtain ⟨r, hr⟩ : ∃ r, r = x.eqb y := ⟨_, rfl⟩
 rw [← hr]
 obtain ⟨xva, ⟨xtk, xtn, xts, xtt⟩, xca⟩ := x
 obtain ⟨yva, ⟨ytk, ytn, yts, ytt⟩, yca⟩ := y
 simp only [GSymbolic.wf] at hw
 simp only [GSymbolic.eqb, eqI, eqS, eqB] at hr
 refine sat_of_code tbOk mixed Tryz.func28 rfl rfl rfl (by decide +kernel) (by decide +kernel) (Nat.le_of_ble_eq_true rfl) ?_
 simp -implicitDefEqProofs (disch := omega) only [go_sem, GSymbolic.enc, Tm.enc, encB, encI, encL, encS, List.cons_append, List.nil_append, List.append_nil]
 refine CallK.mk (slicesEqualString_sat xva hw.1 yva) ?_
 simp -implicitDefEqProofs (disch := omega) only [go_sem, GSymbolic.enc, Tm.enc, encB, encI, encL, encS, List.cons_append, List.nil_append, List.append_nil]
 refine ⟨fun h0 => ?_, fun h0 => by grind⟩
 refine CallK.mk (implEqualTerm_sat (.mk xtk xtn xts xtt) hw.2.1 (.mk ytk ytn yts ytt)) ?_
 simp -implicitDefEqProofs (disch := omega) only [go_sem, GSymbolic.enc, Tm.enc, encB, encI, encL, encS, List.cons_append, List.nil_append, List.append_nil]
 refine ⟨fun h1 => ?_, fun h1 => by grind⟩
 refine CallK.mk (slicesEqualInt_sat xca hw.2.2 yca) ?_
 simp -implicitDefEqProofs (disch := omega) only [go_sem, GSymbolic.enc, Tm.enc, encB, encI, encL, encS, List.cons_append, List.nil_append, List.append_nil]
 grind
end Go.Ai
/- Draws: symbolic terms (the parts). -/
namespace Go.Ai
open Go.Proofs
set_option maxRecDepth 100000
theorem cI_clR (xs : List Int) : clR (cI xs) := by
 intro r hr a ha
 obtain ⟨x, _, rfl⟩ := List.mem_map.1 hr
 rw [List.mem_singleton.1 ha]; rfl
theorem specAllCasesO_sat (vars : List ByteArray) (hv : vars.length < 100000000) (gs : List GGuard) (hl : gs.length < 100000000) (hs : ∀ g, g ∈ gs → g.size < 9000000 ∧ g.wf) : SatO Tryz.prog 199 [slV (vars.map encS), slV (gs.map GGuard.enc)] 3 1 (cI (allCases vars gs)) (.one (.own 0 (allCases vars gs).length)) := by
 obtain ⟨r, hr⟩ : ∃ r, r = allCases vars gs := ⟨_, rfl⟩
 rw [← hr]
 have hcb := ccN_b vars.length
 have hcc := specCount_sat vars.length hv
 obtain ⟨N, hN⟩ : ∃ N : Nat, ccN vars.length = (N : Int) := ⟨(ccN vars.length).toNat, by omega⟩
 rw [hN] at hcc hcb
 have hr : r = casesTo vars gs N := by rw [hr, allCases, hN]; rfl
 refine satO_of_code [.one (.own 0 r.length)] rfl (by simp) tbOk mixed Tryz.func199 rfl rfl rfl (by decide +kernel) (by decide +kernel) (Nat.le_of_ble_eq_true rfl) (by decide) (cI_clR r) (cI_noD r) rfl ?_
 simp -implicitDefEqProofs (disch := omega) only [go_sem, List.length_map]
 refine CallK.mk hcc ?_
 simp -implicitDefEqProofs (disch := omega) only [go_sem, List.length_map]
 refine loopA_rule (ι := Nat) (fun i => mk 43 [(0, slV (vars.map encS)), (1, slV (gs.map GGuard.enc)), (5, .one (.own 10 (casesTo vars gs i).length)), (6, intV N), (7, intV i)] [(10, .arr 3 1 (cI (casesTo vars gs i)) false)])
  (fun i => i ≤ N) (fun i => N - i) 0 (Nat.zero_le _) ?_ tbOk mixed (by decide +kernel) ?_
 ·exact le_mk (by simp [go_sem, casesTo]) (by simp [go_sem, casesTo, cI])
 ·intro i hi
  have hcl := casesTo_len vars gs i
  have hstep := casesTo_succ vars gs i
  have hcs := specCaseSubst_sat vars (i : Int) (by omega)
  have hbl := caseSubst_len vars (i : Int)
  have hok : okCase vars gs i = (gs.all fun g => holdsG (g.sub (caseSubst vars (i : Int)))) := rfl
  have hend : ¬ i < N → r = casesTo vars gs i := fun h => by rw [hr]; congr 1; omega
  generalize casesTo vars gs i = xs at hcl hstep hend ⊢
  generalize okCase vars gs i = b at hstep hok
  simp -implicitDefEqProofs (disch := omega) only [go_sem, List.length_map, cI_len]
  refine ⟨fun hlt => ?_, fun hge => by rw [hend hge]; exact ⟨rfl, rfl⟩⟩
  refine loopA_rule (ι := Nat) (fun k => mk 43 [(0, slV (vars.map encS)), (1, slV (gs.map GGuard.enc)), (5, .one (.own 10 xs.length)), (6, intV N), (7, intV i), (8, boolV ((gs.take k).all fun g => holdsG (g.sub (caseSubst vars (i : Int))))), (9, intV k)] [(10, .arr 3 1 (cI xs) false)])
   (fun k => k ≤ gs.length) (fun k => gs.length - k) 0 (Nat.zero_le _) ?_ tbOk mixed (by decide +kernel) ?_
  ·exact le_mk (by simp [go_sem]) ⟨by simp only [lookB_cons, if_true], cI_in _ _, trivial⟩
  ·intro k hk
   rcases Nat.lt_or_ge k gs.length with hkl | hkg
   ·have hg := map_getD (ec := GGuard.enc) hkl
    have hall : ((gs.take (k + 1)).all fun g => holdsG (g.sub (caseSubst vars (i : Int)))) = (((gs.take k).all fun g => holdsG (g.sub (caseSubst vars (i : Int)))) && holdsG (gs[k].sub (caseSubst vars (i : Int)))) := by
     rw [List.take_add_one, List.getElem?_eq_getElem hkl, List.all_append]
     simp
    generalize ((gs.take k).all fun g => holdsG (g.sub (caseSubst vars (i : Int)))) = bk at hall ⊢
    obtain ⟨hsz, hwf⟩ := hs _ (List.getElem_mem hkl)
    generalize gs[k] = g at hg hall hsz hwf
    have hap := specToGuard_sat (caseSubst vars (i : Int)) (by omega) (fun b hb' => by rw [caseSubst_zero vars i b hb']; omega) g (by simp only [GGuard.size] at hsz; omega) (by simp only [GGuard.size] at hsz; omega)
    have z1 := sub_size (caseSubst vars (i : Int)) (caseSubst_zero vars i) g.le
    have z2 := sub_size (caseSubst vars (i : Int)) (caseSubst_zero vars i) g.ri
    have hho := specHolds_sat (g.sub (caseSubst vars (i : Int))) (by simp only [GGuard.sub]; simp only [GGuard.size] at hsz; omega) (by simp only [GGuard.sub]; simp only [GGuard.size] at hsz; omega) (sub_wf _ (caseSubst_twf vars i) g.le hwf.2.1) (sub_wf _ (caseSubst_twf vars i) g.ri hwf.2.2)
    generalize holdsG (g.sub (caseSubst vars (i : Int))) = hd at hall hho
    generalize g.sub (caseSubst vars (i : Int)) = g' at hap hho
    obtain ⟨kd, ⟨lk, ln, ls, lt⟩, ⟨rk, rn, rs, rt⟩⟩ := g
    obtain ⟨kd', ⟨lk', ln', ls', lt'⟩, ⟨rk', rn', rs', rt'⟩⟩ := g'
    simp only [GGuard.enc, Tm.enc, encI, List.cons_append, List.nil_append] at hg
    simp -implicitDefEqProofs (disch := omega) only [go_sem, hg, hkl, List.length_map, cI_len]
    refine ⟨fun hbk => CallK.mk hcs ?_, fun hbk => ⟨k + 1, hkl, by omega, ?_⟩⟩
    ·simp -implicitDefEqProofs (disch := omega) only [go_sem, hg, hkl, List.length_map, cI_len]
     refine CallK.mk hap ?_
     simp -implicitDefEqProofs (disch := omega) only [go_sem, GGuard.enc, Tm.enc, encI, List.cons_append, List.nil_append]
     refine CallK.mk hho ?_
     simp -implicitDefEqProofs (disch := omega) only [go_sem, List.length_map, cI_len]
     refine ⟨k + 1, hkl, by omega, ?_⟩
     rw [hall, hbk, Bool.true_and]
     exact le_mk (by simp [go_sem]) ⟨by simp only [lookB_cons, if_true], cI_in _ _, trivial⟩
    ·rw [hall, hbk, Bool.false_and]
     exact le_mk (by simp [go_sem]) ⟨by simp only [lookB_cons, if_true], cI_in _ _, trivial⟩
   ·have : k = gs.length := by omega
    subst this
    rw [List.take_length, ← hok]
    simp -implicitDefEqProofs (disch := omega) only [go_sem, Nat.lt_irrefl, List.length_map, cI_len]
    refine ⟨fun hb => ⟨⟨by simp, by omega, by omega⟩, fun _ => ⟨i + 1, hlt, by omega, ?_⟩⟩, fun hb => ⟨i + 1, hlt, by omega, ?_⟩⟩
    ·rw [hb, if_pos rfl] at hstep
     rw [hstep, cI_snoc]
     exact le_mk (by simp [go_sem]) ⟨by simp only [lookB_cons, if_true], cI_in _ _, trivial⟩
    ·rw [hb, if_neg (by simp), List.append_nil] at hstep
     rw [hstep]
     exact le_mk (by simp [go_sem]) ⟨by simp only [lookB_cons, if_true], cI_in _ _, trivial⟩
def clo : List GBind := [⟨⟨#[88]⟩, .mk 2 0 ⟨#[97]⟩ []⟩, ⟨⟨#[89]⟩, .mk 2 0 ⟨#[98]⟩ []⟩]
mutual
theorem sub_sizeM (m : Nat) (bs : List GBind) (hb : ∀ b, b ∈ bs → b.t.size ≤ m) : ∀ (t : Tm), (t.sub bs).size ≤ t.size + m * t.cnt
 | .mk k n s ts => by
  have ih := subs_sizeM m bs hb ts
  simp only [Tm.sub, Tm.cnt]
  have hq : (Tm.mk k n s (Tm.subs bs ts)).size ≤ (Tm.mk k n s ts).size + m * (1 + Tm.cnts ts) := by simp only [Tm.size, Nat.mul_add]; omega
  split
  ·cases h : bnd bs s with
   | none => exact hq
   | some t =>
    obtain ⟨b, hb1, rfl⟩ := bnd_mem bs s t h
    have := hb b hb1
    simp only [Option.getD_some, Nat.mul_add]; omega
  ·exact hq
theorem subs_sizeM (m : Nat) (bs : List GBind) (hb : ∀ b, b ∈ bs → b.t.size ≤ m) : ∀ (ts : List Tm), Tm.sizes (Tm.subs bs ts) ≤ Tm.sizes ts + m * Tm.cnts ts
 | [] => by simp [Tm.subs, Tm.sizes]
 | a :: ts => by
  have h1 := sub_sizeM m bs hb a
  have h2 := subs_sizeM m bs hb ts
  simp only [Tm.subs, Tm.sizes, Tm.cnts, Nat.mul_add]; omega
end
theorem clo_ok : ∀ b, b ∈ clo → b.t.size ≤ 1 ∧ b.t.wf := by
 intro b hb
 simp only [clo, List.mem_cons, List.not_mem_nil, or_false] at hb
 rcases hb with rfl | rfl
 ·exact ⟨by decide, (g_app _ (by decide)).1⟩
 ·exact ⟨by decide, (g_app _ (by decide)).1⟩
theorem clo_g {t : Tm} (h : gT 950 t) : gT 2000 (t.sub clo) := by
 refine ⟨sub_wf clo (fun b hb => (clo_ok b hb).2) t h.1, ?_⟩
 have h1 := sub_sizeM 1 clo (fun b hb => (clo_ok b hb).1) t
 have h2 := cnt_size t
 have := h.2
 omega
theorem l18Closed_sat (t : Tm) (ht : gT 950 t) : Sat Tryz.prog 198 [tmV t] (tmV (t.sub clo)) := by
 have hs := specSubst_sat clo (by decide) (fun b hb => by have := (clo_ok b hb).1; omega) t (by have := ht.2; omega)
 obtain ⟨k, n, s, ts⟩ := t
 refine sat_of_code tbOk mixed Tryz.func198 rfl rfl rfl (by decide +kernel) (by decide +kernel) (Nat.le_of_ble_eq_true rfl) ?_
 simp -implicitDefEqProofs (disch := omega) only [go_sem, Tm.enc]
 refine CallK.mk (l3App_sat ⟨#[97]⟩ []) ?_
 simp -implicitDefEqProofs (disch := omega) only [go_sem, Tm.enc]
 refine CallK.mk (l3App_sat ⟨#[98]⟩ []) ?_
 simp -implicitDefEqProofs (disch := omega) only [go_sem, Tm.enc]
 refine CallK.mk hs ?_
 simp -implicitDefEqProofs (disch := omega) only [go_sem]
 first | done | rfl
end Go.Ai
/- Draws: symbolic terms. Written by mkdw14.py. -/
namespace Go.Ai
open Go.Proofs
set_option maxRecDepth 100000
attribute [go_sem] GSymbolic.enc
abbrev vRow : LB := .arr 9 1 [[sC ⟨#[78]⟩], [sC ⟨#[77]⟩]] false
abbrev cRow (cs : List Int) : LB := .arr 3 1 (rowsOf encI cs) false
theorem cI_rows (xs : List Int) : cI xs = rowsOf encI xs := by simp [cI, rowsOf, encI]
def gC (n : Nat) (cs : List Int) : Prop := cs.length ≤ n ∧ ∀ x, x ∈ cs → -100 ≤ x ∧ x ≤ 100
theorem gC_all (vars : List ByteArray) (gs : List GGuard) : gC 64 (allCases vars gs) := by
 have h := ccN_b vars.length
 have e : allCases vars gs = casesTo vars gs (ccN vars.length).toNat := rfl
 rw [e]
 refine ⟨Nat.le_trans (casesTo_len _ _ _) (by omega), fun x hx => ?_⟩
 have := casesTo_mem vars gs _ x hx
 omega
def gY (B : Nat) (s : GSymbolic) : Prop := s.wf ∧ s.size ≤ B
theorem g_sym {va : List ByteArray} {t : Tm} {ca : List Int} (h1 : va.length ≤ 3) (h2 : ∀ s, s ∈ va → s.size ≤ 8) (h3 : gT 2000 t) (h4 : gC 65 ca) : gY 3000 ⟨va, t, ca⟩ := by
 refine ⟨⟨wfL_small (Nat.le_trans h1 (by decide)) fun s hs => wfS_small (h2 s hs), h3.1, wfL_small (Nat.le_trans h4.1 (by decide)) fun x hx => lit_small x (h4.2 x hx).1 (h4.2 x hx).2⟩, ?_⟩
 have k1 := szLm (sz := szS) (m := 8) h2
 have k2 := szLm (sz := szI) (m := 0) (xs := ca) fun x _ => Nat.le_refl _
 have : va.length * 9 ≤ 3 * 9 := Nat.mul_le_mul_right _ h1
 have := h3.2
 have := h4.1
 simp only [GSymbolic.size] at *
 omega
theorem gC_mono {m n : Nat} {cs : List Int} (h : gC m cs) (k : m ≤ n) : gC n cs := ⟨Nat.le_trans h.1 k, h.2⟩
theorem gC_snoc {n : Nat} {cs : List Int} {x : Int} (h : gC n cs) (h1 : -100 ≤ x) (h2 : x ≤ 100) : gC (n + 1) (cs ++ [x]) := ⟨len_snoc h.1, all_snoc h.2 ⟨h1, h2⟩⟩
theorem i_snoc (cs : List Int) (v : Int) : rowsOf encI cs ++ [[iC v]] = rowsOf encI (cs ++ [v]) := rowsOf_snoc (ec := encI) v
def nm2 : List ByteArray := [⟨#[78]⟩, ⟨#[77]⟩]
theorem nm2_ok : ∀ s, s ∈ nm2 → s.size ≤ 8 := by decide
theorem plainI (cs : List Int) : plainRows (rowsOf encI cs) = true := by
 simp [plainRows, rowsOf, encI, plainA, plainC]
theorem l18Draw_p (bs : List Int) (hb : okBs8 bs) (c : Cur) (hc : c.i ≤ bs.length) : exW (fun p : Cur × (Int × Int × ByteArray × List Tm) × List Int => p.1.i ≤ bs.length ∧ gT 2000 (.mk p.2.1.1 p.2.1.2.1 p.2.1.2.2.1 p.2.1.2.2.2) ∧ gC 64 p.2.2) fun p => SatX Tryz.prog 163 [.one (.ptr 0 0)] [curB bs c] [curB bs p.1, vRow, cRow p.2.2] (.agg [.own 1 2, iC p.2.1.1, iC p.2.1.2.1, sC p.2.1.2.2.1, .c (.sl (Tm.encs p.2.1.2.2.2)), .own 2 p.2.2.length]) := by
 obtain ⟨c1, x1, i1, x1a, x1b, s1⟩ := below_ex bs hb c hc 3 (by omega)
 obtain ⟨m, rfl⟩ : ∃ m : Nat, x1 = (m : Int) := ⟨x1.toNat, by omega⟩
 have hd : (2 + (m : Int)) = ((m + 2 : Nat) : Int) := by omega
 refine satX_ex [] tbOk mixed Tryz.func163 rfl rfl rfl (by decide +kernel) (by decide +kernel) (Nat.le_of_ble_eq_true rfl) (by simp [go_sem]) (by simp [go_sem]) (fun _ => by simp [go_sem, noD, isD]) (fun _ => by simp [go_sem]) (fun _ => by simp [go_sem]) (fun _ => rfl) ?_
 simp -implicitDefEqProofs (disch := omega) only [go_sem, hd]
 refine exW.loan [9000] [] s1 rfl (by simp [go_sem, encS, encI]) ?_
 simp -implicitDefEqProofs (disch := omega) only [go_sem, hd]
 obtain ⟨c2, t, i2, gt, s2⟩ := l6E_ex bs hb (m + 2) (by omega) c1 i1 false
 replace gt := gT_mono (bE_small m (by omega)) gt
 have hcl := l18Closed_sat t gt
 have gB : gT 2000 (t.sub clo).red := ⟨red_wf _ (clo_g gt).1, Nat.le_trans (red_size _) (clo_g gt).2⟩
 have hr := specReduce_sat (t.sub clo) (by have := (clo_g gt).2; omega)
 generalize (t.sub clo).red = q at gB hr
 generalize t.sub clo = u at hcl hr
 obtain ⟨uk, un, uz, ua⟩ := u
 obtain ⟨qk, qn, qz, qa⟩ := q
 refine exW.loan [9000] [] s2 rfl (by simp [go_sem, encS, encI]) ?_
 simp -implicitDefEqProofs (disch := omega) only [go_sem, hd]
 refine exW.call (hcl) ?_
 simp -implicitDefEqProofs (disch := omega) only [go_sem, hd]
 refine exW.call (hr) ?_
 simp -implicitDefEqProofs (disch := omega) only [go_sem, hd]
 obtain ⟨c3, b3, i3, s3⟩ := once_ex bs hb c2 i2 3 (by omega)
 rcases b3 with _ | _
 ·have hac := specAllCasesO_sat nm2 (by decide) [] (by simp) (fun g hg => by cases hg)
  have gc := gC_all nm2 []
  rw [cI_rows] at hac
  generalize allCases nm2 [] = cs at hac gc
  refine exW.loan [9000] [] s3 rfl (by simp [go_sem, encS, encI]) ?_
  simp -implicitDefEqProofs (disch := omega) only [go_sem, hd]
  refine exW.outB hac (plainI cs) rfl ?_
  simp -implicitDefEqProofs (disch := omega) only [go_sem, hd]
  refine exW.fin (c3, (qk, qn, qz, qa), cs) ⟨i3, gB, gc⟩ ?_
  exact ⟨[5, 31], by simp, rfl, ⟨rfl, by simp [go_sem]⟩, by simp [go_sem]⟩
 ·refine exW.loan [9000] [] s3 rfl (by simp [go_sem, encS, encI]) ?_
  simp -implicitDefEqProofs (disch := omega) only [go_sem, hd]
  obtain ⟨c4, x4, i4, x4a, x4b, s4⟩ := below_ex bs hb c3 i3 3 (by omega)
  refine exW.loan [9000] [] s4 rfl (by simp [go_sem, encS, encI]) ?_
  simp -implicitDefEqProofs (disch := omega) only [go_sem, hd]
  refine exW.call (l3Var_sat ⟨#[78]⟩) ?_
  simp -implicitDefEqProofs (disch := omega) only [go_sem, hd]
  obtain ⟨c5, w, i5, gw, s5⟩ := l6Word_ex bs hb 2 (by omega) c4 i4 false
  obtain ⟨wk, wn, wz, wa⟩ := w
  refine exW.loan [9000] [] s5 rfl (by simp [go_sem, encS, encI]) ?_
  simp -implicitDefEqProofs (disch := omega) only [go_sem, hd]
  refine exW.and (by simp) ?_
  have hac := specAllCasesO_sat nm2 (by decide) [⟨1 + x4, vN, (.mk wk wn wz wa)⟩] (by simp) (fun g hg => by rw [List.mem_singleton.1 hg]; exact ⟨by have := (g_guard (lit_small (1 + x4) (by omega) (by omega)) g_vN gw).2; simp only [bT] at this; omega, (g_guard (lit_small (1 + x4) (by omega) (by omega)) g_vN gw).1⟩)
  have gc := gC_all nm2 [⟨1 + x4, vN, (.mk wk wn wz wa)⟩]
  rw [cI_rows] at hac
  generalize allCases nm2 [⟨1 + x4, vN, (.mk wk wn wz wa)⟩] = cs at hac gc
  refine exW.outB hac (plainI cs) rfl ?_
  simp -implicitDefEqProofs (disch := omega) only [go_sem, hd]
  refine exW.fin (c5, (qk, qn, qz, qa), cs) ⟨i5, gB, gc⟩ ?_
  exact ⟨[5, 31], by simp, rfl, ⟨rfl, by simp [go_sem]⟩, by simp [go_sem]⟩
theorem l18Draw_x (bs : List Int) (hb : okBs8 bs) (c : Cur) (hc : c.i ≤ bs.length) : ∃ c' k n z ts cs, c'.i ≤ bs.length ∧ gT 2000 (.mk k n z ts) ∧ gC 64 cs ∧ SatX Tryz.prog 163 [.one (.ptr 0 0)] [curB bs c] [curB bs c', vRow, cRow cs] (.agg [.own 1 2, iC k, iC n, sC z, .c (.sl (Tm.encs ts)), .own 2 cs.length]) := by
 obtain ⟨⟨c', ⟨k, n, z, ts⟩, cs⟩, ⟨h1, h2, h3⟩, h4⟩ := l18Draw_p bs hb c hc
 exact ⟨c', k, n, z, ts, cs, h1, h2, h3, h4⟩
theorem l18Bent_ex (bs : List Int) (hb : okBs8 bs) (c : Cur) (hc : c.i ≤ bs.length) : ∃ c' s, c'.i ≤ bs.length ∧ gY 3000 s ∧ SatX Tryz.prog 93 [.one (.ptr 0 0)] [curB bs c] [curB bs c'] (aggV (GSymbolic.enc s)) := by
 obtain ⟨c1, k, n, z, ts, cs, i1, gt, gc, s1⟩ := l18Draw_x bs hb c hc
 refine ex2 (satX_ex [(4, ([⟨0, 4, [3], [12, 13]⟩, ⟨1, 4, [10], [12, 13]⟩], [4])), (6, ([⟨0, 4, [3], [22, 23]⟩, ⟨1, 4, [20], [22, 23]⟩], [4]))] tbOk mixed Tryz.func93 rfl rfl rfl (by decide +kernel) (by decide +kernel) (Nat.le_of_ble_eq_true rfl) (by simp [go_sem]) (by simp [go_sem]) (fun _ => by simp [go_sem]) (fun _ => by simp [go_sem]) (fun _ => by simp [go_sem]) (fun _ => rfl) ?_)
 simp -implicitDefEqProofs (disch := omega) only [go_sem]
 refine exW.loan [9000] [9101, 9102] s1 rfl (by simp [go_sem, encS, encI]) ?_
 simp -implicitDefEqProofs (disch := omega) only [go_sem]
 obtain ⟨c2, x2, i2, x2a, x2b, s2⟩ := below_ex bs hb c1 i1 12 (by omega)
 rcases (by omega : x2 = 0 ∨ x2 = 1 ∨ x2 = 2 ∨ 3 ≤ x2) with rfl | rfl | rfl | x2r
 ·refine exW.loan [9000] [] s2 rfl (by simp [go_sem, encS, encI]) ?_
  simp -implicitDefEqProofs (disch := omega) only [go_sem]
  obtain ⟨c3, v, i3, hv, s3⟩ := pickInt_ex bs hb c2 i2 [0, 16, 99, -1] (by simp) (by decide)
  have hcl := gc.1
  refine exW.uv [9000] s3 (by simp [go_sem, encS, encI]) (by simp [go_sem]) ?_
  simp -implicitDefEqProofs (disch := omega) only [go_sem, i_snoc]
  refine exW.fin (c3, ⟨nm2, (.mk k n z ts), cs ++ [v]⟩) ⟨i3, g_sym (by decide) nm2_ok gt (gC_snoc gc (by simp at hv; omega) (by simp at hv; omega))⟩ ?_
  exact ⟨⟨by simp, by omega, by omega⟩, fun _ => ⟨[], by simp, rfl, ⟨rfl, trivial⟩, rfl, by decide⟩⟩
 ·refine exW.loan [9000] [] s2 rfl (by simp [go_sem, encS, encI]) ?_
  simp -implicitDefEqProofs (disch := omega) only [go_sem]
  obtain ⟨c3, y3, i3, z3, s3⟩ := pick8_ex bs hb c2 i2 [⟨#[78]⟩, ⟨#[75]⟩, ⟨#[120]⟩] (by simp) (by decide) (by decide)
  refine exW.uv [9000] s3 (by simp [go_sem, encS, encI]) (by simp [go_sem]) ?_
  simp -implicitDefEqProofs (disch := omega) only [go_sem]
  refine exW.fin (c3, ⟨nm2 ++ [y3], (.mk k n z ts), cs⟩) ⟨i3, g_sym (by simp [nm2]) (all_snoc nm2_ok z3) gt (gC_mono gc (by decide))⟩ ?_
  exact ⟨by simp, fun _ => ⟨[], by simp, rfl, ⟨rfl, trivial⟩, rfl, by decide⟩⟩
 ·refine exW.loan [9000] [] s2 rfl (by simp [go_sem, encS, encI]) ?_
  simp -implicitDefEqProofs (disch := omega) only [go_sem]
  obtain ⟨c3, t, i3, gu, s3⟩ := l6Any_ex bs hb c2 i2
  obtain ⟨tk, tn, tz, ta⟩ := t
  refine exW.loan [9000] [] s3 rfl (by simp [go_sem, encS, encI]) ?_
  simp -implicitDefEqProofs (disch := omega) only [go_sem]
  refine exW.fin (c3, ⟨nm2, (.mk tk tn tz ta), cs⟩) ⟨i3, g_sym (by decide) nm2_ok (gT_mono (by decide) gu) (gC_mono gc (by decide))⟩ ?_
  first | exact ⟨[], by simp, rfl, ⟨rfl, trivial⟩, rfl⟩ | exact ⟨[], by simp, rfl, ⟨rfl, trivial⟩, rfl, by decide⟩
 ·have nex20 : (x2 == 0) = false := by simp only [beq_eq_false_iff_ne, ne_eq]; omega
  have nex21 : (x2 == 1) = false := by simp only [beq_eq_false_iff_ne, ne_eq]; omega
  have nex22 : (x2 == 2) = false := by simp only [beq_eq_false_iff_ne, ne_eq]; omega
  refine exW.loan [9000] [] s2 rfl (by simp [go_sem, encS, encI]) ?_
  simp -implicitDefEqProofs (disch := omega) only [go_sem, nex20, nex21, nex22]
  refine exW.fin (c2, ⟨nm2, (.mk k n z ts), cs⟩) ⟨i2, g_sym (by decide) nm2_ok gt (gC_mono gc (by decide))⟩ ?_
  first | exact ⟨[], by simp, rfl, ⟨rfl, trivial⟩, rfl⟩ | exact ⟨[], by simp, rfl, ⟨rfl, trivial⟩, rfl, by decide⟩
theorem DrawIsSymbolic_ex (bs : List Int) (hb : okBs8 bs) : ∃ d s, gD 30000 d ∧ gY 3000 s ∧ Sat Tryz.prog 25 [slV (bs.map encU)] (.tup [aggV (GDefinition.enc d), aggV (GSymbolic.enc s)]) := by
 obtain ⟨c, hc, s0⟩ := l1New_ex bs hb
 refine ex2 (sat_ex [(3, ([⟨0, 2, [5], [11]⟩], [2]))] tbOk mixed Tryz.func25 rfl rfl rfl (by decide +kernel) (by decide +kernel) (Nat.le_of_ble_eq_true rfl) ?_)
 simp -implicitDefEqProofs (disch := omega) only [go_sem]
 refine exW.con [] [9105] rfl s0 (by simp [go_sem, encU]) ?_
 simp -implicitDefEqProofs (disch := omega) only [go_sem]
 obtain ⟨c1, d, i1, gd, s1⟩ := l10Bent_ex bs hb c hc
 obtain ⟨⟨dso, dop⟩, dru, dst⟩ := d
 refine exW.loan [9105] [] s1 rfl (by simp [go_sem, encS, encI]) ?_
 simp -implicitDefEqProofs (disch := omega) only [go_sem]
 obtain ⟨c2, s, i2, gs, s2⟩ := l18Bent_ex bs hb c1 i1
 obtain ⟨va, ⟨tk, tn, tz, ta⟩, ca⟩ := s
 refine exW.uv [9105] s2 (by simp [go_sem, encS, encI]) (by simp [go_sem]) ?_
 simp -implicitDefEqProofs (disch := omega) only [go_sem]
 refine exW.fin (⟨⟨dso, dop⟩, dru, dst⟩, ⟨va, .mk tk tn tz ta, ca⟩) ⟨gd, gs⟩ ?_
 first | done | rfl
theorem DrawInstanceOf_ex (bs : List Int) (hb : okBs8 bs) : ∃ s n, gY 3000 s ∧ (-1 ≤ n ∧ n ≤ 17) ∧ Sat Tryz.prog 31 [slV (bs.map encU)] (.tup [aggV (GSymbolic.enc s), intV n]) := by
 obtain ⟨c, hc, s0⟩ := l1New_ex bs hb
 refine ex2 (sat_ex [] tbOk mixed Tryz.func31 rfl rfl rfl (by decide +kernel) (by decide +kernel) (Nat.le_of_ble_eq_true rfl) ?_)
 simp -implicitDefEqProofs (disch := omega) only [go_sem]
 refine exW.con [] [9105] rfl s0 (by simp [go_sem, encU]) ?_
 simp -implicitDefEqProofs (disch := omega) only [go_sem]
 obtain ⟨c1, s, i1, gs, s1⟩ := l18Bent_ex bs hb c hc
 obtain ⟨va, ⟨tk, tn, tz, ta⟩, ca⟩ := s
 refine exW.loan [9105] [] s1 rfl (by simp [go_sem, encS, encI]) ?_
 simp -implicitDefEqProofs (disch := omega) only [go_sem]
 obtain ⟨c2, x2, i2, x2a, x2b, s2⟩ := below_ex bs hb c1 i1 18 (by omega)
 refine exW.loan [9105] [] s2 rfl (by simp [go_sem, encS, encI]) ?_
 simp -implicitDefEqProofs (disch := omega) only [go_sem]
 refine exW.fin (⟨va, .mk tk tn tz ta, ca⟩, x2 - 1) ⟨gs, (by simp only; omega)⟩ ?_
 first | done | rfl
end Go.Ai
