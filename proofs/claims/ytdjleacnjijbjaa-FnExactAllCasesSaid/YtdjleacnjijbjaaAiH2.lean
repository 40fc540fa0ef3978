/- AllCases. -/
import Derived.Test.YtdjleacnjijbjaaAiH1
namespace Go.Ai
set_option linter.unusedVariables false
set_option linter.unusedSimpArgs false
open Go.Proofs
set_option maxRecDepth 100000

def okCase (vars : List ByteArray) (gs : List GGuard) (c : Nat) : Bool := gs.all fun g => holdsG (g.sub (caseSubst vars c))
def casesTo (vars : List ByteArray) (gs : List GGuard) (i : Nat) : List Int := ((List.range i).filter (okCase vars gs)).map fun (n : Nat) => (n : Int)
def allCases (vars : List ByteArray) (gs : List GGuard) : List Int := casesTo vars gs (ccN vars.length).toNat
theorem casesTo_succ (vars : List ByteArray) (gs : List GGuard) (i : Nat) : casesTo vars gs (i + 1) = casesTo vars gs i ++ (if okCase vars gs i then [(i : Int)] else []) := by
  simp only [casesTo, List.range_succ, List.filter_append, List.map_append]
  congr 1
  simp only [List.filter_cons, List.filter_nil]
  split <;> rfl
theorem casesTo_len (vars : List ByteArray) (gs : List GGuard) (i : Nat) : (casesTo vars gs i).length ≤ i := by
  simp only [casesTo, List.length_map]
  exact Nat.le_trans (List.length_filter_le _ _) (by simp)
theorem casesTo_mem (vars : List ByteArray) (gs : List GGuard) (i : Nat) : ∀ n, n ∈ casesTo vars gs i → 0 ≤ n ∧ n < i := by
  intro n hn
  obtain ⟨m, hm, rfl⟩ := List.mem_map.1 hn
  have := (List.mem_filter.1 hm).1
  simp only [List.mem_range] at this
  omega
theorem ccN_b (n : Nat) : 0 ≤ ccN n ∧ ccN n ≤ 64 := by
  unfold ccN
  split
  · have := p4_b n (by omega); omega
  · omega
theorem implAllCases_sat (vars : List ByteArray) (hv : vars.length < 100000000) (gs : List GGuard) (hl : gs.length < 100000000) (hs : ∀ g, g ∈ gs → g.size < 9000000 ∧ g.wf) : SatF Try.prog 47 [slV (vars.map encS), slV (gs.map GGuard.enc)] (slV ((allCases vars gs).map encI)) := by
  obtain ⟨r, hr⟩ : ∃ r, r = allCases vars gs := ⟨_, rfl⟩
  rw [← hr]
  have hcb := ccN_b vars.length
  have hcc := implCount_sat vars.length hv
  obtain ⟨N, hN⟩ : ∃ N : Nat, ccN vars.length = (N : Int) := ⟨(ccN vars.length).toNat, by omega⟩
  rw [hN] at hcc hcb
  have hr : r = casesTo vars gs N := by rw [hr, allCases, hN]; rfl
  refine satF_of_code [slV (r.map encI)] rfl (fun _ h => by cases h) tbOk mixed Try.func47 rfl rfl rfl (by decide +kernel) (by decide +kernel) (Nat.le_of_ble_eq_true rfl) ?_
  simp -implicitDefEqProofs (disch := omega) only [go_sem, ↓reduceIte, reduceCtorEq, Nat.reduceEqDiff, Nat.reduceLT, Nat.reduceLeDiff, Nat.reduceAdd, Nat.reduceSub, Nat.reduceMul, IntWalk.i64_in, AV.one.injEq, AC.c.injEq, C.v.injEq, Value.int.injEq, Value.bool.injEq, beq_self_eq_true, bne_self_eq_false]
  refine loopA_rule (ι := Nat) (fun i => if casesTo vars gs i = [] then mk 24 [(0, slV (vars.map encS)), (1, slV (gs.map GGuard.enc)), (5, .one .nil), (6, intV i)] []
      else mk 24 [(0, slV (vars.map encS)), (1, slV (gs.map GGuard.enc)), (5, .one (.own 22 (casesTo vars gs i).length)), (6, intV i)] [(22, .arr 3 1 (cI (casesTo vars gs i)) false)])
    (fun i => i ≤ N) (fun i => N - i) 0 (Nat.zero_le _) ?_ tbOk mixed (by decide +kernel) ?_
  · have h0 : casesTo vars gs 0 = [] := rfl
    simp only [h0, if_true]
    exact le_mk (by simp [go_sem]) (by simp [go_sem])
  · intro i hi
    have hcl := casesTo_len vars gs i
    have hstep := casesTo_succ vars gs i
    have hcs := implCaseSubstF_sat vars (i : Int) (by omega)
    have hbl := caseSubst_len vars (i : Int)
    have hah := allHold_sat (caseSubst vars (i : Int)) (by omega) (caseSubst_zero vars i) (caseSubst_twf vars i) gs hl hs
    have hok : (gs.all fun g => holdsG (g.sub (caseSubst vars (i : Int)))) = okCase vars gs i := rfl
    rw [hok] at hah
    generalize okCase vars gs i = b at hah hstep
    have hend : ¬ i < N → r = casesTo vars gs i := fun h => by rw [hr]; congr 1; omega
    generalize casesTo vars gs i = xs at hcl hstep hend ⊢
    by_cases hx : xs = []
    · rw [if_pos hx]
      subst hx
      simp -implicitDefEqProofs (disch := omega) only [go_sem, ↓reduceIte, reduceCtorEq, Nat.reduceEqDiff, Nat.reduceLT, Nat.reduceLeDiff, Nat.reduceAdd, Nat.reduceSub, Nat.reduceMul, IntWalk.i64_in, AV.one.injEq, AC.c.injEq, C.v.injEq, Value.int.injEq, Value.bool.injEq, beq_self_eq_true, bne_self_eq_false, List.length_map]
      refine CallK.mk hcc ?_
      simp -implicitDefEqProofs (disch := omega) only [go_sem, ↓reduceIte, reduceCtorEq, Nat.reduceEqDiff, Nat.reduceLT, Nat.reduceLeDiff, Nat.reduceAdd, Nat.reduceSub, Nat.reduceMul, IntWalk.i64_in, AV.one.injEq, AC.c.injEq, C.v.injEq, Value.int.injEq, Value.bool.injEq, beq_self_eq_true, bne_self_eq_false, List.length_map]
      refine ⟨fun hlt => CallK.mk hcs.sat ?_, fun hge => by rw [hend hge]; trivial⟩
      simp -implicitDefEqProofs (disch := omega) only [go_sem, ↓reduceIte, reduceCtorEq, Nat.reduceEqDiff, Nat.reduceLT, Nat.reduceLeDiff, Nat.reduceAdd, Nat.reduceSub, Nat.reduceMul, IntWalk.i64_in, AV.one.injEq, AC.c.injEq, C.v.injEq, Value.int.injEq, Value.bool.injEq, beq_self_eq_true, bne_self_eq_false, List.length_map]
      refine CallK.mk hah ?_
      simp -implicitDefEqProofs (disch := omega) only [go_sem, ↓reduceIte, reduceCtorEq, Nat.reduceEqDiff, Nat.reduceLT, Nat.reduceLeDiff, Nat.reduceAdd, Nat.reduceSub, Nat.reduceMul, IntWalk.i64_in, AV.one.injEq, AC.c.injEq, C.v.injEq, Value.int.injEq, Value.bool.injEq, beq_self_eq_true, bne_self_eq_false, List.length_map]
      refine ⟨fun hb => ⟨by simp, fun _ => ⟨i + 1, hlt, by omega, ?_⟩⟩, fun hb => ⟨i + 1, hlt, by omega, ?_⟩⟩
      · rw [hb, if_pos rfl, List.nil_append] at hstep
        rw [hstep, if_neg (by simp)]
        exact le_mk (by simp [go_sem]) (by simp [go_sem, cI])
      · rw [hb, if_neg (by simp), List.nil_append] at hstep
        rw [hstep, if_pos rfl]
        exact le_mk (by simp [go_sem]) (by simp [go_sem])
    · rw [if_neg hx]
      simp -implicitDefEqProofs (disch := omega) only [go_sem, ↓reduceIte, reduceCtorEq, Nat.reduceEqDiff, Nat.reduceLT, Nat.reduceLeDiff, Nat.reduceAdd, Nat.reduceSub, Nat.reduceMul, IntWalk.i64_in, AV.one.injEq, AC.c.injEq, C.v.injEq, Value.int.injEq, Value.bool.injEq, beq_self_eq_true, bne_self_eq_false, List.length_map, cI_len]
      refine CallK.mk hcc ?_
      simp -implicitDefEqProofs (disch := omega) only [go_sem, ↓reduceIte, reduceCtorEq, Nat.reduceEqDiff, Nat.reduceLT, Nat.reduceLeDiff, Nat.reduceAdd, Nat.reduceSub, Nat.reduceMul, IntWalk.i64_in, AV.one.injEq, AC.c.injEq, C.v.injEq, Value.int.injEq, Value.bool.injEq, beq_self_eq_true, bne_self_eq_false, List.length_map, cI_len]
      refine ⟨fun hlt => CallK.mk hcs.sat ?_, fun hge => ⟨cI_isO _, by rw [cI_toC, hend hge]⟩⟩
      simp -implicitDefEqProofs (disch := omega) only [go_sem, ↓reduceIte, reduceCtorEq, Nat.reduceEqDiff, Nat.reduceLT, Nat.reduceLeDiff, Nat.reduceAdd, Nat.reduceSub, Nat.reduceMul, IntWalk.i64_in, AV.one.injEq, AC.c.injEq, C.v.injEq, Value.int.injEq, Value.bool.injEq, beq_self_eq_true, bne_self_eq_false, List.length_map, cI_len]
      refine CallK.mk hah ?_
      simp -implicitDefEqProofs (disch := omega) only [go_sem, ↓reduceIte, reduceCtorEq, Nat.reduceEqDiff, Nat.reduceLT, Nat.reduceLeDiff, Nat.reduceAdd, Nat.reduceSub, Nat.reduceMul, IntWalk.i64_in, AV.one.injEq, AC.c.injEq, C.v.injEq, Value.int.injEq, Value.bool.injEq, beq_self_eq_true, bne_self_eq_false, List.length_map, cI_len]
      refine ⟨fun hb => ⟨⟨by simp, by omega, by omega⟩, fun _ => ⟨i + 1, hlt, by omega, ?_⟩⟩, fun hb => ⟨i + 1, hlt, by omega, ?_⟩⟩
      · rw [hb, if_pos rfl] at hstep
        rw [hstep, if_neg (by simp), cI_snoc]
        exact le_mk (by simp [go_sem]) ⟨by simp only [lookB_cons, if_true], cI_in _ _, trivial⟩
      · rw [hb, if_neg (by simp), List.append_nil] at hstep
        rw [hstep, if_neg hx]
        exact le_mk (by simp [go_sem]) ⟨by simp only [lookB_cons, if_true], cI_in _ _, trivial⟩
theorem specAllCases_sat (vars : List ByteArray) (hv : vars.length < 100000000) (gs : List GGuard) (hl : gs.length < 100000000) (hs : ∀ g, g ∈ gs → g.size < 9000000 ∧ g.wf) : Sat Try.prog 44 [slV (vars.map encS), slV (gs.map GGuard.enc)] (slV ((allCases vars gs).map encI)) := by
  obtain ⟨r, hr⟩ : ∃ r, r = allCases vars gs := ⟨_, rfl⟩
  rw [← hr]
  have hcb := ccN_b vars.length
  have hcc := specCount_sat vars.length hv
  obtain ⟨N, hN⟩ : ∃ N : Nat, ccN vars.length = (N : Int) := ⟨(ccN vars.length).toNat, by omega⟩
  rw [hN] at hcc hcb
  have hr : r = casesTo vars gs N := by rw [hr, allCases, hN]; rfl
  refine sat_of_code tbOk mixed Try.func44 rfl rfl rfl (by decide +kernel) (by decide +kernel) (Nat.le_of_ble_eq_true rfl) ?_
  simp -implicitDefEqProofs (disch := omega) only [go_sem, ↓reduceIte, reduceCtorEq, Nat.reduceEqDiff, Nat.reduceLT, Nat.reduceLeDiff, Nat.reduceAdd, Nat.reduceSub, Nat.reduceMul, IntWalk.i64_in, AV.one.injEq, AC.c.injEq, C.v.injEq, Value.int.injEq, Value.bool.injEq, beq_self_eq_true, bne_self_eq_false, List.length_map]
  refine CallK.mk hcc ?_
  simp -implicitDefEqProofs (disch := omega) only [go_sem, ↓reduceIte, reduceCtorEq, Nat.reduceEqDiff, Nat.reduceLT, Nat.reduceLeDiff, Nat.reduceAdd, Nat.reduceSub, Nat.reduceMul, IntWalk.i64_in, AV.one.injEq, AC.c.injEq, C.v.injEq, Value.int.injEq, Value.bool.injEq, beq_self_eq_true, bne_self_eq_false, List.length_map]
  refine loopA_rule (ι := Nat) (fun i => mk 43 [(0, slV (vars.map encS)), (1, slV (gs.map GGuard.enc)), (5, .one (.own 10 (casesTo vars gs i).length)), (6, intV N), (7, intV i)] [(10, .arr 3 1 (cI (casesTo vars gs i)) false)])
    (fun i => i ≤ N) (fun i => N - i) 0 (Nat.zero_le _) ?_ tbOk mixed (by decide +kernel) ?_
  · exact le_mk (by simp [go_sem, casesTo]) (by simp [go_sem, casesTo, cI])
  · intro i hi
    have hcl := casesTo_len vars gs i
    have hstep := casesTo_succ vars gs i
    have hcs := specCaseSubst_sat vars (i : Int) (by omega)
    have hbl := caseSubst_len vars (i : Int)
    have hok : okCase vars gs i = (gs.all fun g => holdsG (g.sub (caseSubst vars (i : Int)))) := rfl
    have hend : ¬ i < N → r = casesTo vars gs i := fun h => by rw [hr]; congr 1; omega
    generalize casesTo vars gs i = xs at hcl hstep hend ⊢
    generalize okCase vars gs i = b at hstep hok
    simp -implicitDefEqProofs (disch := omega) only [go_sem, ↓reduceIte, reduceCtorEq, Nat.reduceEqDiff, Nat.reduceLT, Nat.reduceLeDiff, Nat.reduceAdd, Nat.reduceSub, Nat.reduceMul, IntWalk.i64_in, AV.one.injEq, AC.c.injEq, C.v.injEq, Value.int.injEq, Value.bool.injEq, beq_self_eq_true, bne_self_eq_false, List.length_map, cI_len]
    refine ⟨fun hlt => ?_, fun hge => ⟨isV_cI _, by rw [cI_toC, hend hge]⟩⟩
    refine loopA_rule (ι := Nat) (fun k => mk 43 [(0, slV (vars.map encS)), (1, slV (gs.map GGuard.enc)), (5, .one (.own 10 xs.length)), (6, intV N), (7, intV i), (8, boolV ((gs.take k).all fun g => holdsG (g.sub (caseSubst vars (i : Int))))), (9, intV k)] [(10, .arr 3 1 (cI xs) false)])
      (fun k => k ≤ gs.length) (fun k => gs.length - k) 0 (Nat.zero_le _) ?_ tbOk mixed (by decide +kernel) ?_
    · exact le_mk (by simp [go_sem]) ⟨by simp only [lookB_cons, if_true], cI_in _ _, trivial⟩
    · intro k hk
      rcases Nat.lt_or_ge k gs.length with hkl | hkg
      · have hg := map_getD (ec := GGuard.enc) hkl
        have hall : ((gs.take (k + 1)).all fun g => holdsG (g.sub (caseSubst vars (i : Int)))) = (((gs.take k).all fun g => holdsG (g.sub (caseSubst vars (i : Int)))) && holdsG (gs[k].sub (caseSubst vars (i : Int)))) := by
          rw [List.take_add_one, List.getElem?_eq_getElem hkl, List.all_append]
          simp
        generalize ((gs.take k).all fun g => holdsG (g.sub (caseSubst vars (i : Int)))) = bk at hall ⊢
        obtain ⟨hsz, hwf⟩ := hs _ (List.getElem_mem hkl)
        generalize gs[k] = g at hg hall hsz hwf
        have hap := specToGuard_sat (caseSubst vars (i : Int)) (by omega) (fun b hb' => by rw [caseSubst_zero vars i b hb']; omega) g (by simp only [GGuard.size] at hsz; omega) (by simp only [GGuard.size] at hsz; omega)
        have z1 := sub_size (caseSubst vars (i : Int)) (caseSubst_zero vars i) g.le
        have z2 := sub_size (caseSubst vars (i : Int)) (caseSubst_zero vars i) g.ri
        have hho := specHolds_sat (g.sub (caseSubst vars (i : Int))) (by simp only [GGuard.sub]; simp only [GGuard.size] at hsz; omega) (by simp only [GGuard.sub]; simp only [GGuard.size] at hsz; omega) (sub_wf _ (caseSubst_twf vars i) g.le hwf.2.1) (sub_wf _ (caseSubst_twf vars i) g.ri hwf.2.2)
        generalize holdsG (g.sub (caseSubst vars (i : Int))) = hd at hall hho
        generalize g.sub (caseSubst vars (i : Int)) = g' at hap hho
        obtain ⟨kd, ⟨lk, ln, ls, lt⟩, ⟨rk, rn, rs, rt⟩⟩ := g
        obtain ⟨kd', ⟨lk', ln', ls', lt'⟩, ⟨rk', rn', rs', rt'⟩⟩ := g'
        simp only [GGuard.enc, Tm.enc, encI, List.cons_append, List.nil_append] at hg
        simp -implicitDefEqProofs (disch := omega) only [go_sem, ↓reduceIte, reduceCtorEq, Nat.reduceEqDiff, Nat.reduceLT, Nat.reduceLeDiff, Nat.reduceAdd, Nat.reduceSub, Nat.reduceMul, IntWalk.i64_in, AV.one.injEq, AC.c.injEq, C.v.injEq, Value.int.injEq, Value.bool.injEq, beq_self_eq_true, bne_self_eq_false, hg, hkl, List.length_map, cI_len]
        refine ⟨fun hbk => CallK.mk hcs ?_, fun hbk => ⟨k + 1, hkl, by omega, ?_⟩⟩
        · simp -implicitDefEqProofs (disch := omega) only [go_sem, ↓reduceIte, reduceCtorEq, Nat.reduceEqDiff, Nat.reduceLT, Nat.reduceLeDiff, Nat.reduceAdd, Nat.reduceSub, Nat.reduceMul, IntWalk.i64_in, AV.one.injEq, AC.c.injEq, C.v.injEq, Value.int.injEq, Value.bool.injEq, beq_self_eq_true, bne_self_eq_false, hg, hkl, List.length_map, cI_len]
          refine CallK.mk hap ?_
          simp -implicitDefEqProofs (disch := omega) only [go_sem, ↓reduceIte, reduceCtorEq, Nat.reduceEqDiff, Nat.reduceLT, Nat.reduceLeDiff, Nat.reduceAdd, Nat.reduceSub, Nat.reduceMul, IntWalk.i64_in, AV.one.injEq, AC.c.injEq, C.v.injEq, Value.int.injEq, Value.bool.injEq, beq_self_eq_true, bne_self_eq_false, GGuard.enc, Tm.enc, encI, List.cons_append, List.nil_append]
          refine CallK.mk hho ?_
          simp -implicitDefEqProofs (disch := omega) only [go_sem, ↓reduceIte, reduceCtorEq, Nat.reduceEqDiff, Nat.reduceLT, Nat.reduceLeDiff, Nat.reduceAdd, Nat.reduceSub, Nat.reduceMul, IntWalk.i64_in, AV.one.injEq, AC.c.injEq, C.v.injEq, Value.int.injEq, Value.bool.injEq, beq_self_eq_true, bne_self_eq_false, List.length_map, cI_len]
          refine ⟨k + 1, hkl, by omega, ?_⟩
          rw [hall, hbk, Bool.true_and]
          exact le_mk (by simp [go_sem]) ⟨by simp only [lookB_cons, if_true], cI_in _ _, trivial⟩
        · rw [hall, hbk, Bool.false_and]
          exact le_mk (by simp [go_sem]) ⟨by simp only [lookB_cons, if_true], cI_in _ _, trivial⟩
      · have : k = gs.length := by omega
        subst this
        rw [List.take_length, ← hok]
        simp -implicitDefEqProofs (disch := omega) only [go_sem, ↓reduceIte, reduceCtorEq, Nat.reduceEqDiff, Nat.reduceLT, Nat.reduceLeDiff, Nat.reduceAdd, Nat.reduceSub, Nat.reduceMul, IntWalk.i64_in, AV.one.injEq, AC.c.injEq, C.v.injEq, Value.int.injEq, Value.bool.injEq, beq_self_eq_true, bne_self_eq_false, Nat.lt_irrefl, List.length_map, cI_len]
        refine ⟨fun hb => ⟨⟨by simp, by omega, by omega⟩, fun _ => ⟨i + 1, hlt, by omega, ?_⟩⟩, fun hb => ⟨i + 1, hlt, by omega, ?_⟩⟩
        · rw [hb, if_pos rfl] at hstep
          rw [hstep, cI_snoc]
          exact le_mk (by simp [go_sem]) ⟨by simp only [lookB_cons, if_true], cI_in _ _, trivial⟩
        · rw [hb, if_neg (by simp), List.append_nil] at hstep
          rw [hstep]
          exact le_mk (by simp [go_sem]) ⟨by simp only [lookB_cons, if_true], cI_in _ _, trivial⟩
end Go.Ai
