/- Valid rules: IsValidRule. -/
import Derived.Test.YtofbieojmaobfaaGreatAiU5
namespace Go.Ai
set_option linter.unusedVariables false
set_option linter.unusedSimpArgs false
open Go.Proofs
set_option maxRecDepth 100000

theorem bis_any (ts : List Tm) : Tm.bis ts = ts.any Tm.bi := by
  induction ts with
  | nil => rfl
  | cons a ts ih => simp [Tm.bis, ih]
theorem bis_drop (ts : List Tm) (i : Nat) (h : i < ts.length) : Tm.bis (ts.drop i) = (ts[i].bi || Tm.bis (ts.drop (i + 1))) := by
  rw [List.drop_eq_getElem_cons h]; simp only [Tm.bis]
theorem specBuiltin_1 (k n : Int) (s : ByteArray) (ts : List Tm) (hl : s.size + Tm.sizes ts < 80000000) (ih : ∀ t, t ∈ ts → Sat Tryz.prog 211 [tmV t] (boolV t.bi)) : Sat Tryz.prog 211 [tmV (.mk k n s ts)] (boolV (Tm.mk k n s ts).bi) := by
  have hts := len_sizes ts
  have hb := specIsBuiltin_sat s
  obtain ⟨r, hr⟩ : ∃ r, r = (Tm.mk k n s ts).bi := ⟨_, rfl⟩
  rw [← hr]
  simp only [Tm.bi] at hr
  generalize isBi s = b at hb hr
  refine sat_of_code tbOk mixed Tryz.func211 rfl rfl rfl (by decide +kernel) (by decide +kernel) (Nat.le_of_ble_eq_true rfl) ?_
  simp -implicitDefEqProofs (disch := omega) only [go_sem, Tm.enc]
  refine loopA_rule (ι := Nat) (fun i => mk 25 [(1, .one (.ptr 1 0)), (3, intV i)] [(1, .var [iC k, iC n, sC s, tC ts])])
    (fun i => i ≤ ts.length ∧ Tm.bis (ts.drop i) = Tm.bis ts) (fun i => ts.length - i) 0 ⟨Nat.zero_le _, by simp⟩ ?_ tbOk mixed (by decide +kernel) ?_
  · exact le_mk (by simp [go_sem]) (by simp [go_sem])
  · rintro i ⟨hi, he⟩
    rcases Nat.lt_or_ge i ts.length with hlt | hge
    · have hg := encs_getD ts i hlt
      rw [bis_drop ts i hlt] at he
      simp -implicitDefEqProofs (disch := omega) only [go_sem, hg, hlt, enc_len]
      refine CallK.mk (ih _ (List.getElem_mem hlt)) ?_
      simp -implicitDefEqProofs (disch := omega) only [go_sem]
      exact ⟨fun h => by rw [h] at he; rw [hr, ← he]; simp, fun h => ⟨i + 1, ⟨hlt, by rw [h] at he; simpa using he⟩, by omega, le_mk (by simp [go_sem]) (by simp [go_sem])⟩⟩
    · have : i = ts.length := by omega
      subst this
      rw [List.drop_length] at he
      have he : false = Tm.bis ts := he
      rw [← he, Bool.or_false] at hr
      simp -implicitDefEqProofs (disch := omega) only [go_sem, Nat.lt_irrefl]
      refine ⟨fun h => CallK.mk hb ?_, fun h => by rw [hr, h]; rfl⟩
      simp -implicitDefEqProofs (disch := omega) only [go_sem]
      rw [hr, h]; rfl
theorem specBi_sat : ∀ (t : Tm), t.size < 80000000 → Sat Tryz.prog 211 [tmV t] (boolV t.bi) := by
  refine Tm.ind (fun k n s ts ih h => specBuiltin_1 k n s ts (by simp only [Tm.size] at h; omega) (fun t ht => ih t ht ?_))
  have := size_mem ts t ht; simp only [Tm.size] at h; omega
theorem implLacks_1 (k n : Int) (s : ByteArray) (ts : List Tm) (hl : s.size + Tm.sizes ts < 80000000) (ih : ∀ t, t ∈ ts → Sat Tryz.prog 223 [tmV t] (boolV (!t.bi))) : Sat Tryz.prog 223 [tmV (.mk k n s ts)] (boolV (!(Tm.mk k n s ts).bi)) := by
  have hts := len_sizes ts
  have hb := implIsBuiltin_sat s
  obtain ⟨r, hr⟩ : ∃ r, r = !(Tm.mk k n s ts).bi := ⟨_, rfl⟩
  rw [← hr]
  simp only [Tm.bi] at hr
  generalize isBi s = b at hb hr
  refine sat_of_code tbOk mixed Tryz.func223 rfl rfl rfl (by decide +kernel) (by decide +kernel) (Nat.le_of_ble_eq_true rfl) ?_
  simp -implicitDefEqProofs (disch := omega) only [go_sem, Tm.enc]
  have loop : (k == 2 && b) = false → r = !Tm.bis ts := fun h => by rw [hr, h]; rfl
  refine ⟨fun h1 => CallK.mk hb ?_, fun h1 => ?_⟩
  · simp -implicitDefEqProofs (disch := omega) only [go_sem]
    refine ⟨fun h2 => by rw [hr, h1, h2]; rfl, fun h2 => ?_⟩
    have hr := loop (by rw [h2]; simp)
    refine loopA_rule (ι := Nat) (fun i => mk 24 [(14, tmsV ts), (15, intV ts.length), (16, intV i)] [])
      (fun i => i ≤ ts.length ∧ Tm.bis (ts.drop i) = Tm.bis ts) (fun i => ts.length - i) 0 ⟨Nat.zero_le _, by simp⟩ ?_ tbOk mixed (by decide +kernel) ?_
    · exact le_mk (by simp [go_sem]) (by simp [go_sem])
    · rintro i ⟨hi, he⟩
      rcases Nat.lt_or_ge i ts.length with hlt | hge
      · have hg := encs_getD ts i hlt
        rw [bis_drop ts i hlt] at he
        simp -implicitDefEqProofs (disch := omega) only [go_sem, hg, hlt, enc_len]
        refine CallK.mk (ih _ (List.getElem_mem hlt)) ?_
        simp -implicitDefEqProofs (disch := omega) only [go_sem]
        exact ⟨fun h => by rw [h] at he; rw [hr, ← he]; simp, fun h => ⟨i + 1, ⟨hlt, by rw [h] at he; simpa using he⟩, by omega, le_mk (by simp [go_sem]) (by simp [go_sem])⟩⟩
      · have : i = ts.length := by omega
        subst this
        rw [List.drop_length] at he
        simp -implicitDefEqProofs (disch := omega) only [go_sem, Nat.lt_irrefl]
        rw [hr, ← he]; rfl
  · have hr := loop (by rw [h1]; rfl)
    refine loopA_rule (ι := Nat) (fun i => mk 24 [(14, tmsV ts), (15, intV ts.length), (16, intV i)] [])
      (fun i => i ≤ ts.length ∧ Tm.bis (ts.drop i) = Tm.bis ts) (fun i => ts.length - i) 0 ⟨Nat.zero_le _, by simp⟩ ?_ tbOk mixed (by decide +kernel) ?_
    · exact le_mk (by simp [go_sem]) (by simp [go_sem])
    · rintro i ⟨hi, he⟩
      rcases Nat.lt_or_ge i ts.length with hlt | hge
      · have hg := encs_getD ts i hlt
        rw [bis_drop ts i hlt] at he
        simp -implicitDefEqProofs (disch := omega) only [go_sem, hg, hlt, enc_len]
        refine CallK.mk (ih _ (List.getElem_mem hlt)) ?_
        simp -implicitDefEqProofs (disch := omega) only [go_sem]
        exact ⟨fun h => by rw [h] at he; rw [hr, ← he]; simp, fun h => ⟨i + 1, ⟨hlt, by rw [h] at he; simpa using he⟩, by omega, le_mk (by simp [go_sem]) (by simp [go_sem])⟩⟩
      · have : i = ts.length := by omega
        subst this
        rw [List.drop_length] at he
        simp -implicitDefEqProofs (disch := omega) only [go_sem, Nat.lt_irrefl]
        rw [hr, ← he]; rfl
theorem implLacks_sat : ∀ (t : Tm), t.size < 80000000 → Sat Tryz.prog 223 [tmV t] (boolV (!t.bi)) := by
  refine Tm.ind (fun k n s ts ih h => implLacks_1 k n s ts (by simp only [Tm.size] at h; omega) (fun t ht => ih t ht ?_))
  have := size_mem ts t ht; simp only [Tm.size] at h; omega
def signS (k : Int) : ByteArray := if k = 1 then ⟨#[32, 61, 61, 32]⟩ else if k = 2 then ⟨#[32, 33, 61, 32]⟩ else if k = 3 then ⟨#[32, 60, 32]⟩ else sE
theorem signS_emp (k : Int) : eqS (signS k) sE = !guardK k := by
  unfold signS guardK
  split
  · subst_vars; rw [(eqS_ne _ _).2 (by decide)]; rfl
  · split
    · subst_vars; rw [(eqS_ne _ _).2 (by decide)]; rfl
    · split
      · subst_vars; rw [(eqS_ne _ _).2 (by decide)]; rfl
      · rw [eqS_refl]
        have : ¬ (1 ≤ k ∧ k ≤ 3) := by omega
        symm
        simp only [Bool.not_eq_true', Bool.and_eq_false_iff, decide_eq_false_iff_not]
        omega
theorem specSign_sat (k : Int) : Sat Tryz.prog 242 [intV k] (strV (signS k)) := by
  by_cases hk : 1 ≤ k ∧ k ≤ 3
  · have h3 : k = 1 ∨ k = 2 ∨ k = 3 := by omega
    rcases h3 with rfl | rfl | rfl
    all_goals
      refine sat_of_code tbOk mixed Tryz.func242 rfl rfl rfl (by decide +kernel) (by decide +kernel) (Nat.le_of_ble_eq_true rfl) ?_
      simp -implicitDefEqProofs (disch := omega) only [go_sem]
      refine CallK.mk (l1In_sat _ 1 3) ?_
      simp -implicitDefEqProofs (disch := omega) only [go_sem, Int.reduceToNat, Int.reduceLE, Int.reduceLT, decide_true, Bool.and_self, Int.cast_ofNat_Int]
      rfl
  · have hb := l1In_sat k 1 3
    have hf : (decide (1 ≤ k) && decide (k ≤ 3)) = false := by
      simp only [Bool.and_eq_false_iff, decide_eq_false_iff_not]; omega
    rw [hf] at hb
    refine sat_of_code tbOk mixed Tryz.func242 rfl rfl rfl (by decide +kernel) (by decide +kernel) (Nat.le_of_ble_eq_true rfl) ?_
    simp -implicitDefEqProofs (disch := omega) only [go_sem]
    refine CallK.mk hb ?_
    simp -implicitDefEqProofs (disch := omega) only [go_sem]
    unfold signS
    rw [if_neg (by omega), if_neg (by omega), if_neg (by omega)]
theorem implGuardKind_sat (k : Int) : Sat Tryz.prog 247 [intV k] (boolV (guardK k)) := by
  refine sat_of_code tbOk mixed Tryz.func247 rfl rfl rfl (by decide +kernel) (by decide +kernel) (Nat.le_of_ble_eq_true rfl) ?_
  simp -implicitDefEqProofs (disch := omega) only [go_sem]
  unfold guardK
  grind
theorem specGuard_sat (sg : GSignature) (hk : opOk sg) (vs : List GVarSort) (hv : vs.length < 100000000) (g : GGuard) (hg : g.size < 40000000) : Sat Tryz.prog 215 [aggV sg.enc, aggV g.enc, slV (vs.map GVarSort.enc)] (boolV (guardS sg vs g)) := by
  obtain ⟨kd, le, ri⟩ := g
  simp only [GGuard.size] at hg
  have h1 := specValid_sat le (by omega)
  have h2 := specValid_sat ri (by omega)
  have h3 := specSign_sat kd
  have h3e := signS_emp kd
  have h4 := specSortOf_sat sg hk vs hv le (by omega)
  have h5 := specSortOf_sat sg hk vs hv ri (by omega)
  obtain ⟨r, hr⟩ : ∃ r, r = guardS sg vs ⟨kd, le, ri⟩ := ⟨_, rfl⟩
  rw [← hr]
  unfold guardS at hr
  simp only at hr
  generalize signS kd = sn at h3 h3e
  generalize guardK kd = b3 at h3e hr
  generalize le.valid = b1 at h1 hr
  generalize ri.valid = b2 at h2 hr
  generalize le.sort sg vs = q1 at h4 hr
  generalize ri.sort sg vs = q2 at h5 hr
  have hse : sg.enc = [.sl (sg.so.map encS), .sl (sg.op.map GOp.enc)] := rfl
  obtain ⟨lk, ln, ls, lt⟩ := le
  obtain ⟨rk, rn, rs, rt⟩ := ri
  refine sat_of_code tbOk mixed Tryz.func215 rfl rfl rfl (by decide +kernel) (by decide +kernel) (Nat.le_of_ble_eq_true rfl) ?_
  simp -implicitDefEqProofs (disch := omega) only [go_sem, GGuard.enc, Tm.enc, encI, hse, List.cons_append, List.nil_append]
  refine CallK.mk h1 ?_
  simp -implicitDefEqProofs (disch := omega) only [go_sem, List.cons_append, List.nil_append]
  refine ⟨fun k1 => CallK.mk h2 ?_, fun k1 => by rw [hr, k1]; simp⟩
  simp -implicitDefEqProofs (disch := omega) only [go_sem]
  refine ⟨fun k2 => CallK.mk h3 ?_, fun k2 => by rw [hr, k2]; simp⟩
  simp -implicitDefEqProofs (disch := omega) only [go_sem]
  refine ⟨fun k3 => ?_, fun k3 => CallK.mk h4 ?_⟩
  · have k3 : eqS sn sE = true := by simpa [eqS] using k3
    rw [h3e] at k3
    simp at k3
    rw [hr, k3]; simp
  · have k3 : eqS sn sE = false := k3
    rw [h3e] at k3
    simp at k3
    simp only [eqS, k1, k2, k3, Bool.true_and] at hr
    simp -implicitDefEqProofs (disch := omega) only [go_sem]
    refine ⟨fun k4 => CallK.mk h5 ?_, fun k4 => by rw [hr, k4]; simp⟩
    simp -implicitDefEqProofs (disch := omega) only [go_sem]
    grind
def guardI (sg : GSignature) (vs : List GVarSort) (names : List ByteArray) (g : GGuard) : Bool :=
  guardK g.kd && g.le.valid && g.ri.valid && g.le.vars.all (hasS names) && g.ri.vars.all (hasS names) && !eqS (g.le.sort sg vs) sE && eqS (g.le.sort sg vs) (g.ri.sort sg vs) && !(g.kd == 3 && !eqS (g.le.sort sg vs) sWord)
theorem all_drop {α : Type} (p : α → Bool) (xs : List α) (i : Nat) (h : i < xs.length) : (xs.drop i).all p = (p xs[i] && (xs.drop (i + 1)).all p) := by
  rw [List.drop_eq_getElem_cons h, List.all_cons]
theorem implGuards_sat (sg : GSignature) (hk : opOk sg) (vs : List GVarSort) (hv : vs.length < 100000000) (names : List ByteArray) (hn : names.length < 100000000) (gs : List GGuard) (hl : gs.length < 100000000) (hg : ∀ g, g ∈ gs → g.size < 40000000) : Sat Tryz.prog 227 [aggV sg.enc, slV (gs.map GGuard.enc), slV (vs.map GVarSort.enc), slV (names.map encS)] (boolV (gs.all (guardI sg vs names) && decide (gs.length ≤ 2))) := by
  obtain ⟨r, hr⟩ : ∃ r, r = gs.all (guardI sg vs names) := ⟨_, rfl⟩
  rw [← hr]
  have hse : sg.enc = [.sl (sg.so.map encS), .sl (sg.op.map GOp.enc)] := rfl
  refine sat_of_code tbOk mixed Tryz.func227 rfl rfl rfl (by decide +kernel) (by decide +kernel) (Nat.le_of_ble_eq_true rfl) ?_
  simp -implicitDefEqProofs (disch := omega) only [go_sem, hse]
  refine loopA_rule (ι := Nat) (fun i => mk 79 [(1, slV (gs.map GGuard.enc)), (2, slV (vs.map GVarSort.enc)), (3, slV (names.map encS)), (4, .one (.ptr 4 0)), (13, slV (gs.map GGuard.enc)), (14, intV gs.length), (15, intV i)] [(4, .var [.c (.sl (sg.so.map encS)), .c (.sl (sg.op.map GOp.enc))])]) (fun i => i ≤ gs.length ∧ (gs.drop i).all (guardI sg vs names) = r) (fun i => gs.length - i) 0 ⟨Nat.zero_le _, by simp [hr]⟩ ?_ tbOk mixed (by decide +kernel) ?_
  · exact le_mk (by simp [go_sem]) (by simp [go_sem])
  · rintro i ⟨hi, he⟩
    rcases Nat.lt_or_ge i gs.length with hlt | hge
    · have hgd := map_getD (ec := GGuard.enc) hlt
      have hgs := hg _ (List.getElem_mem hlt)
      rw [all_drop _ gs i hlt] at he
      generalize gs[i] = g at hgd hgs he
      obtain ⟨kd, le, ri⟩ := g
      simp only [GGuard.size] at hgs
      have h1 := implValid_sat le (by omega)
      have h2 := implValid_sat ri (by omega)
      have h3 := implGuardKind_sat kd
      have h4 := implSortOf_sat sg hk vs hv le (by omega)
      have h5 := implSortOf_sat sg hk vs hv ri (by omega)
      have h6 := implWithin_sat le (by omega) names hn
      have h7 := implWithin_sat ri (by omega) names hn
      obtain ⟨rest, hre⟩ : ∃ rest, rest = (gs.drop (i + 1)).all (guardI sg vs names) := ⟨_, rfl⟩
      rw [← hre] at he
      unfold guardI at he
      simp only at he
      generalize guardK kd = b3 at h3 he
      generalize le.valid = b1 at h1 he
      generalize ri.valid = b2 at h2 he
      generalize le.sort sg vs = q1 at h4 he
      generalize ri.sort sg vs = q2 at h5 he
      generalize le.vars.all (hasS names) = b4 at h6 he
      generalize ri.vars.all (hasS names) = b5 at h7 he
      obtain ⟨lk, ln, ls, lt⟩ := le
      obtain ⟨rk, rn, rs, rt⟩ := ri
      simp only [GGuard.enc, Tm.enc, encI, List.cons_append, List.nil_append] at hgd
      simp -implicitDefEqProofs (disch := omega) only [go_sem, hgd, hlt, List.length_map]
      refine CallK.mk h3 ?_
      simp -implicitDefEqProofs (disch := omega) only [go_sem, hgd, hlt, List.length_map]
      refine ⟨fun k3 => CallK.mk h1 ?_, fun k3 => by rw [← he, k3]; simp⟩
      simp -implicitDefEqProofs (disch := omega) only [go_sem, hgd, hlt, List.length_map]
      refine ⟨fun k1 => CallK.mk h2 ?_, fun k1 => by rw [← he, k1]; simp⟩
      simp -implicitDefEqProofs (disch := omega) only [go_sem, hgd, hlt, List.length_map]
      refine ⟨fun k2 => CallK.mk h6 ?_, fun k2 => by rw [← he, k2]; simp⟩
      simp -implicitDefEqProofs (disch := omega) only [go_sem, hgd, hlt, List.length_map]
      refine ⟨fun k4 => CallK.mk h7 ?_, fun k4 => by rw [← he, k4]; simp⟩
      simp -implicitDefEqProofs (disch := omega) only [go_sem, hgd, hlt, List.length_map]
      refine ⟨fun k5 => by rw [← he, k5]; simp, fun k5 => CallK.mk h4 ?_⟩
      simp -implicitDefEqProofs (disch := omega) only [go_sem, hgd, hlt, List.length_map]
      refine CallK.mk h5 ?_
      simp -implicitDefEqProofs (disch := omega) only [go_sem, hgd, hlt, List.length_map]
      rw [k1, k2, k3, k4, k5] at he
      simp only [Bool.true_and, eqS, sE, sWord] at he
      refine ⟨fun k6 => ⟨fun k7 => ⟨fun k8 => ⟨fun k9 => ?_, fun k9 => ⟨i + 1, ⟨hlt, ?_⟩, by omega, le_mk (by simp [go_sem]) (by simp [go_sem])⟩⟩, fun k8 => ⟨i + 1, ⟨hlt, ?_⟩, by omega, le_mk (by simp [go_sem]) (by simp [go_sem])⟩⟩, fun k7 => ?_⟩, fun k6 => ?_⟩
      all_goals grind
    · have : i = gs.length := by omega
      subst this
      rw [List.drop_length] at he
      have he : true = r := he
      rw [← he]
      simp -implicitDefEqProofs (disch := omega) only [go_sem, Nat.lt_irrefl, List.length_map, Bool.true_and]
      rw [Bool.eq_iff_iff]; simp
      omega
theorem hasS_mem (xs : List ByteArray) (s : ByteArray) : hasS xs s = true ↔ s ∈ xs := by
  simp only [hasS, List.any_eq_true]
  exact ⟨fun ⟨x, h1, h2⟩ => (eqS_eq x s).1 h2 ▸ h1, fun h => ⟨s, h, (eqS_eq s s).2 rfl⟩⟩
theorem wout_sort (xs ys : List ByteArray) : ((wout (sortN xs) (sortN ys)).length == 0) = xs.all (hasS ys) := by
  rw [wout_nil, Bool.eq_iff_iff, List.all_eq_true, List.all_eq_true]
  simp only [hasS_mem, sortN_mem]
theorem specRule_sat (sg : GSignature) (hk : opOk sg) (x : GRule) (hx : x.size < 30000000) : Sat Tryz.prog 171 [aggV sg.enc, aggV x.enc] (boolV (ruleB sg x)) := by
  obtain ⟨na, le, ri, gu⟩ := x
  simp only [GRule.size, szS] at hx
  have hgl := len_szL GGuard.size gu
  have hgm := szL_mem GGuard.size gu
  have h1 := specIsName_sat na (by omega)
  have h2 := specValid_sat le (by omega)
  have h3 := specValid_sat ri (by omega)
  have h4 := specBi_sat le (by omega)
  have h5 := specFindOp_sat sg le.name hk
  obtain ⟨o, ho⟩ : ∃ o, o = (findOp sg le.name).getD opD := ⟨_, rfl⟩
  rw [← ho] at h5
  have h6 := specInferVars_sat sg hk le (by omega) o.re
  have hcs := cnt_size le
  have hvl : (inferV sg le o.re).1.length < 100000000 := by
    have := inf_len sg le o.re []
    simp only [List.length_nil] at this
    unfold inferV
    split
    · simp only; omega
    · simp
  have h7 := specSortOf_sat sg hk (inferV sg le o.re).1 hvl ri (by omega)
  have h8 := specVarsOf_sat le (by omega)
  have h9 := specVarsOf_sat ri (by omega)
  have hv1 := vars_len le
  have hv2 := vars_len ri
  have hs1 := sortN_len le.vars
  have hs2 := sortN_len ri.vars
  have h10 := specWithout_sat (sortN ri.vars) (sortN le.vars) (by omega) (by omega)
  have hw := wout_sort ri.vars le.vars
  have h11 := fun g hg => specGuard_sat sg hk (inferV sg le o.re).1 hvl g (by have := hgm g hg; omega)
  obtain ⟨r, hr⟩ : ∃ r, r = ruleB sg ⟨na, le, ri, gu⟩ := ⟨_, rfl⟩
  rw [← hr]
  unfold ruleB at hr
  simp only [← ho] at hr
  have hlk : le.kind = le.kind := rfl
  generalize isNm na = b1 at h1 hr
  generalize le.valid = b2 at h2 hr
  generalize ri.valid = b3 at h3 hr
  generalize le.bi = b4 at h4 hr
  generalize inferV sg le o.re = iv at h6 hvl h7 h11 hr
  generalize ri.sort sg iv.1 = q at h7 hr
  rw [← hw] at hr
  have hwl : (wout (sortN ri.vars) (sortN le.vars)).length < 100000000 := by have := wout_len (sortN ri.vars) (sortN le.vars); omega
  generalize wout (sortN ri.vars) (sortN le.vars) = ws at h10 hr hwl
  generalize sortN le.vars = v1 at h8 h10
  generalize sortN ri.vars = v2 at h9 h10
  have hse : sg.enc = [.sl (sg.so.map encS), .sl (sg.op.map GOp.enc)] := rfl
  obtain ⟨lk, ln, ls, lt⟩ := le
  obtain ⟨rk, rn, rs, rt⟩ := ri
  obtain ⟨ona, oar, ore⟩ := o
  simp only [Tm.kind, Tm.name] at hr h5 h6
  refine sat_of_code tbOk mixed Tryz.func171 rfl rfl rfl (by decide +kernel) (by decide +kernel) (Nat.le_of_ble_eq_true rfl) ?_
  simp -implicitDefEqProofs (disch := omega) only [go_sem, GRule.enc, Tm.enc, encI, encS, encL, hse, List.cons_append, List.nil_append]
  refine CallK.mk h1 ?_
  simp -implicitDefEqProofs (disch := omega) only [go_sem, List.length_map]
  refine ⟨fun k1 => CallK.mk h2 ?_, fun k1 => by rw [hr, k1]; simp⟩
  simp -implicitDefEqProofs (disch := omega) only [go_sem, List.length_map]
  refine ⟨fun k2 => CallK.mk h3 ?_, fun k2 => by rw [hr, k2]; simp⟩
  simp -implicitDefEqProofs (disch := omega) only [go_sem, List.length_map]
  refine ⟨fun k3 => ⟨fun k4 => CallK.mk h4 ?_, fun k4 => by rw [hr]; simp [k4]⟩, fun k3 => by rw [hr, k3]; simp⟩
  have k4 : lk = 2 := by simpa using k4
  subst k4
  simp -implicitDefEqProofs (disch := omega) only [go_sem, List.length_map]
  refine ⟨fun k5 => ⟨fun k6 => by rw [hr, (by simp; omega : decide (gu.length ≤ 2) = false)]; simp, fun k6 => ?_⟩, fun k5 => by rw [hr, k5]; simp⟩
  have hr : r = (iv.2 && eqS q ore && (ws.length == 0) && gu.all (guardS sg iv.1)) := by
    rw [hr, k1, k2, k3, k5, (by simp; omega : decide (gu.length ≤ 2) = true)]; simp
  refine CallK.mk h5 ?_
  simp -implicitDefEqProofs (disch := omega) only [go_sem, GOp.enc, encS, encL, List.cons_append, List.nil_append]
  refine CallK.mk h6 ?_
  simp -implicitDefEqProofs (disch := omega) only [go_sem, List.length_map]
  refine ⟨fun k7 => CallK.mk h7 ?_, fun k7 => by rw [hr, k7]; rfl⟩
  simp -implicitDefEqProofs (disch := omega) only [go_sem, List.length_map]
  refine ⟨fun k8 => CallK.mk h9 ?_, fun k8 => ?_⟩
  · simp -implicitDefEqProofs (disch := omega) only [go_sem, List.length_map]
    refine CallK.mk h8 ?_
    simp -implicitDefEqProofs (disch := omega) only [go_sem, List.length_map]
    refine CallK.mk h10 ?_
    simp -implicitDefEqProofs (disch := omega) only [go_sem, List.length_map]
    have k8' : eqS q ore = true := by simpa [eqS] using k8
    refine ⟨fun k9 => by rw [hr, (by rw [beq_eq_false_iff_ne]; omega : (ws.length == 0) = false)]; simp, fun k9 => ?_⟩
    have hr : r = gu.all (guardS sg iv.1) := by rw [hr, k7, k8', (by rw [beq_iff_eq]; omega : (ws.length == 0) = true)]; simp
    refine loopA_rule (ι := Nat) (fun i => mk 99 [(2, .one (.ptr 2 0)), (3, .one (.ptr 3 0)), (7, slV (iv.1.map GVarSort.enc)), (9, intV i)] [(2, .var [.c (.sl (sg.so.map encS)), .c (.sl (sg.op.map GOp.enc))]), (3, .var [sC na, iC 2, iC ln, sC ls, tC lt, iC rk, iC rn, sC rs, tC rt, .c (.sl (gu.map GGuard.enc))])]) (fun i => i ≤ gu.length ∧ (gu.drop i).all (guardS sg iv.1) = r) (fun i => gu.length - i) 0 ⟨Nat.zero_le _, by simp [hr]⟩ ?_ tbOk mixed (by decide +kernel) ?_
    · exact le_mk (by simp [go_sem]) (by simp [go_sem])
    · rintro i ⟨hi, he⟩
      rcases Nat.lt_or_ge i gu.length with hlt | hge
      · have hgd := map_getD (ec := GGuard.enc) hlt
        have hgs := h11 _ (List.getElem_mem hlt)
        rw [all_drop _ gu i hlt] at he
        obtain ⟨rest, hre⟩ : ∃ rest, rest = (gu.drop (i + 1)).all (guardS sg iv.1) := ⟨_, rfl⟩
        rw [← hre] at he
        generalize guardS sg iv.1 gu[i] = b at hgs he
        generalize gu[i] = g at hgd hgs
        obtain ⟨kd, ⟨gk, gn, gs, gt⟩, ⟨hk2, hn2, hs2, ht2⟩⟩ := g
        simp only [GGuard.enc, Tm.enc, encI, List.cons_append, List.nil_append] at hgd
        simp -implicitDefEqProofs (disch := omega) only [go_sem, hgd, hlt, List.length_map]
        refine CallK.mk hgs ?_
        simp -implicitDefEqProofs (disch := omega) only [go_sem, hgd, hlt, List.length_map]
        exact ⟨fun k => by rw [← he, k]; rfl, fun k => ⟨i + 1, ⟨hlt, by rw [← he, k, ← hre]; rfl⟩, by omega, le_mk (by simp [go_sem]) (by simp [go_sem])⟩⟩
      · have : i = gu.length := by omega
        subst this
        rw [List.drop_length] at he
        have he : true = r := he
        simp -implicitDefEqProofs (disch := omega) only [go_sem, Nat.lt_irrefl, List.length_map]
        exact he
  · have k8' : eqS q ore = false := k8
    rw [hr, k8']; simp
/-- As the program has it: the guards' variables are asked for besides. -/
def ruleI (sg : GSignature) (r : GRule) : Bool :=
  isNm r.na && r.le.valid && (r.le.kind == 2) && !r.le.bi && r.ri.valid && (findOp sg r.le.name).isSome &&
  (inferV sg r.le ((findOp sg r.le.name).getD opD).re).2 && eqS (r.ri.sort sg (inferV sg r.le ((findOp sg r.le.name).getD opD).re).1) ((findOp sg r.le.name).getD opD).re &&
  r.ri.vars.all (hasS r.le.vars) && (r.gu.all (guardI sg (inferV sg r.le ((findOp sg r.le.name).getD opD).re).1 r.le.vars) && decide (r.gu.length ≤ 2))
theorem implRule_sat (sg : GSignature) (hk : opOk sg) (x : GRule) (hx : x.size < 30000000) : Sat Tryz.prog 187 [aggV sg.enc, aggV x.enc] (boolV (ruleI sg x)) := by
  obtain ⟨na, le, ri, gu⟩ := x
  simp only [GRule.size, szS] at hx
  have hgl := len_szL GGuard.size gu
  have hgm := szL_mem GGuard.size gu
  have h1 := implIsName_sat na (by omega)
  have h2 := implValid_sat le (by omega)
  have h3 := implValid_sat ri (by omega)
  have h4 := implLacks_sat le (by omega)
  have h5 := implFindOp_sat sg le.name hk
  obtain ⟨o, ho⟩ : ∃ o, o = (findOp sg le.name).getD opD := ⟨_, rfl⟩
  rw [← ho] at h5
  have h6 := implInferVars_sat sg hk le (by omega) o.re
  have hcs := cnt_size le
  have hvl : (inferV sg le o.re).1.length < 100000000 := by
    have := inf_len sg le o.re []
    simp only [List.length_nil] at this
    unfold inferV
    split
    · simp only; omega
    · simp
  have h7 := implSortOf_sat sg hk (inferV sg le o.re).1 hvl ri (by omega)
  have hv1 := vars_len le
  have hv2 := vars_len ri
  have h8 := namesIn_sat le (by omega)
  have h9 := implWithin_sat ri (by omega) le.vars (by omega)
  have h10 := implGuards_sat sg hk (inferV sg le o.re).1 hvl le.vars (by omega) gu (by omega) (fun g hg => by have := hgm g hg; omega)
  obtain ⟨r, hr⟩ : ∃ r, r = ruleI sg ⟨na, le, ri, gu⟩ := ⟨_, rfl⟩
  rw [← hr]
  unfold ruleI at hr
  simp only [← ho] at hr
  generalize isNm na = b1 at h1 hr
  generalize le.valid = b2 at h2 hr
  generalize ri.valid = b3 at h3 hr
  generalize le.bi = b4 at h4 hr
  generalize (findOp sg le.name).isSome = b5 at h5 hr
  generalize inferV sg le o.re = iv at h6 hvl h7 h10 hr
  generalize ri.sort sg iv.1 = q at h7 hr
  generalize ri.vars.all (hasS le.vars) = b6 at h9 hr
  generalize (gu.all (guardI sg iv.1 le.vars) && decide (gu.length ≤ 2)) = b7 at h10 hr
  generalize le.vars = v1 at h8 h9 h10
  have hse : sg.enc = [.sl (sg.so.map encS), .sl (sg.op.map GOp.enc)] := rfl
  obtain ⟨lk, ln, ls, lt⟩ := le
  obtain ⟨rk, rn, rs, rt⟩ := ri
  obtain ⟨ona, oar, ore⟩ := o
  simp only [Tm.kind, Tm.name] at hr h5 h6
  refine sat_of_code tbOk mixed Tryz.func187 rfl rfl rfl (by decide +kernel) (by decide +kernel) (Nat.le_of_ble_eq_true rfl) ?_
  simp -implicitDefEqProofs (disch := omega) only [go_sem, GRule.enc, Tm.enc, encI, encS, encL, hse, List.cons_append, List.nil_append]
  refine CallK.mk h1 ?_
  simp -implicitDefEqProofs (disch := omega) only [go_sem, List.length_map]
  refine ⟨fun k1 => CallK.mk h2 ?_, fun k1 => by rw [hr, k1]; simp⟩
  simp -implicitDefEqProofs (disch := omega) only [go_sem, List.length_map]
  refine ⟨fun k2 => ⟨fun k4 => CallK.mk h4 ?_, fun k4 => by rw [hr]; simp [k4]⟩, fun k2 => by rw [hr, k2]; simp⟩
  have k4 : lk = 2 := by simpa using k4
  subst k4
  simp -implicitDefEqProofs (disch := omega) only [go_sem, List.length_map]
  refine ⟨fun k5 => CallK.mk h3 ?_, fun k5 => by rw [hr, k5]; simp⟩
  simp -implicitDefEqProofs (disch := omega) only [go_sem, List.length_map]
  refine ⟨fun k3 => by rw [hr, k3]; simp, fun k3 => CallK.mk h5 ?_⟩
  simp -implicitDefEqProofs (disch := omega) only [go_sem, GOp.enc, encS, encL, List.cons_append, List.nil_append]
  refine ⟨fun k6 => by rw [hr, k6]; simp, fun k6 => CallK.mk h6 ?_⟩
  simp -implicitDefEqProofs (disch := omega) only [go_sem, List.length_map]
  refine CallK.mk h8 ?_
  have hr : r = (iv.2 && eqS q ore && b6 && b7) := by rw [hr, k1, k2, k3, k5, k6]; simp
  simp -implicitDefEqProofs (disch := omega) only [go_sem, List.length_map]
  refine ⟨fun k7 => CallK.mk h7 ?_, fun k7 => by rw [hr, k7]; rfl⟩
  simp -implicitDefEqProofs (disch := omega) only [go_sem, List.length_map]
  refine ⟨fun k8 => CallK.mk h9 ?_, fun k8 => ?_⟩
  · have k8' : eqS q ore = true := by simpa [eqS] using k8
    simp -implicitDefEqProofs (disch := omega) only [go_sem, List.length_map]
    refine ⟨fun k9 => by rw [hr, k9]; simp, fun k9 => CallK.mk h10 ?_⟩
    simp -implicitDefEqProofs (disch := omega) only [go_sem, List.length_map]
    rw [hr, k7, k8', k9]; rfl
  · have k8' : eqS q ore = false := k8
    rw [hr, k8']; simp
end Go.Ai
