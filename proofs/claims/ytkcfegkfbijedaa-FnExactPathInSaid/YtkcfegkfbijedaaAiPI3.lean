/- The law on PathIn. Written by mk35.py. -/
import Derived.Test.YtkcfegkfbijedaaAiPI2
import Derived.Test.YtkcfegkfbijedaaAiX2
namespace Go.Ai
set_option linter.unusedVariables false
set_option linter.unusedSimpArgs false
open Go.Proofs Go.RowKit
set_option maxRecDepth 100000

theorem eqRedexS_sat (xs : List GRedex) (hw : wfL GRedex.wf xs) (ys : List GRedex) : Sat Try.prog 8 [slV (xs.map GRedex.enc), slV (ys.map GRedex.enc)] (boolV (eqL GRedex.eqb xs ys)) := by
  have hl := hw.1
  simp only [maxLen] at hl
  refine sat_of_code tbOk mixed Try.func8 rfl rfl rfl (by decide +kernel) (by decide +kernel) (Nat.le_of_ble_eq_true rfl) ?_
  simp -implicitDefEqProofs (disch := omega) only [go_sem]
  refine ⟨fun h4 => ?_, fun h4 => ?_⟩
  · rw [eqL_len GRedex.eqb xs ys (by omega)]
  · have hll : xs.length = ys.length := by simp at h4; omega
    refine loopA_rule (ι := Nat) (fun i => mk 27 [(0, slV (xs.map GRedex.enc)), (1, slV (ys.map GRedex.enc)), (5, intV i)] [])
      (fun i => i ≤ xs.length ∧ eqL GRedex.eqb (xs.drop i) (ys.drop i) = eqL GRedex.eqb xs ys) (fun i => xs.length - i) 0 ⟨Nat.zero_le _, by simp⟩ ?_ tbOk mixed (by decide +kernel) ?_
    · exact le_mk (by simp [go_sem]) (by simp [go_sem])
    · rintro i ⟨hi, he⟩
      rcases Nat.lt_or_ge i xs.length with hlt | hge
      · have hlt' : i < ys.length := by omega
        have hg := map_getD (ec := GRedex.enc) hlt
        have hg' := map_getD (ec := GRedex.enc) hlt'
        rw [eqL_drop GRedex.eqb xs ys i hlt hlt'] at he
        have hx := hw.2 _ (List.getElem_mem hlt)
        generalize xs[i] = x at hg he hx
        generalize ys[i] = y at hg' he
        simp -implicitDefEqProofs (disch := omega) only [go_sem, hg, hg', hlt, hlt']
        refine CallK.mk (eqRedex_sat x hx y) ?_
        simp -implicitDefEqProofs (disch := omega) only [go_sem]
        refine ⟨fun h => ?_, fun h => ⟨i + 1, ⟨hlt, ?_⟩, by omega, le_mk (by simp [go_sem]) (by simp [go_sem])⟩⟩
        · rw [h] at he; simpa using he
        · rw [h] at he; simpa using he
      · have e1 : xs.drop i = [] := List.drop_of_length_le hge
        have e2 : ys.drop i = [] := List.drop_of_length_le (by omega)
        rw [e1, e2] at he
        simp -implicitDefEqProofs (disch := omega) only [go_sem, Nat.not_lt.2 hge]
        rw [← he]; rfl

theorem markRedexS_nil (k : Int) : Sat Try.prog 11 [slV [], intV k] (intV k) := by
  refine sat_of_code tbOk mixed Try.func11 rfl rfl rfl (by decide +kernel) (by decide +kernel) (Nat.le_of_ble_eq_true rfl) ?_
  simp -implicitDefEqProofs (disch := omega) only [go_sem]
  refine loopA_rule (ι := Unit) (fun _ => mk 27 [(0, slV []), (1, intV k), (5, intV 0)] []) (fun _ => True) (fun _ => 0) () trivial ?_ tbOk mixed (by decide +kernel) ?_
  · exact le_mk (by simp [go_sem]) (by simp [go_sem])
  · intro _ _
    simp -implicitDefEqProofs (disch := omega) only [go_sem]
    intro h; omega
theorem markRedexS_sat (xs : List GRedex) (hw : wfL GRedex.wf xs) (k : Int) (h0 : 0 ≤ k) (h1 : (mkRows (xs.map GRedex.enc) k).2 ≤ 100000000) : SatM Try.prog 11 [.one (.m (.sl (xs.map GRedex.enc))), intV k] [.one (.m (.sl (mkRows (xs.map GRedex.enc) k).1)), intV k] (intV (mkRows (xs.map GRedex.enc) k).2) := by
  have hl := hw.1
  cases hx : xs with
  | nil => simpa [mkRows] using satM_nil (rest := [intV k]) rfl rfl (markRedexS_nil k)
  | cons x0 xs0 =>
    rw [← hx]
    simp only [maxLen] at hl
    obtain ⟨rows, hrows⟩ : ∃ rows, rows = xs.map GRedex.enc := ⟨_, rfl⟩
    have lr : rows.length = xs.length := by rw [hrows]; simp
    rw [← hrows] at h1 ⊢
    refine satM_slice 9001 2 tbOk mixed Try.func11 rfl rfl rfl (by decide +kernel) (by decide +kernel) (Nat.le_of_ble_eq_true rfl) rfl rfl (by rw [hrows, hx]; simp) (by rw [hrows]; simp [GRedex.enc_len]) (fun e => ?_)
    simp -implicitDefEqProofs (disch := omega) only [go_sem]
    obtain ⟨G, hG⟩ : ∃ G, G = rows.map fun q => q.map mC := ⟨_, rfl⟩
    obtain ⟨Fr, hFr⟩ : ∃ Fr, Fr = (mkRows rows k).1.map fun q => q.map mC := ⟨_, rfl⟩
    have lG : G.length = rows.length := by rw [hG]; simp
    have lF : Fr.length = G.length := by rw [hFr, lG]; simp [mkRows_len]
    have iF : ∀ lb r, r ∈ Fr → ∀ a, a ∈ r → inC lb a := fun lb => by rw [hFr]; exact mrows_in lb
    have iG : ∀ lb r, r ∈ G → ∀ a, a ∈ r → inC lb a := fun lb => by rw [hG]; exact mrows_in lb
    have nF : noD Fr = true := by rw [hFr]; exact mrows_noD
    have nG : noD G = true := by rw [hG]; exact mrows_noD
    rw [← hG]
    refine loopW_rule (ι := Nat) (fun i => mk 27 [(0, .one (.own 9001 rows.length)), (1, intV (kAt rows k i)), (5, intV i)] [(9001, .arr e 2 (turnR Fr G i) false)] [.one (.own 9001 rows.length)]) (fun i => i ≤ rows.length) (fun i => rows.length - i) 0 (Nat.zero_le _) ?_ tbOk mixed (by decide +kernel) ?_
    · exact le_mk (by simp [go_sem, kAt_zero]) (by simp only [leB, lookB_cons, if_true, inB, turnR_zero, true_and, and_true]; exact iG _)
    · intro i hi
      have hlen := turnR_len (i := i) lF (by omega)
      rcases Nat.lt_or_ge i rows.length with hlt | hge
      · have hi' : i < G.length := by omega
        obtain ⟨hm, eM, eK⟩ := mkRows_at rows k i hlt
        have hb1 := kAt_cnt rows k i
        have hb2 := cntRows_get rows i hlt
        have hb3 := mkRows_cnt rows k
        have hb4 := mkCells_cnt rows[i] (kAt rows k i)
        have ex : rows[i] = GRedex.enc (xs[i]'(by omega)) := by simp [hrows]
        have hw' := hw.2 _ (List.getElem_mem (show i < xs.length by omega))
        generalize xs[i]'(by omega) = x at ex hw'
        obtain ⟨xru, xps⟩ := x
        simp only [GRedex.wf] at hw'
        rw [ex] at eM eK hb2 hb4
        simp only [GRedex.enc, Tm.enc, encB, encI, encL, encS, List.cons_append, List.nil_append, List.append_nil, mkCells, mkC] at eM eK hb2 hb4
        generalize hK : kAt rows k i = K at eM eK hb1 hb4
        have hKn : 0 ≤ K := by omega
        have hc1 := mkRows_cnt (xps.map encI) (K + 1)
        have eG : G[i] = [iC xru, .m (.sl (xps.map encI))] := by simp [hG, ex, GRedex.enc, Tm.enc, encB, encI, encL, encS, List.cons_append, List.nil_append, List.append_nil, mC]
        have eF : Fr[i]'(by omega) = [iC K, .m (.sl (mkRows (xps.map encI) (K + 1)).1)] := by simp [hFr, eM, mC]
        have hfin := turnS_turnR lF hi'
        rw [eF] at hfin
        have sl := fun r => turnS_len lF hi' r
        have sg := fun r => turnS_get lF hi' r
        rw [turnR_eq lF hi' eG]
        refine ⟨_, (wk_takeS (l := 9001) (T := 9101) (c := 1) lF hi' rfl rfl rfl (by exact turnS_noD nF nG rfl)), ?_⟩
        simp -implicitDefEqProofs (disch := omega) only [go_sem, sl, sg, turnS_set, lG, hlt, List.forall_mem_cons, List.not_mem_nil, Tm.args]
        refine CallK.mut (markIntS_sat xps hw'.2 (K + 1) (by omega) (by omega)) ?_
        simp -implicitDefEqProofs (disch := omega) only [go_sem, sl, sg, turnS_set, lG, hlt, List.forall_mem_cons, List.not_mem_nil, Tm.args]
        refine ⟨i + 1, hlt, by omega, ((wk_giveS (l := 9001) (T := 9101) (c := 1) lF hi' rfl rfl rfl).trans (le_mk (by simp [go_sem, eK]) ?_))⟩
        simp only [leB, lookB_cons, if_true, inB, true_and, and_true]
        exact ⟨by rw [← hfin] <;> rfl, turnR_in (iF _) (iG _)⟩
      · have : i = rows.length := by omega
        subst this
        refine ⟨_, Wk.refl _, ?_⟩
        simp -implicitDefEqProofs (disch := omega) only [go_sem, hlen, lG, Nat.lt_irrefl, kAt_all]
        exact turnedRow_mk rfl (by rw [turnR_end lF lG.symm, hFr]) (by rw [mkRows_len]) rfl

theorem heldRedexS_sat (xs : List GRedex) (hw : wfL GRedex.wf xs) (k : Int) (h0 : 0 ≤ k) (h1 : (mkRows (xs.map GRedex.enc) k).2 ≤ 100000000) : Sat Try.prog 12 [slV (mkRows (xs.map GRedex.enc) k).1, intV k] (intV (mkRows (xs.map GRedex.enc) k).2) := by
  have hl := hw.1
  simp only [maxLen] at hl
  obtain ⟨rows, hrows⟩ : ∃ rows, rows = xs.map GRedex.enc := ⟨_, rfl⟩
  have lr : rows.length = xs.length := by rw [hrows]; simp
  rw [← hrows] at h1 ⊢
  have lM := mkRows_len rows k
  obtain ⟨M, hM⟩ : ∃ M, M = (mkRows rows k).1 := ⟨_, rfl⟩
  rw [← hM] at lM ⊢
  refine sat_of_code tbOk mixed Try.func12 rfl rfl rfl (by decide +kernel) (by decide +kernel) (Nat.le_of_ble_eq_true rfl) ?_
  simp -implicitDefEqProofs (disch := omega) only [go_sem]
  refine loopA_rule (ι := Nat) (fun i => mk 31 [(0, slV M), (1, intV (kAt rows k i)), (5, intV i)] []) (fun i => i ≤ rows.length) (fun i => rows.length - i) 0 (Nat.zero_le _) ?_ tbOk mixed (by decide +kernel) ?_
  · exact le_mk (by simp [go_sem, kAt_zero]) (by simp [go_sem])
  · intro i hi
    rcases Nat.lt_or_ge i rows.length with hlt | hge
    · obtain ⟨hm, eM, eK⟩ := mkRows_at rows k i hlt
      have hb1 := kAt_cnt rows k i
      have hb2 := cntRows_get rows i hlt
      have hb3 := mkRows_cnt rows k
      have hb4 := mkCells_cnt rows[i] (kAt rows k i)
      have ex : rows[i] = GRedex.enc (xs[i]'(by omega)) := by simp [hrows]
      have hw' := hw.2 _ (List.getElem_mem (show i < xs.length by omega))
      generalize xs[i]'(by omega) = x at ex hw'
      obtain ⟨xru, xps⟩ := x
      simp only [GRedex.wf] at hw'
      rw [ex] at eM eK hb2 hb4
      simp only [GRedex.enc, Tm.enc, encB, encI, encL, encS, List.cons_append, List.nil_append, List.append_nil, mkCells, mkC] at eM eK hb2 hb4
      generalize hK : kAt rows k i = K at eM eK hb1 hb4
      have hKn : 0 ≤ K := by omega
      have hc1 := mkRows_cnt (xps.map encI) (K + 1)
      have hg : M.getD i [] = [.v (.int .i64 K), .sl (mkRows (xps.map encI) (K + 1)).1] := by
        rw [hM, List.getD_eq_getElem?_getD, List.getElem?_eq_getElem hm, eM]; rfl
      have hlt2 : i < M.length := by omega
      simp -implicitDefEqProofs (disch := omega) only [go_sem, hg, hlt, lM, hlt2]
      refine CallK.bor (heldIntS_sat xps hw'.2 (K + 1) (by omega) (by omega)) rfl ?_
      simp -implicitDefEqProofs (disch := omega) only [go_sem, hg, hlt, lM, hlt2, Tm.args]
      refine ⟨fun h => by omega, fun _ => ?_⟩
      exact ⟨i + 1, hlt, by omega, le_mk (by simp [go_sem, eK]) (by simp [go_sem])⟩
    · have : i = rows.length := by omega
      subst this
      simp -implicitDefEqProofs (disch := omega) only [go_sem, lM, Nat.lt_irrefl, kAt_all]

theorem moveTo_szL : ∀ (ms : List GMove) (lo to : Int) (m : GMove), lo < to → moveTo to ms = some m → szL GMove.size (ms.filter fun m => decide (m.tg ≤ lo)) + (1 + m.size) ≤ szL GMove.size (ms.filter fun m => decide (m.tg ≤ to))
  | [], _, _, _, _, h => by cases h
  | a :: ms, lo, to, m, hlt, h => by
    simp only [moveTo] at h
    have mono : ∀ (l : List GMove), szL GMove.size (l.filter fun m => decide (m.tg ≤ lo)) ≤ szL GMove.size (l.filter fun m => decide (m.tg ≤ to)) := by
      intro l
      induction l with
      | nil => simp
      | cons b l ih =>
        by_cases h1 : b.tg ≤ lo
        · rw [List.filter_cons_of_pos (by simpa using h1), List.filter_cons_of_pos (by simp; omega)]
          simp only [szL]; omega
        · rw [List.filter_cons_of_neg (by simpa using h1)]
          by_cases h2 : b.tg ≤ to
          · rw [List.filter_cons_of_pos (by simpa using h2)]
            simp only [szL]; omega
          · rw [List.filter_cons_of_neg (by simpa using h2)]; exact ih
    split at h
    · rename_i hc
      cases h
      have hc : a.tg = to := by simpa using hc
      rw [List.filter_cons_of_neg (by simp; omega), List.filter_cons_of_pos (by simp; omega)]
      have := mono ms
      simp only [szL]; omega
    · have ih := moveTo_szL ms lo to m hlt h
      by_cases h1 : a.tg ≤ lo
      · rw [List.filter_cons_of_pos (by simpa using h1), List.filter_cons_of_pos (by simp; omega)]
        simp only [szL]; omega
      · rw [List.filter_cons_of_neg (by simpa using h1)]
        by_cases h2 : a.tg ≤ to
        · rw [List.filter_cons_of_pos (by simpa using h2)]
          simp only [szL]; omega
        · rw [List.filter_cons_of_neg (by simpa using h2)]; exact ih
theorem szL_filter (ms : List GMove) (p : GMove → Bool) : szL GMove.size (ms.filter p) ≤ szL GMove.size ms := by
  induction ms with
  | nil => simp
  | cons a ms ih =>
    rw [List.filter_cons]
    split <;> simp only [szL] <;> omega
theorem back_ok (ms : List GMove) : ∀ (n : Nat) (to : Int) (l : List GRedex), back ms n to = some l → szL GRedex.size l ≤ szL GMove.size (ms.filter fun m => decide (m.tg ≤ to)) ∧ ∀ y, y ∈ l → ∃ m, m ∈ ms ∧ y = m.re
  | 0, to, l, h => by
    simp only [back] at h
    split at h
    · cases h; exact ⟨by simp [szL], fun _ h => by cases h⟩
    · cases h
  | n + 1, to, l, h => by
    simp only [back] at h
    split at h
    · cases h; exact ⟨by simp [szL], fun _ h => by cases h⟩
    · cases hm : moveTo to ms with
      | none => rw [hm] at h; cases h
      | some m =>
        rw [hm] at h
        simp only at h
        split at h
        · cases h
        · cases hb : back ms n m.fr with
          | none => rw [hb] at h; cases h
          | some l' =>
            rw [hb] at h
            cases h
            obtain ⟨h1, h2⟩ := back_ok ms n m.fr l' hb
            have h3 := moveTo_szL ms m.fr to m (by omega) hm
            have h4 : m.re.size ≤ m.size := by simp only [GMove.size]; omega
            refine ⟨by simp only [szL]; omega, fun y hy => ?_⟩
            rcases List.mem_cons.1 hy with rfl | hy
            · exact ⟨m, (moveTo_tg to ms m hm).2, rfl⟩
            · exact h2 y hy
theorem szL_app {α : Type} (f : α → Nat) : ∀ (a b : List α), szL f (a ++ b) = szL f a + szL f b
  | [], b => by simp [szL]
  | x :: a, b => by simp only [List.cons_append, szL, szL_app f a b]; omega
theorem szL_rev {α : Type} (f : α → Nat) : ∀ (a : List α), szL f a.reverse = szL f a
  | [] => rfl
  | x :: a => by simp only [List.reverse_cons, szL_app, szL_rev f a, szL]; omega
theorem path_ok (x : GSpace) (hw : x.wf) (hs : x.size < 1048577) (to : Int) : szL GRedex.size (outL (plus [] (pathB x to))) ≤ 1048577 ∧ wfL GRedex.wf (outL (plus [] (pathB x to))) := by
  have hz : szL GRedex.size (outL none) ≤ 1048577 ∧ wfL GRedex.wf (outL none) := ⟨by simp [outL, szL], ⟨by simp [outL], fun _ h => by simp [outL] at h⟩⟩
  unfold pathB
  split
  · cases hb : back x.mo to.toNat to with
    | none => exact hz
    | some l =>
      obtain ⟨h1, h2⟩ := back_ok x.mo to.toNat to l hb
      have h3 := szL_filter x.mo (fun m => decide (m.tg ≤ to))
      have h4 := len_szL GRedex.size l
      simp only [GSpace.size] at hs
      have e : outL (plus [] (some l)) = l.reverse := by simp [outL, plus]
      rw [e]
      refine ⟨by rw [szL_rev]; omega, by rw [List.length_reverse]; simp only [maxLen]; omega, fun y hy => ?_⟩
      obtain ⟨m, hm, rfl⟩ := h2 y (List.mem_reverse.1 hy)
      exact (hw.2.1.2 m hm).2.2
  · exact hz
theorem lawPathIn_sat (x : GSpace) (to : Int) (hw_x : GSpace.wf x) (hw_to : wfI to) : Sat Try.prog 3 [aggV x.enc, intV to] (boolV true) := by
  refine sat_of_code tbOk mixed Try.func3 rfl rfl rfl (by decide +kernel) (by decide +kernel) (Nat.le_of_ble_eq_true rfl) ?_
  simp -implicitDefEqProofs (disch := omega) only [go_sem]
  refine CallK.mk (szSpace_sat x hw_x 1048576 (by grind [szR]) (by grind [szR])) ?_
  simp -implicitDefEqProofs (disch := omega) only [go_sem]
  intro hz_x
  have hs_x : x.size < 1048577 := by grind [szR]
  have hok := path_ok x hw_x hs_x to
  have hxl := len_szL Tm.size x.te
  have hml := len_szL GMove.size x.mo
  have hs_x' := hs_x
  simp only [GSpace.size] at hs_x'
  have hpl : ∀ m, m ∈ x.mo → m.re.ps.length < 100000000 := fun m hm => by
    have := szL_mem GMove.size x.mo m hm
    simp only [GMove.size, GRedex.size, szL_int] at this
    omega
  have hsp := specPathIn_sat x (by omega) (by omega) hpl to
  have him := implPathIn_sat x (by omega) (by omega) hpl to
  obtain ⟨R0, hRe⟩ : ∃ R, R = outL (plus [] (pathB x to)) := ⟨_, rfl⟩
  obtain ⟨b0, hbe⟩ : ∃ b, b = (plus [] (pathB x to)).isSome := ⟨_, rfl⟩
  rw [← hRe] at hok hsp him
  rw [← hbe] at hsp him
  have hRw0 := hok.2
  have hRs0 : szL GRedex.size R0 ≤ 1500000 := by omega
  clear hok hRe hbe
  refine CallK.mk (toSpace_sat x hs_x) ?_
  simp -implicitDefEqProofs (disch := omega) only [go_sem, and_self]
  refine CallK.mk (hsp) ?_
  simp -implicitDefEqProofs (disch := omega) only [go_sem, and_self]
  have toX_x := toSpace_sat x hs_x
  have toF_x := toSpaceF_sat x hs_x
  have eqX_x := eqSpace_sat x hw_x x
  have reX_x := GSpace.eqb_refl x
  have hq_x : cntTop x.enc ≤ 64 * x.size + 64 := by
    have h1 := cntTop_le x.enc
    have h2 := cntCells_le x.enc (GSpace.nar x)
    rw [GSpace.csz] at h2
    have h3 := GSpace.enc_len x
    omega
  have implF := him
  have eqR_0 := eqRedexS_sat R0 hRw0 R0
  have reR_0 := (eqL_refl GRedex.eqb_refl) R0
  have hqR_0 : cntRows (R0.map GRedex.enc) ≤ 64 * (szL GRedex.size) R0 := by
    have h2 := cntRows_le (R0.map GRedex.enc) (narRows_map GRedex.enc (fun y => ⟨by rw [GRedex.enc_len]; omega, GRedex.nar y⟩) R0)
    rwa [cszRows_map GRedex.enc GRedex.size GRedex.csz] at h2
  obtain ⟨xte, xmo, xfu⟩ := x
  simp only [GSpace.enc, Tm.enc, encB, encI, encL, encS, List.cons_append, List.nil_append, List.append_nil, Tm.args, cntTop] at hq_x
  have hc_x_xte := mkRows_cnt (xte.map Tm.enc) 1
  have hc_x_xmo := mkRows_cnt (xmo.map GMove.enc) (mkRows (xte.map Tm.enc) 1).2
  have hcR_0_R0 := mkRows_cnt (R0.map GRedex.enc) 1
  refine CallK.own toF_x rfl ?_
  simp -implicitDefEqProofs (disch := omega) only [go_sem, GSpace.enc, Tm.enc, encB, encI, encL, encS, List.cons_append, List.nil_append, List.append_nil, Tm.args]
  refine CallK.own implF rfl ?_
  simp -implicitDefEqProofs (disch := omega) only [go_sem, GSpace.enc, Tm.enc, encB, encI, encL, encS, List.cons_append, List.nil_append, List.append_nil, Tm.args]
  refine CallK.bor eqR_0 rfl ?_
  simp -implicitDefEqProofs (disch := omega) only [go_sem, GSpace.enc, Tm.enc, encB, encI, encL, encS, List.cons_append, List.nil_append, List.append_nil, Tm.args, reR_0]
  refine CallK.mk toX_x ?_
  simp -implicitDefEqProofs (disch := omega) only [go_sem, GSpace.enc, Tm.enc, encB, encI, encL, encS, List.cons_append, List.nil_append, List.append_nil, Tm.args]
  refine CallK.bor eqX_x rfl ?_
  simp -implicitDefEqProofs (disch := omega) only [go_sem, GSpace.enc, Tm.enc, encB, encI, encL, encS, List.cons_append, List.nil_append, List.append_nil, Tm.args, reX_x]
  refine CallK.mut (markSpace_sat xte xmo xfu hw_x 1 (by omega) (by omega)) ?_
  simp -implicitDefEqProofs (disch := omega) only [go_sem, GSpace.enc, Tm.enc, encB, encI, encL, encS, List.cons_append, List.nil_append, List.append_nil, Tm.args]
  refine ⟨fun _ => ?_, fun h => by omega⟩
  refine CallK.bor eqR_0 rfl ?_
  simp -implicitDefEqProofs (disch := omega) only [go_sem, GSpace.enc, Tm.enc, encB, encI, encL, encS, List.cons_append, List.nil_append, List.append_nil, Tm.args, reR_0]
  refine CallK.mut (markRedexS_sat R0 hRw0 1 (by omega) (by omega)) ?_
  simp -implicitDefEqProofs (disch := omega) only [go_sem, GSpace.enc, Tm.enc, encB, encI, encL, encS, List.cons_append, List.nil_append, List.append_nil, Tm.args]
  refine CallK.bor (heldRedexS_sat R0 hRw0 1 (by omega) (by omega)) rfl ?_
  simp -implicitDefEqProofs (disch := omega) only [go_sem, GSpace.enc, Tm.enc, encB, encI, encL, encS, List.cons_append, List.nil_append, List.append_nil, Tm.args]
  refine ⟨fun h => by omega, fun _ => ?_⟩
  refine CallK.mk toX_x ?_
  simp -implicitDefEqProofs (disch := omega) only [go_sem, GSpace.enc, Tm.enc, encB, encI, encL, encS, List.cons_append, List.nil_append, List.append_nil, Tm.args]
  refine CallK.mk implF.sat ?_
  simp -implicitDefEqProofs (disch := omega) only [go_sem, GSpace.enc, Tm.enc, encB, encI, encL, encS, List.cons_append, List.nil_append, List.append_nil, Tm.args]
  refine CallK.bor eqR_0 rfl ?_
  simp -implicitDefEqProofs (disch := omega) only [go_sem, GSpace.enc, Tm.enc, encB, encI, encL, encS, List.cons_append, List.nil_append, List.append_nil, Tm.args, reR_0]
  refine CallK.bor (heldRedexS_sat R0 hRw0 1 (by omega) (by omega)) rfl ?_
  simp -implicitDefEqProofs (disch := omega) only [go_sem, GSpace.enc, Tm.enc, encB, encI, encL, encS, List.cons_append, List.nil_append, List.append_nil, Tm.args]
  first | (intro h; omega) | exact ⟨fun h => by omega, fun _ => trivial⟩
end Go.Ai
