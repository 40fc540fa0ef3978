/- Marks on terms. -/
import Derived.Test.YtdjleacnjijbjaaAiMarkC
namespace Go.Ai
set_option linter.unusedVariables false
set_option linter.unusedSimpArgs false
open Go.Proofs
set_option maxRecDepth 100000

theorem markTermS_nil (k : Int) : Sat Try.prog 71 [slV [], intV k] (intV k) := by
  refine sat_of_code tbOk mixed Try.func71 rfl rfl rfl (by decide +kernel) (by decide +kernel) (Nat.le_of_ble_eq_true rfl) ?_
  simp -implicitDefEqProofs (disch := omega) only [go_sem, ↓reduceIte, reduceCtorEq, Nat.reduceEqDiff, Nat.reduceLT, Nat.reduceLeDiff, Nat.reduceAdd, Nat.reduceSub, Nat.reduceMul, IntWalk.i64_in, AV.one.injEq, AC.c.injEq, C.v.injEq, Value.int.injEq, Value.bool.injEq, beq_self_eq_true, bne_self_eq_false]
  refine loopA_rule (ι := Unit) (fun _ => mk 42 [(0, slV []), (1, intV k), (5, intV 0)] []) (fun _ => True) (fun _ => 0) () trivial ?_ tbOk mixed (by decide +kernel) ?_
  · exact le_mk (by simp [go_sem]) (by simp [go_sem])
  · intro _ _
    simp -implicitDefEqProofs (disch := omega) only [go_sem, ↓reduceIte, reduceCtorEq, Nat.reduceEqDiff, Nat.reduceLT, Nat.reduceLeDiff, Nat.reduceAdd, Nat.reduceSub, Nat.reduceMul, IntWalk.i64_in, AV.one.injEq, AC.c.injEq, C.v.injEq, Value.int.injEq, Value.bool.injEq, beq_self_eq_true, bne_self_eq_false]
    intro h; omega
theorem markTermS_1 (xs : List Tm) (k : Int) (h0 : 0 ≤ k) (h1 : (mkRows (xs.map Tm.enc) k).2 ≤ 100000000) (hl : xs.length ≤ maxLen)
    (ih : ∀ t, t ∈ xs → ∀ k : Int, 0 ≤ k → (mkRows (Tm.encs t.args) k).2 ≤ 100000000 → SatM Try.prog 71 [.one (.m (.sl (Tm.encs t.args))), intV k] [.one (.m (.sl (mkRows (Tm.encs t.args) k).1)), intV k] (intV (mkRows (Tm.encs t.args) k).2)) :
    SatM Try.prog 71 [.one (.m (.sl (xs.map Tm.enc))), intV k] [.one (.m (.sl (mkRows (xs.map Tm.enc) k).1)), intV k] (intV (mkRows (xs.map Tm.enc) k).2) := by
  cases hx : xs with
  | nil => simpa [mkRows] using satM_nil (rest := [intV k]) rfl rfl (markTermS_nil k)
  | cons x0 xs0 =>
    rw [← hx]
    simp only [maxLen] at hl
    obtain ⟨rows, hrows⟩ : ∃ rows, rows = xs.map Tm.enc := ⟨_, rfl⟩
    have lr : rows.length = xs.length := by rw [hrows]; simp
    rw [← hrows] at h1 ⊢
    refine satM_slice 9001 4 tbOk mixed Try.func71 rfl rfl rfl (by decide +kernel) (by decide +kernel) (Nat.le_of_ble_eq_true rfl) rfl rfl (by rw [hrows, hx]; simp) (by rw [hrows]; simp [enc_len]) (fun e => ?_)
    simp -implicitDefEqProofs (disch := omega) only [go_sem, ↓reduceIte, reduceCtorEq, Nat.reduceEqDiff, Nat.reduceLT, Nat.reduceLeDiff, Nat.reduceAdd, Nat.reduceSub, Nat.reduceMul, IntWalk.i64_in, AV.one.injEq, AC.c.injEq, C.v.injEq, Value.int.injEq, Value.bool.injEq, beq_self_eq_true, bne_self_eq_false]
    obtain ⟨G, hG⟩ : ∃ G, G = rows.map fun q => q.map mC := ⟨_, rfl⟩
    obtain ⟨Fr, hFr⟩ : ∃ Fr, Fr = (mkRows rows k).1.map fun q => q.map mC := ⟨_, rfl⟩
    have lG : G.length = rows.length := by rw [hG]; simp
    have lF : Fr.length = G.length := by rw [hFr, lG]; simp [mkRows_len]
    have iF : ∀ lb r, r ∈ Fr → ∀ a, a ∈ r → inC lb a := fun lb => by rw [hFr]; exact mrows_in lb
    have iG : ∀ lb r, r ∈ G → ∀ a, a ∈ r → inC lb a := fun lb => by rw [hG]; exact mrows_in lb
    have nF : noD Fr = true := by rw [hFr]; exact mrows_noD
    have nG : noD G = true := by rw [hG]; exact mrows_noD
    rw [← hG]
    refine loopW_rule (ι := Nat) (fun i => mk 42 [(0, .one (.own 9001 rows.length)), (1, intV (kAt rows k i)), (5, intV i)] [(9001, .arr e 4 (turnR Fr G i) false)] [.one (.own 9001 rows.length)]) (fun i => i ≤ rows.length) (fun i => rows.length - i) 0 (Nat.zero_le _) ?_ tbOk mixed (by decide +kernel) ?_
    · exact le_mk (by simp [go_sem, kAt_zero]) (by simp only [leB, lookB_cons, if_true, inB, turnR_zero, true_and, and_true]; exact iG _)
    · intro i hi
      have hlen := turnR_len (i := i) lF (by omega)
      rcases Nat.lt_or_ge i rows.length with hlt | hge
      · have hi' : i < G.length := by omega
        obtain ⟨hm, eM, eK⟩ := mkRows_at rows k i hlt
        have hb1 := kAt_cnt rows k i
        have hb2 := cntRows_get rows i hlt
        have hb3 := mkRows_cnt rows k
        have hb4 := mkCells_cnt rows[i] (kAt rows k i)
        have ex : rows[i] = Tm.enc (xs[i]'(by omega)) := by simp [hrows]
        have hmem : xs[i]'(by omega) ∈ xs := List.getElem_mem _
        have hih := ih _ hmem
        generalize xs[i]'(by omega) = x at ex hih hmem
        obtain ⟨xk, xn, xs', xt⟩ := x
        simp only [Tm.args] at hih
        rw [ex] at eM eK hb2 hb4
        rw [mkCells_tm] at eM eK hb4
        generalize hK : kAt rows k i = K at eM eK hb1 hb4
        have hKn : 0 ≤ K := by omega
        have hc3 := mkRows_cnt (Tm.encs xt) (K + 1 + 1 + 1)
        have eG : G[i] = [iC xk, iC xn, sC xs', .m (.sl (Tm.encs xt))] := by simp [hG, ex, Tm.enc, mC]
        have eF : Fr[i]'(by omega) = [iC K, iC (K + 1), sC (mtext (K + 1 + 1)), .m (.sl (mkRows (Tm.encs xt) (K + 1 + 1 + 1)).1)] := by simp [hFr, eM, mC]
        have hfin := turnS_turnR lF hi'
        rw [eF] at hfin
        have sl := fun r => turnS_len lF hi' r
        have sg := fun r => turnS_get lF hi' r
        rw [turnR_eq lF hi' eG]
        refine ⟨_, wk_takeS (l := 9001) (T := 9103) (c := 3) lF hi' rfl rfl rfl (by exact turnS_noD nF nG rfl), ?_⟩
        simp -implicitDefEqProofs (disch := omega) only [go_sem, ↓reduceIte, reduceCtorEq, Nat.reduceEqDiff, Nat.reduceLT, Nat.reduceLeDiff, Nat.reduceAdd, Nat.reduceSub, Nat.reduceMul, IntWalk.i64_in, AV.one.injEq, AC.c.injEq, C.v.injEq, Value.int.injEq, Value.bool.injEq, beq_self_eq_true, bne_self_eq_false, sl, sg, turnS_set, lG, hlt, List.forall_mem_cons, List.not_mem_nil]
        refine CallK.bor (markText_sat _ (by omega)) rfl ?_
        simp -implicitDefEqProofs (disch := omega) only [go_sem, ↓reduceIte, reduceCtorEq, Nat.reduceEqDiff, Nat.reduceLT, Nat.reduceLeDiff, Nat.reduceAdd, Nat.reduceSub, Nat.reduceMul, IntWalk.i64_in, AV.one.injEq, AC.c.injEq, C.v.injEq, Value.int.injEq, Value.bool.injEq, beq_self_eq_true, bne_self_eq_false, sl, sg, turnS_set, lG, hlt, List.forall_mem_cons, List.not_mem_nil]
        refine CallK.mut (hih (K + 1 + 1 + 1) (by omega) (by omega)) ?_
        simp -implicitDefEqProofs (disch := omega) only [go_sem, ↓reduceIte, reduceCtorEq, Nat.reduceEqDiff, Nat.reduceLT, Nat.reduceLeDiff, Nat.reduceAdd, Nat.reduceSub, Nat.reduceMul, IntWalk.i64_in, AV.one.injEq, AC.c.injEq, C.v.injEq, Value.int.injEq, Value.bool.injEq, beq_self_eq_true, bne_self_eq_false, sl, sg, turnS_set, lG, hlt, List.forall_mem_cons, List.not_mem_nil]
        refine ⟨i + 1, hlt, by omega, (wk_giveS (l := 9001) (T := 9103) (c := 3) lF hi' rfl rfl rfl).trans (le_mk (by simp [go_sem, eK]) ?_)⟩
        simp only [leB, lookB_cons, if_true, inB, true_and, and_true]
        exact ⟨by rw [← hfin]; rfl, turnR_in (iF _) (iG _)⟩
      · have : i = rows.length := by omega
        subst this
        refine ⟨_, Wk.refl _, ?_⟩
        simp -implicitDefEqProofs (disch := omega) only [go_sem, ↓reduceIte, reduceCtorEq, Nat.reduceEqDiff, Nat.reduceLT, Nat.reduceLeDiff, Nat.reduceAdd, Nat.reduceSub, Nat.reduceMul, IntWalk.i64_in, AV.one.injEq, AC.c.injEq, C.v.injEq, Value.int.injEq, Value.bool.injEq, beq_self_eq_true, bne_self_eq_false, hlen, lG, Nat.lt_irrefl, kAt_all]
        exact turnedRow_mk rfl (by rw [turnR_end lF lG.symm, hFr]) (by rw [mkRows_len]) rfl

theorem markTermS_tm : ∀ (t : Tm), t.wf → ∀ k : Int, 0 ≤ k → (mkRows (Tm.encs t.args) k).2 ≤ 100000000 → SatM Try.prog 71 [.one (.m (.sl (Tm.encs t.args))), intV k] [.one (.m (.sl (mkRows (Tm.encs t.args) k).1)), intV k] (intV (mkRows (Tm.encs t.args) k).2) := by
  refine Tm.ind (fun k n s ts ih hw k0 h0 h1 => ?_)
  simp only [Tm.args, encs_map] at h1 ⊢
  have hws := (wfs_iff ts).1 hw.2.2.2.2
  exact markTermS_1 ts k0 h0 h1 hw.2.2.2.1 (fun t ht k h0 h1 => ih t ht (hws t ht) k h0 h1)
theorem markTermS_sat (ts : List Tm) (hw : wfL Tm.wf ts) (k : Int) (h0 : 0 ≤ k) (h1 : (mkRows (ts.map Tm.enc) k).2 ≤ 100000000) : SatM Try.prog 71 [.one (.m (.sl (ts.map Tm.enc))), intV k] [.one (.m (.sl (mkRows (ts.map Tm.enc) k).1)), intV k] (intV (mkRows (ts.map Tm.enc) k).2) :=
  markTermS_1 ts k h0 h1 hw.1 (fun t ht k h0 h1 => markTermS_tm t (hw.2 t ht) k h0 h1)

/-! ### laws.heldTermS -/
theorem heldTermS_1 (xs : List Tm) (k : Int) (h0 : 0 ≤ k) (h1 : (mkRows (xs.map Tm.enc) k).2 ≤ 100000000) (hl : xs.length ≤ maxLen)
    (ih : ∀ t, t ∈ xs → ∀ k : Int, 0 ≤ k → (mkRows (Tm.encs t.args) k).2 ≤ 100000000 → Sat Try.prog 80 [slV (mkRows (Tm.encs t.args) k).1, intV k] (intV (mkRows (Tm.encs t.args) k).2)) :
    Sat Try.prog 80 [slV (mkRows (xs.map Tm.enc) k).1, intV k] (intV (mkRows (xs.map Tm.enc) k).2) := by
  simp only [maxLen] at hl
  obtain ⟨rows, hrows⟩ : ∃ rows, rows = xs.map Tm.enc := ⟨_, rfl⟩
  have lr : rows.length = xs.length := by rw [hrows]; simp
  rw [← hrows] at h1 ⊢
  have lM := mkRows_len rows k
  obtain ⟨M, hM⟩ : ∃ M, M = (mkRows rows k).1 := ⟨_, rfl⟩
  rw [← hM] at lM ⊢
  refine sat_of_code tbOk mixed Try.func80 rfl rfl rfl (by decide +kernel) (by decide +kernel) (Nat.le_of_ble_eq_true rfl) ?_
  simp -implicitDefEqProofs (disch := omega) only [go_sem, ↓reduceIte, reduceCtorEq, Nat.reduceEqDiff, Nat.reduceLT, Nat.reduceLeDiff, Nat.reduceAdd, Nat.reduceSub, Nat.reduceMul, IntWalk.i64_in, AV.one.injEq, AC.c.injEq, C.v.injEq, Value.int.injEq, Value.bool.injEq, beq_self_eq_true, bne_self_eq_false]
  refine loopA_rule (ι := Nat) (fun i => mk 50 [(0, slV M), (1, intV (kAt rows k i)), (5, intV i)] []) (fun i => i ≤ rows.length) (fun i => rows.length - i) 0 (Nat.zero_le _) ?_ tbOk mixed (by decide +kernel) ?_
  · exact le_mk (by simp [go_sem, kAt_zero]) (by simp [go_sem])
  · intro i hi
    rcases Nat.lt_or_ge i rows.length with hlt | hge
    · obtain ⟨hm, eM, eK⟩ := mkRows_at rows k i hlt
      have hb1 := kAt_cnt rows k i
      have hb2 := cntRows_get rows i hlt
      have hb3 := mkRows_cnt rows k
      have hb4 := mkCells_cnt rows[i] (kAt rows k i)
      have ex : rows[i] = Tm.enc (xs[i]'(by omega)) := by simp [hrows]
      have hih := ih _ (List.getElem_mem (show i < xs.length by omega))
      generalize xs[i]'(by omega) = x at ex hih
      obtain ⟨xk, xn, xs', xt⟩ := x
      simp only [Tm.args] at hih
      rw [ex] at eM eK hb2 hb4
      rw [mkCells_tm] at eM eK hb4
      generalize hK : kAt rows k i = K at eM eK hb1 hb4
      have hKn : 0 ≤ K := by omega
      have hc3 := mkRows_cnt (Tm.encs xt) (K + 1 + 1 + 1)
      have hg : M.getD i [] = [.v (.int .i64 K), .v (.int .i64 (K + 1)), .v (.string (mtext (K + 1 + 1))), .sl (mkRows (Tm.encs xt) (K + 1 + 1 + 1)).1] := by
        rw [hM, List.getD_eq_getElem?_getD, List.getElem?_eq_getElem hm, eM]; rfl
      have hlt2 : i < M.length := by omega
      simp -implicitDefEqProofs (disch := omega) only [go_sem, ↓reduceIte, reduceCtorEq, Nat.reduceEqDiff, Nat.reduceLT, Nat.reduceLeDiff, Nat.reduceAdd, Nat.reduceSub, Nat.reduceMul, IntWalk.i64_in, AV.one.injEq, AC.c.injEq, C.v.injEq, Value.int.injEq, Value.bool.injEq, beq_self_eq_true, bne_self_eq_false, hg, hlt, lM, hlt2]
      refine CallK.bor (markText_sat _ (by omega)) rfl ?_
      simp -implicitDefEqProofs (disch := omega) only [go_sem, ↓reduceIte, reduceCtorEq, Nat.reduceEqDiff, Nat.reduceLT, Nat.reduceLeDiff, Nat.reduceAdd, Nat.reduceSub, Nat.reduceMul, IntWalk.i64_in, AV.one.injEq, AC.c.injEq, C.v.injEq, Value.int.injEq, Value.bool.injEq, beq_self_eq_true, bne_self_eq_false, hg, hlt, lM, hlt2]
      refine CallK.bor (hih _ (by omega) (by omega)) rfl ?_
      simp -implicitDefEqProofs (disch := omega) only [go_sem, ↓reduceIte, reduceCtorEq, Nat.reduceEqDiff, Nat.reduceLT, Nat.reduceLeDiff, Nat.reduceAdd, Nat.reduceSub, Nat.reduceMul, IntWalk.i64_in, AV.one.injEq, AC.c.injEq, C.v.injEq, Value.int.injEq, Value.bool.injEq, beq_self_eq_true, bne_self_eq_false]
      exact ⟨fun h => by omega, fun _ => ⟨i + 1, hlt, by omega, le_mk (by simp [go_sem, eK]) (by simp [go_sem])⟩⟩
    · have : i = rows.length := by omega
      subst this
      simp -implicitDefEqProofs (disch := omega) only [go_sem, ↓reduceIte, reduceCtorEq, Nat.reduceEqDiff, Nat.reduceLT, Nat.reduceLeDiff, Nat.reduceAdd, Nat.reduceSub, Nat.reduceMul, IntWalk.i64_in, AV.one.injEq, AC.c.injEq, C.v.injEq, Value.int.injEq, Value.bool.injEq, beq_self_eq_true, bne_self_eq_false, lM, Nat.lt_irrefl, kAt_all]
theorem heldTermS_tm : ∀ (t : Tm), t.wf → ∀ k : Int, 0 ≤ k → (mkRows (Tm.encs t.args) k).2 ≤ 100000000 → Sat Try.prog 80 [slV (mkRows (Tm.encs t.args) k).1, intV k] (intV (mkRows (Tm.encs t.args) k).2) := by
  refine Tm.ind (fun k n s ts ih hw k0 h0 h1 => ?_)
  simp only [Tm.args, encs_map] at h1 ⊢
  have hws := (wfs_iff ts).1 hw.2.2.2.2
  exact heldTermS_1 ts k0 h0 h1 hw.2.2.2.1 (fun t ht k h0 h1 => ih t ht (hws t ht) k h0 h1)
theorem heldTermS_sat (ts : List Tm) (hw : wfL Tm.wf ts) (k : Int) (h0 : 0 ≤ k) (h1 : (mkRows (ts.map Tm.enc) k).2 ≤ 100000000) : Sat Try.prog 80 [slV (mkRows (ts.map Tm.enc) k).1, intV k] (intV (mkRows (ts.map Tm.enc) k).2) :=
  heldTermS_1 ts k h0 h1 hw.1 (fun t ht k h0 h1 => heldTermS_tm t (hw.2 t ht) k h0 h1)

theorem markTerm_sat (k n : Int) (s : ByteArray) (ts : List Tm) (hw : (Tm.mk k n s ts).wf) (i : Int) (h0 : 0 ≤ i) (h1 : (mkRows (Tm.encs ts) i).2 ≤ 100000000) : SatM Try.prog 27 [.agg [iC k, iC n, sC s, .m (.sl (Tm.encs ts))], intV i] [.agg [iC k, iC n, sC s, .m (.sl (mkRows (Tm.encs ts) i).1)], intV i] (intV (mkRows (Tm.encs ts) i).2) := by
  refine satM_of_code 9000 tbOk mixed Try.func27 rfl rfl rfl (by decide +kernel) (by decide +kernel) (Nat.le_of_ble_eq_true rfl) rfl rfl rfl ?_
  simp -implicitDefEqProofs (disch := omega) only [go_sem, ↓reduceIte, reduceCtorEq, Nat.reduceEqDiff, Nat.reduceLT, Nat.reduceLeDiff, Nat.reduceAdd, Nat.reduceSub, Nat.reduceMul, IntWalk.i64_in, AV.one.injEq, AC.c.injEq, C.v.injEq, Value.int.injEq, Value.bool.injEq, beq_self_eq_true, bne_self_eq_false]
  refine CallK.mut (markTermS_tm (.mk k n s ts) hw i h0 h1) ?_
  simp -implicitDefEqProofs (disch := omega) only [go_sem, ↓reduceIte, reduceCtorEq, Nat.reduceEqDiff, Nat.reduceLT, Nat.reduceLeDiff, Nat.reduceAdd, Nat.reduceSub, Nat.reduceMul, IntWalk.i64_in, AV.one.injEq, AC.c.injEq, C.v.injEq, Value.int.injEq, Value.bool.injEq, beq_self_eq_true, bne_self_eq_false, Tm.args]
theorem heldTerm_sat (k n : Int) (s : ByteArray) (ts : List Tm) (hw : (Tm.mk k n s ts).wf) (i : Int) (h0 : 0 ≤ i) (h1 : (mkRows (Tm.encs ts) i).2 ≤ 100000000) : Sat Try.prog 28 [.agg [iC k, iC n, sC s, .c (.sl (mkRows (Tm.encs ts) i).1)], intV i] (intV (mkRows (Tm.encs ts) i).2) := by
  have hb := mkRows_cnt (Tm.encs ts) i
  refine sat_of_code tbOk mixed Try.func28 rfl rfl rfl (by decide +kernel) (by decide +kernel) (Nat.le_of_ble_eq_true rfl) ?_
  simp -implicitDefEqProofs (disch := omega) only [go_sem, ↓reduceIte, reduceCtorEq, Nat.reduceEqDiff, Nat.reduceLT, Nat.reduceLeDiff, Nat.reduceAdd, Nat.reduceSub, Nat.reduceMul, IntWalk.i64_in, AV.one.injEq, AC.c.injEq, C.v.injEq, Value.int.injEq, Value.bool.injEq, beq_self_eq_true, bne_self_eq_false]
  refine CallK.bor (heldTermS_tm (.mk k n s ts) hw i h0 h1) rfl ?_
  simp -implicitDefEqProofs (disch := omega) only [go_sem, ↓reduceIte, reduceCtorEq, Nat.reduceEqDiff, Nat.reduceLT, Nat.reduceLeDiff, Nat.reduceAdd, Nat.reduceSub, Nat.reduceMul, IntWalk.i64_in, AV.one.injEq, AC.c.injEq, C.v.injEq, Value.int.injEq, Value.bool.injEq, beq_self_eq_true, bne_self_eq_false, Tm.args]
  omega
end Go.Ai
