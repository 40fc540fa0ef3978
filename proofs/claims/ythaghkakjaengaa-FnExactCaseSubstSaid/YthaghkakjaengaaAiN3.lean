/- Bindings; CaseSubst. Written by mk10.py. -/
import Derived.Test.YthaghkakjaengaaAiC3
import Derived.Test.YthaghkakjaengaaAiM3
import Derived.Test.YthaghkakjaengaaAiV2
namespace Go.Ai
set_option linter.unusedVariables false
set_option linter.unusedSimpArgs false
open Go.Proofs Go.RowKit
set_option maxRecDepth 100000

structure GBind where
  na : ByteArray
  t : Tm
def GBind.enc (x : GBind) : List C := encS x.na ++ (Tm.enc x.t)
def GBind.size (x : GBind) : Nat := szS x.na + Tm.size x.t
def GBind.wf (x : GBind) : Prop := wfS x.na ∧ Tm.wf x.t
def GBind.eqb (x y : GBind) : Bool := eqS x.na y.na && (Tm.eqb x.t y.t)
theorem GBind.enc_len (x : GBind) : x.enc.length = 5 := by simp [GBind.enc, encI, encS, encB, encL, Go.Ai.enc_len]
theorem GBind.enc_take (x : GBind) : x.enc.take 5 = x.enc := List.take_of_length_le (by rw [GBind.enc_len]; exact Nat.le_refl _)
theorem GBind.encm_take (x : GBind) : (x.enc.map AC.c).take 5 = x.enc.map AC.c := List.take_of_length_le (by rw [List.length_map, GBind.enc_len]; exact Nat.le_refl _)
attribute [go_sem] GBind.enc_len GBind.enc_take GBind.encm_take
theorem GBind.eqb_refl (x : GBind) : x.eqb x = true := by simp only [GBind.eqb, eqS_refl x.na, Tm.eqb_refl x.t, Bool.and_self]

theorem eqBind_sat (x : GBind) (hw : x.wf) (y : GBind) : Sat Try.prog 75 [aggV x.enc, aggV y.enc] (boolV (x.eqb y)) := by
  obtain ⟨r, hr⟩ : ∃ r, r = x.eqb y := ⟨_, rfl⟩
  rw [← hr]
  obtain ⟨xna, ⟨xtk, xtn, xts, xtt⟩⟩ := x
  obtain ⟨yna, ⟨ytk, ytn, yts, ytt⟩⟩ := y
  simp only [GBind.wf] at hw
  simp only [GBind.eqb, eqI, eqS, eqB] at hr
  refine sat_of_code tbOk mixed Try.func75 rfl rfl rfl (by decide +kernel) (by decide +kernel) (Nat.le_of_ble_eq_true rfl) ?_
  simp -implicitDefEqProofs (disch := omega) only [go_sem, ↓reduceIte, reduceCtorEq, Nat.reduceEqDiff, Nat.reduceLT, Nat.reduceLeDiff, Nat.reduceAdd, Nat.reduceSub, Nat.reduceMul, IntWalk.i64_in, AV.one.injEq, AC.c.injEq, C.v.injEq, Value.int.injEq, Value.bool.injEq, beq_self_eq_true, bne_self_eq_false, GBind.enc, Tm.enc, encB, encI, encL, encS, List.cons_append, List.nil_append, List.append_nil]
  refine ⟨fun h0 => by grind, fun h0 => ?_⟩
  refine CallK.mk (eqTerm_sat (.mk xtk xtn xts xtt) hw.2 (.mk ytk ytn yts ytt)) ?_
  simp -implicitDefEqProofs (disch := omega) only [go_sem, ↓reduceIte, reduceCtorEq, Nat.reduceEqDiff, Nat.reduceLT, Nat.reduceLeDiff, Nat.reduceAdd, Nat.reduceSub, Nat.reduceMul, IntWalk.i64_in, AV.one.injEq, AC.c.injEq, C.v.injEq, Value.int.injEq, Value.bool.injEq, beq_self_eq_true, bne_self_eq_false, GBind.enc, Tm.enc, encB, encI, encL, encS, List.cons_append, List.nil_append, List.append_nil]
  grind

theorem eqBindS_sat (xs : List GBind) (hw : wfL GBind.wf xs) (ys : List GBind) : Sat Try.prog 44 [slV (xs.map GBind.enc), slV (ys.map GBind.enc)] (boolV (eqL GBind.eqb xs ys)) := by
  have hl := hw.1
  simp only [maxLen] at hl
  refine sat_of_code tbOk mixed Try.func44 rfl rfl rfl (by decide +kernel) (by decide +kernel) (Nat.le_of_ble_eq_true rfl) ?_
  simp -implicitDefEqProofs (disch := omega) only [go_sem, ↓reduceIte, reduceCtorEq, Nat.reduceEqDiff, Nat.reduceLT, Nat.reduceLeDiff, Nat.reduceAdd, Nat.reduceSub, Nat.reduceMul, IntWalk.i64_in, AV.one.injEq, AC.c.injEq, C.v.injEq, Value.int.injEq, Value.bool.injEq, beq_self_eq_true, bne_self_eq_false]
  refine ⟨fun h4 => ?_, fun h4 => ?_⟩
  · rw [eqL_len GBind.eqb xs ys (by omega)]
  · have hll : xs.length = ys.length := by simp at h4; omega
    refine loopA_rule (ι := Nat) (fun i => mk 27 [(0, slV (xs.map GBind.enc)), (1, slV (ys.map GBind.enc)), (5, intV i)] [])
      (fun i => i ≤ xs.length ∧ eqL GBind.eqb (xs.drop i) (ys.drop i) = eqL GBind.eqb xs ys) (fun i => xs.length - i) 0 ⟨Nat.zero_le _, by simp⟩ ?_ tbOk mixed (by decide +kernel) ?_
    · exact le_mk (by simp [go_sem]) (by simp [go_sem])
    · rintro i ⟨hi, he⟩
      rcases Nat.lt_or_ge i xs.length with hlt | hge
      · have hlt' : i < ys.length := by omega
        have hg := map_getD (ec := GBind.enc) hlt
        have hg' := map_getD (ec := GBind.enc) hlt'
        rw [eqL_drop GBind.eqb xs ys i hlt hlt'] at he
        have hx := hw.2 _ (List.getElem_mem hlt)
        generalize xs[i] = x at hg he hx
        generalize ys[i] = y at hg' he
        simp -implicitDefEqProofs (disch := omega) only [go_sem, ↓reduceIte, reduceCtorEq, Nat.reduceEqDiff, Nat.reduceLT, Nat.reduceLeDiff, Nat.reduceAdd, Nat.reduceSub, Nat.reduceMul, IntWalk.i64_in, AV.one.injEq, AC.c.injEq, C.v.injEq, Value.int.injEq, Value.bool.injEq, beq_self_eq_true, bne_self_eq_false, hg, hg', hlt, hlt']
        refine CallK.mk (eqBind_sat x hx y) ?_
        simp -implicitDefEqProofs (disch := omega) only [go_sem, ↓reduceIte, reduceCtorEq, Nat.reduceEqDiff, Nat.reduceLT, Nat.reduceLeDiff, Nat.reduceAdd, Nat.reduceSub, Nat.reduceMul, IntWalk.i64_in, AV.one.injEq, AC.c.injEq, C.v.injEq, Value.int.injEq, Value.bool.injEq, beq_self_eq_true, bne_self_eq_false]
        refine ⟨fun h => ?_, fun h => ⟨i + 1, ⟨hlt, ?_⟩, by omega, le_mk (by simp [go_sem]) (by simp [go_sem])⟩⟩
        · rw [h] at he; simpa using he
        · rw [h] at he; simpa using he
      · have e1 : xs.drop i = [] := List.drop_of_length_le hge
        have e2 : ys.drop i = [] := List.drop_of_length_le (by omega)
        rw [e1, e2] at he
        simp -implicitDefEqProofs (disch := omega) only [go_sem, ↓reduceIte, reduceCtorEq, Nat.reduceEqDiff, Nat.reduceLT, Nat.reduceLeDiff, Nat.reduceAdd, Nat.reduceSub, Nat.reduceMul, IntWalk.i64_in, AV.one.injEq, AC.c.injEq, C.v.injEq, Value.int.injEq, Value.bool.injEq, beq_self_eq_true, bne_self_eq_false, Nat.not_lt.2 hge]
        rw [← he]; rfl

theorem toStringSF_sat (xs : List ByteArray) (hs : szL szS xs < 1048577) : SatF Try.prog 42 [slV (xs.map encS)] (slV (xs.map encS)) := by
  have hl := len_szL szS xs
  obtain ⟨rows, hrows⟩ : ∃ rows, rows = xs.map encS := ⟨_, rfl⟩
  have lr : rows.length = xs.length := by rw [hrows]; simp
  rw [← hrows]
  refine satF_of_code [slV rows] rfl (fun _ h => by cases h) tbOk mixed Try.func42 rfl rfl rfl (by decide +kernel) (by decide +kernel) (Nat.le_of_ble_eq_true rfl) ?_
  simp -implicitDefEqProofs (disch := omega) only [go_sem, ↓reduceIte, reduceCtorEq, Nat.reduceEqDiff, Nat.reduceLT, Nat.reduceLeDiff, Nat.reduceAdd, Nat.reduceSub, Nat.reduceMul, IntWalk.i64_in, AV.one.injEq, AC.c.injEq, C.v.injEq, Value.int.injEq, Value.bool.injEq, beq_self_eq_true, bne_self_eq_false, lr]
  refine ⟨⟨by omega, by omega⟩, fun _ => ?_⟩
  obtain ⟨Z, hZ⟩ : ∃ Z, Z = List.replicate xs.length zString := ⟨_, rfl⟩
  obtain ⟨Fr, hFr⟩ : ∃ Fr, Fr = rows.map fun q => q.map dC := ⟨_, rfl⟩
  have lZ : Z.length = xs.length := by rw [hZ]; simp
  have lF : Fr.length = Z.length := by rw [hFr, lZ]; simp [lr]
  have iF : ∀ lb r, r ∈ Fr → ∀ a, a ∈ r → inC lb a := fun lb => by rw [hFr]; exact drows_in lb
  have iZ : ∀ lb r, r ∈ Z → ∀ a, a ∈ r → inC lb a := fun lb => by rw [hZ]; exact rep_in (by simp [zString, inC])
  rw [← hZ]
  refine loopA_rule (ι := Nat) (fun i => mk 22 [(0, slV rows), (3, .one (.own 7 xs.length)), (4, intV i)] [(7, .arr 9 1 (turnR Fr Z i) false)]) (fun i => i ≤ xs.length) (fun i => xs.length - i) 0 (Nat.zero_le _) ?_ tbOk mixed (by decide +kernel) ?_
  · exact le_mk (by simp [go_sem]) (by simp only [leB, lookB_cons, if_true, inB, turnR_zero, true_and, and_true]; exact iZ _)
  · intro i hi
    have hlen := turnR_len (i := i) lF (by omega)
    rcases Nat.lt_or_ge i xs.length with hlt | hge
    · have hi' : i < Z.length := by omega
      have hg : rows.getD i [] = encS xs[i] := by rw [hrows]; exact map_getD hlt
      have eZ : Z[i] = zString := by simp [hZ]
      have eF : Fr[i]'(by omega) = (encS xs[i]).map dC := by simp [hFr, hrows]
      have hm := szL_mem szS xs _ (List.getElem_mem hlt)
      generalize xs[i] = x at hg eF hm
      have hfin := turnS_turnR lF hi'
      rw [eF] at hfin
      have sl := fun r => turnS_len lF hi' r
      have sg := fun r => turnS_get lF hi' r
      rw [turnR_eq lF hi' eZ]
      simp -implicitDefEqProofs (disch := omega) only [go_sem, ↓reduceIte, reduceCtorEq, Nat.reduceEqDiff, Nat.reduceLT, Nat.reduceLeDiff, Nat.reduceAdd, Nat.reduceSub, Nat.reduceMul, IntWalk.i64_in, AV.one.injEq, AC.c.injEq, C.v.injEq, Value.int.injEq, Value.bool.injEq, beq_self_eq_true, bne_self_eq_false, hg, hlt, lr, lZ, sl, sg, turnS_set, encS, List.forall_mem_cons, List.not_mem_nil]
      refine ⟨i + 1, hlt, by omega, (le_mk (by simp [go_sem]) ?_)⟩
      simp only [leB, lookB_cons, if_true, inB, true_and, and_true]
      exact ⟨by rw [← hfin] <;> rfl, turnR_in (iF _) (iZ _)⟩
    · have : i = xs.length := by omega
      subst this
      simp -implicitDefEqProofs (disch := omega) only [go_sem, ↓reduceIte, reduceCtorEq, Nat.reduceEqDiff, Nat.reduceLT, Nat.reduceLeDiff, Nat.reduceAdd, Nat.reduceSub, Nat.reduceMul, IntWalk.i64_in, AV.one.injEq, AC.c.injEq, C.v.injEq, Value.int.injEq, Value.bool.injEq, beq_self_eq_true, bne_self_eq_false, hlen, lZ, lr, Nat.lt_irrefl]
      rw [turnR_end lF lZ.symm, hFr]
      exact ⟨drows_isO, drows_toC⟩

theorem markStringS_nil (k : Int) : Sat Try.prog 46 [slV [], intV k] (intV k) := by
  refine sat_of_code tbOk mixed Try.func46 rfl rfl rfl (by decide +kernel) (by decide +kernel) (Nat.le_of_ble_eq_true rfl) ?_
  simp -implicitDefEqProofs (disch := omega) only [go_sem, ↓reduceIte, reduceCtorEq, Nat.reduceEqDiff, Nat.reduceLT, Nat.reduceLeDiff, Nat.reduceAdd, Nat.reduceSub, Nat.reduceMul, IntWalk.i64_in, AV.one.injEq, AC.c.injEq, C.v.injEq, Value.int.injEq, Value.bool.injEq, beq_self_eq_true, bne_self_eq_false]
  refine loopA_rule (ι := Unit) (fun _ => mk 20 [(0, slV []), (1, intV k), (5, intV 0)] []) (fun _ => True) (fun _ => 0) () trivial ?_ tbOk mixed (by decide +kernel) ?_
  · exact le_mk (by simp [go_sem]) (by simp [go_sem])
  · intro _ _
    simp -implicitDefEqProofs (disch := omega) only [go_sem, ↓reduceIte, reduceCtorEq, Nat.reduceEqDiff, Nat.reduceLT, Nat.reduceLeDiff, Nat.reduceAdd, Nat.reduceSub, Nat.reduceMul, IntWalk.i64_in, AV.one.injEq, AC.c.injEq, C.v.injEq, Value.int.injEq, Value.bool.injEq, beq_self_eq_true, bne_self_eq_false]
    intro h; omega
theorem markStringS_sat (xs : List ByteArray) (hw : wfL wfS xs) (k : Int) (h0 : 0 ≤ k) (h1 : (mkRows (xs.map encS) k).2 ≤ 100000000) : SatM Try.prog 46 [.one (.m (.sl (xs.map encS))), intV k] [.one (.m (.sl (mkRows (xs.map encS) k).1)), intV k] (intV (mkRows (xs.map encS) k).2) := by
  have hl := hw.1
  cases hx : xs with
  | nil => simpa [mkRows] using satM_nil (rest := [intV k]) rfl rfl (markStringS_nil k)
  | cons x0 xs0 =>
    rw [← hx]
    simp only [maxLen] at hl
    obtain ⟨rows, hrows⟩ : ∃ rows, rows = xs.map encS := ⟨_, rfl⟩
    have lr : rows.length = xs.length := by rw [hrows]; simp
    rw [← hrows] at h1 ⊢
    refine satM_slice 9001 1 tbOk mixed Try.func46 rfl rfl rfl (by decide +kernel) (by decide +kernel) (Nat.le_of_ble_eq_true rfl) rfl rfl (by rw [hrows, hx]; simp) (by rw [hrows]; simp [encS]) (fun e => ?_)
    simp -implicitDefEqProofs (disch := omega) only [go_sem, ↓reduceIte, reduceCtorEq, Nat.reduceEqDiff, Nat.reduceLT, Nat.reduceLeDiff, Nat.reduceAdd, Nat.reduceSub, Nat.reduceMul, IntWalk.i64_in, AV.one.injEq, AC.c.injEq, C.v.injEq, Value.int.injEq, Value.bool.injEq, beq_self_eq_true, bne_self_eq_false]
    obtain ⟨G, hG⟩ : ∃ G, G = rows.map fun q => q.map mC := ⟨_, rfl⟩
    obtain ⟨Fr, hFr⟩ : ∃ Fr, Fr = (mkRows rows k).1.map fun q => q.map mC := ⟨_, rfl⟩
    have lG : G.length = rows.length := by rw [hG]; simp
    have lF : Fr.length = G.length := by rw [hFr, lG]; simp [mkRows_len]
    have iF : ∀ lb r, r ∈ Fr → ∀ a, a ∈ r → inC lb a := fun lb => by rw [hFr]; exact mrows_in lb
    have iG : ∀ lb r, r ∈ G → ∀ a, a ∈ r → inC lb a := fun lb => by rw [hG]; exact mrows_in lb
    have nF : noD Fr = true := by rw [hFr]; exact mrows_noD
    have nG : noD G = true := by rw [hG]; exact mrows_noD
    rw [← hG]
    refine loopW_rule (ι := Nat) (fun i => mk 20 [(0, .one (.own 9001 rows.length)), (1, intV (kAt rows k i)), (5, intV i)] [(9001, .arr e 1 (turnR Fr G i) false)] [.one (.own 9001 rows.length)]) (fun i => i ≤ rows.length) (fun i => rows.length - i) 0 (Nat.zero_le _) ?_ tbOk mixed (by decide +kernel) ?_
    · exact le_mk (by simp [go_sem, kAt_zero]) (by simp only [leB, lookB_cons, if_true, inB, turnR_zero, true_and, and_true]; exact iG _)
    · intro i hi
      have hlen := turnR_len (i := i) lF (by omega)
      rcases Nat.lt_or_ge i rows.length with hlt | hge
      · have hi' : i < G.length := by omega
        obtain ⟨hm, eM, eK⟩ := mkRows_at rows k i hlt
        have hb1 := kAt_cnt rows k i
        have hb2 := cntRows_get rows i hlt
        have hb3 := mkRows_cnt rows k
        have hb4 := mkCells_cnt rows[i] (kAt rows k i)
        have ex : rows[i] = encS (xs[i]'(by omega)) := by simp [hrows]
        have hw' := hw.2 _ (List.getElem_mem (show i < xs.length by omega))
        generalize xs[i]'(by omega) = x at ex hw'
        rw [ex] at eM eK hb2 hb4
        simp only [encS, mkCells, mkC] at eM eK hb2 hb4
        generalize hK : kAt rows k i = K at eM eK hb1 hb4
        have hKn : 0 ≤ K := by omega
        have eG : G[i] = [sC x] := by simp [hG, ex, encS, mC]
        have eF : Fr[i]'(by omega) = [sC (mtext K)] := by simp [hFr, eM, mC]
        have hfin := turnS_turnR lF hi'
        rw [eF] at hfin
        have sl := fun r => turnS_len lF hi' r
        have sg := fun r => turnS_get lF hi' r
        rw [turnR_eq lF hi' eG]
        refine ⟨_, Wk.refl _, ?_⟩
        simp -implicitDefEqProofs (disch := omega) only [go_sem, ↓reduceIte, reduceCtorEq, Nat.reduceEqDiff, Nat.reduceLT, Nat.reduceLeDiff, Nat.reduceAdd, Nat.reduceSub, Nat.reduceMul, IntWalk.i64_in, AV.one.injEq, AC.c.injEq, C.v.injEq, Value.int.injEq, Value.bool.injEq, beq_self_eq_true, bne_self_eq_false, sl, sg, turnS_set, lG, hlt, List.forall_mem_cons, List.not_mem_nil, Tm.args]
        refine CallK.bor (markText_sat K (by omega)) rfl ?_
        simp -implicitDefEqProofs (disch := omega) only [go_sem, ↓reduceIte, reduceCtorEq, Nat.reduceEqDiff, Nat.reduceLT, Nat.reduceLeDiff, Nat.reduceAdd, Nat.reduceSub, Nat.reduceMul, IntWalk.i64_in, AV.one.injEq, AC.c.injEq, C.v.injEq, Value.int.injEq, Value.bool.injEq, beq_self_eq_true, bne_self_eq_false, sl, sg, turnS_set, lG, hlt, List.forall_mem_cons, List.not_mem_nil, Tm.args]
        refine ⟨i + 1, hlt, by omega, (le_mk (by simp [go_sem, eK]) ?_)⟩
        simp only [leB, lookB_cons, if_true, inB, true_and, and_true]
        exact ⟨by rw [← hfin] <;> rfl, turnR_in (iF _) (iG _)⟩
      · have : i = rows.length := by omega
        subst this
        refine ⟨_, Wk.refl _, ?_⟩
        simp -implicitDefEqProofs (disch := omega) only [go_sem, ↓reduceIte, reduceCtorEq, Nat.reduceEqDiff, Nat.reduceLT, Nat.reduceLeDiff, Nat.reduceAdd, Nat.reduceSub, Nat.reduceMul, IntWalk.i64_in, AV.one.injEq, AC.c.injEq, C.v.injEq, Value.int.injEq, Value.bool.injEq, beq_self_eq_true, bne_self_eq_false, hlen, lG, Nat.lt_irrefl, kAt_all]
        exact turnedRow_mk rfl (by rw [turnR_end lF lG.symm, hFr]) (by rw [mkRows_len]) rfl

theorem GBind.csz (x : GBind) : cszCells x.enc = x.size := by simp only [GBind.enc, GBind.size, cszCells_append, Nat.add_assoc, Tm.csz, cszE_S]
theorem GBind.nar (x : GBind) : narCells x.enc := (narCells_append _ _ (narE_S x.na) (Tm.nar x.t))

theorem markBindS_nil (k : Int) : Sat Try.prog 47 [slV [], intV k] (intV k) := by
  refine sat_of_code tbOk mixed Try.func47 rfl rfl rfl (by decide +kernel) (by decide +kernel) (Nat.le_of_ble_eq_true rfl) ?_
  simp -implicitDefEqProofs (disch := omega) only [go_sem, ↓reduceIte, reduceCtorEq, Nat.reduceEqDiff, Nat.reduceLT, Nat.reduceLeDiff, Nat.reduceAdd, Nat.reduceSub, Nat.reduceMul, IntWalk.i64_in, AV.one.injEq, AC.c.injEq, C.v.injEq, Value.int.injEq, Value.bool.injEq, beq_self_eq_true, bne_self_eq_false]
  refine loopA_rule (ι := Unit) (fun _ => mk 54 [(0, slV []), (1, intV k), (5, intV 0)] []) (fun _ => True) (fun _ => 0) () trivial ?_ tbOk mixed (by decide +kernel) ?_
  · exact le_mk (by simp [go_sem]) (by simp [go_sem])
  · intro _ _
    simp -implicitDefEqProofs (disch := omega) only [go_sem, ↓reduceIte, reduceCtorEq, Nat.reduceEqDiff, Nat.reduceLT, Nat.reduceLeDiff, Nat.reduceAdd, Nat.reduceSub, Nat.reduceMul, IntWalk.i64_in, AV.one.injEq, AC.c.injEq, C.v.injEq, Value.int.injEq, Value.bool.injEq, beq_self_eq_true, bne_self_eq_false]
    intro h; omega
theorem markBindS_sat (xs : List GBind) (hw : wfL GBind.wf xs) (k : Int) (h0 : 0 ≤ k) (h1 : (mkRows (xs.map GBind.enc) k).2 ≤ 100000000) : SatM Try.prog 47 [.one (.m (.sl (xs.map GBind.enc))), intV k] [.one (.m (.sl (mkRows (xs.map GBind.enc) k).1)), intV k] (intV (mkRows (xs.map GBind.enc) k).2) := by
  have hl := hw.1
  cases hx : xs with
  | nil => simpa [mkRows] using satM_nil (rest := [intV k]) rfl rfl (markBindS_nil k)
  | cons x0 xs0 =>
    rw [← hx]
    simp only [maxLen] at hl
    obtain ⟨rows, hrows⟩ : ∃ rows, rows = xs.map GBind.enc := ⟨_, rfl⟩
    have lr : rows.length = xs.length := by rw [hrows]; simp
    rw [← hrows] at h1 ⊢
    refine satM_slice 9001 5 tbOk mixed Try.func47 rfl rfl rfl (by decide +kernel) (by decide +kernel) (Nat.le_of_ble_eq_true rfl) rfl rfl (by rw [hrows, hx]; simp) (by rw [hrows]; simp [GBind.enc_len]) (fun e => ?_)
    simp -implicitDefEqProofs (disch := omega) only [go_sem, ↓reduceIte, reduceCtorEq, Nat.reduceEqDiff, Nat.reduceLT, Nat.reduceLeDiff, Nat.reduceAdd, Nat.reduceSub, Nat.reduceMul, IntWalk.i64_in, AV.one.injEq, AC.c.injEq, C.v.injEq, Value.int.injEq, Value.bool.injEq, beq_self_eq_true, bne_self_eq_false]
    obtain ⟨G, hG⟩ : ∃ G, G = rows.map fun q => q.map mC := ⟨_, rfl⟩
    obtain ⟨Fr, hFr⟩ : ∃ Fr, Fr = (mkRows rows k).1.map fun q => q.map mC := ⟨_, rfl⟩
    have lG : G.length = rows.length := by rw [hG]; simp
    have lF : Fr.length = G.length := by rw [hFr, lG]; simp [mkRows_len]
    have iF : ∀ lb r, r ∈ Fr → ∀ a, a ∈ r → inC lb a := fun lb => by rw [hFr]; exact mrows_in lb
    have iG : ∀ lb r, r ∈ G → ∀ a, a ∈ r → inC lb a := fun lb => by rw [hG]; exact mrows_in lb
    have nF : noD Fr = true := by rw [hFr]; exact mrows_noD
    have nG : noD G = true := by rw [hG]; exact mrows_noD
    rw [← hG]
    refine loopW_rule (ι := Nat) (fun i => mk 54 [(0, .one (.own 9001 rows.length)), (1, intV (kAt rows k i)), (5, intV i)] [(9001, .arr e 5 (turnR Fr G i) false)] [.one (.own 9001 rows.length)]) (fun i => i ≤ rows.length) (fun i => rows.length - i) 0 (Nat.zero_le _) ?_ tbOk mixed (by decide +kernel) ?_
    · exact le_mk (by simp [go_sem, kAt_zero]) (by simp only [leB, lookB_cons, if_true, inB, turnR_zero, true_and, and_true]; exact iG _)
    · intro i hi
      have hlen := turnR_len (i := i) lF (by omega)
      rcases Nat.lt_or_ge i rows.length with hlt | hge
      · have hi' : i < G.length := by omega
        obtain ⟨hm, eM, eK⟩ := mkRows_at rows k i hlt
        have hb1 := kAt_cnt rows k i
        have hb2 := cntRows_get rows i hlt
        have hb3 := mkRows_cnt rows k
        have hb4 := mkCells_cnt rows[i] (kAt rows k i)
        have ex : rows[i] = GBind.enc (xs[i]'(by omega)) := by simp [hrows]
        have hw' := hw.2 _ (List.getElem_mem (show i < xs.length by omega))
        generalize xs[i]'(by omega) = x at ex hw'
        obtain ⟨xna, ⟨xtk, xtn, xts, xtt⟩⟩ := x
        simp only [GBind.wf] at hw'
        rw [ex] at eM eK hb2 hb4
        simp only [GBind.enc, Tm.enc, encB, encI, encL, encS, List.cons_append, List.nil_append, List.append_nil, mkCells, mkC] at eM eK hb2 hb4
        generalize hK : kAt rows k i = K at eM eK hb1 hb4
        have hKn : 0 ≤ K := by omega
        have hc4 := mkRows_cnt (Tm.encs xtt) ((((K + 1) + 1) + 1) + 1)
        have eG : G[i] = [sC xna, iC xtk, iC xtn, sC xts, .m (.sl (Tm.encs xtt))] := by simp [hG, ex, GBind.enc, Tm.enc, encB, encI, encL, encS, List.cons_append, List.nil_append, List.append_nil, mC]
        have eF : Fr[i]'(by omega) = [sC (mtext K), iC (K + 1), iC ((K + 1) + 1), sC (mtext (((K + 1) + 1) + 1)), .m (.sl (mkRows (Tm.encs xtt) ((((K + 1) + 1) + 1) + 1)).1)] := by simp [hFr, eM, mC]
        have hfin := turnS_turnR lF hi'
        rw [eF] at hfin
        have sl := fun r => turnS_len lF hi' r
        have sg := fun r => turnS_get lF hi' r
        rw [turnR_eq lF hi' eG]
        refine ⟨_, (wk_takeS (l := 9001) (T := 9104) (c := 4) lF hi' rfl rfl rfl (by exact turnS_noD nF nG rfl)), ?_⟩
        simp -implicitDefEqProofs (disch := omega) only [go_sem, ↓reduceIte, reduceCtorEq, Nat.reduceEqDiff, Nat.reduceLT, Nat.reduceLeDiff, Nat.reduceAdd, Nat.reduceSub, Nat.reduceMul, IntWalk.i64_in, AV.one.injEq, AC.c.injEq, C.v.injEq, Value.int.injEq, Value.bool.injEq, beq_self_eq_true, bne_self_eq_false, sl, sg, turnS_set, lG, hlt, List.forall_mem_cons, List.not_mem_nil, Tm.args]
        refine CallK.bor (markText_sat K (by omega)) rfl ?_
        simp -implicitDefEqProofs (disch := omega) only [go_sem, ↓reduceIte, reduceCtorEq, Nat.reduceEqDiff, Nat.reduceLT, Nat.reduceLeDiff, Nat.reduceAdd, Nat.reduceSub, Nat.reduceMul, IntWalk.i64_in, AV.one.injEq, AC.c.injEq, C.v.injEq, Value.int.injEq, Value.bool.injEq, beq_self_eq_true, bne_self_eq_false, sl, sg, turnS_set, lG, hlt, List.forall_mem_cons, List.not_mem_nil, Tm.args]
        refine CallK.bor (markText_sat (((K + 1) + 1) + 1) (by omega)) rfl ?_
        simp -implicitDefEqProofs (disch := omega) only [go_sem, ↓reduceIte, reduceCtorEq, Nat.reduceEqDiff, Nat.reduceLT, Nat.reduceLeDiff, Nat.reduceAdd, Nat.reduceSub, Nat.reduceMul, IntWalk.i64_in, AV.one.injEq, AC.c.injEq, C.v.injEq, Value.int.injEq, Value.bool.injEq, beq_self_eq_true, bne_self_eq_false, sl, sg, turnS_set, lG, hlt, List.forall_mem_cons, List.not_mem_nil, Tm.args]
        refine CallK.mut (markTermS_tm (.mk xtk xtn xts xtt) hw'.2 ((((K + 1) + 1) + 1) + 1) (by omega) (by simp only [Tm.args]; omega)) ?_
        simp -implicitDefEqProofs (disch := omega) only [go_sem, ↓reduceIte, reduceCtorEq, Nat.reduceEqDiff, Nat.reduceLT, Nat.reduceLeDiff, Nat.reduceAdd, Nat.reduceSub, Nat.reduceMul, IntWalk.i64_in, AV.one.injEq, AC.c.injEq, C.v.injEq, Value.int.injEq, Value.bool.injEq, beq_self_eq_true, bne_self_eq_false, sl, sg, turnS_set, lG, hlt, List.forall_mem_cons, List.not_mem_nil, Tm.args]
        refine ⟨i + 1, hlt, by omega, ((wk_giveS (l := 9001) (T := 9104) (c := 4) lF hi' rfl rfl rfl).trans (le_mk (by simp [go_sem, eK]) ?_))⟩
        simp only [leB, lookB_cons, if_true, inB, true_and, and_true]
        exact ⟨by rw [← hfin] <;> rfl, turnR_in (iF _) (iG _)⟩
      · have : i = rows.length := by omega
        subst this
        refine ⟨_, Wk.refl _, ?_⟩
        simp -implicitDefEqProofs (disch := omega) only [go_sem, ↓reduceIte, reduceCtorEq, Nat.reduceEqDiff, Nat.reduceLT, Nat.reduceLeDiff, Nat.reduceAdd, Nat.reduceSub, Nat.reduceMul, IntWalk.i64_in, AV.one.injEq, AC.c.injEq, C.v.injEq, Value.int.injEq, Value.bool.injEq, beq_self_eq_true, bne_self_eq_false, hlen, lG, Nat.lt_irrefl, kAt_all]
        exact turnedRow_mk rfl (by rw [turnR_end lF lG.symm, hFr]) (by rw [mkRows_len]) rfl

theorem heldBindS_sat (xs : List GBind) (hw : wfL GBind.wf xs) (k : Int) (h0 : 0 ≤ k) (h1 : (mkRows (xs.map GBind.enc) k).2 ≤ 100000000) : Sat Try.prog 48 [slV (mkRows (xs.map GBind.enc) k).1, intV k] (intV (mkRows (xs.map GBind.enc) k).2) := by
  have hl := hw.1
  simp only [maxLen] at hl
  obtain ⟨rows, hrows⟩ : ∃ rows, rows = xs.map GBind.enc := ⟨_, rfl⟩
  have lr : rows.length = xs.length := by rw [hrows]; simp
  rw [← hrows] at h1 ⊢
  have lM := mkRows_len rows k
  obtain ⟨M, hM⟩ : ∃ M, M = (mkRows rows k).1 := ⟨_, rfl⟩
  rw [← hM] at lM ⊢
  refine sat_of_code tbOk mixed Try.func48 rfl rfl rfl (by decide +kernel) (by decide +kernel) (Nat.le_of_ble_eq_true rfl) ?_
  simp -implicitDefEqProofs (disch := omega) only [go_sem, ↓reduceIte, reduceCtorEq, Nat.reduceEqDiff, Nat.reduceLT, Nat.reduceLeDiff, Nat.reduceAdd, Nat.reduceSub, Nat.reduceMul, IntWalk.i64_in, AV.one.injEq, AC.c.injEq, C.v.injEq, Value.int.injEq, Value.bool.injEq, beq_self_eq_true, bne_self_eq_false]
  refine loopA_rule (ι := Nat) (fun i => mk 64 [(0, slV M), (1, intV (kAt rows k i)), (5, intV i)] []) (fun i => i ≤ rows.length) (fun i => rows.length - i) 0 (Nat.zero_le _) ?_ tbOk mixed (by decide +kernel) ?_
  · exact le_mk (by simp [go_sem, kAt_zero]) (by simp [go_sem])
  · intro i hi
    rcases Nat.lt_or_ge i rows.length with hlt | hge
    · obtain ⟨hm, eM, eK⟩ := mkRows_at rows k i hlt
      have hb1 := kAt_cnt rows k i
      have hb2 := cntRows_get rows i hlt
      have hb3 := mkRows_cnt rows k
      have hb4 := mkCells_cnt rows[i] (kAt rows k i)
      have ex : rows[i] = GBind.enc (xs[i]'(by omega)) := by simp [hrows]
      have hw' := hw.2 _ (List.getElem_mem (show i < xs.length by omega))
      generalize xs[i]'(by omega) = x at ex hw'
      obtain ⟨xna, ⟨xtk, xtn, xts, xtt⟩⟩ := x
      simp only [GBind.wf] at hw'
      rw [ex] at eM eK hb2 hb4
      simp only [GBind.enc, Tm.enc, encB, encI, encL, encS, List.cons_append, List.nil_append, List.append_nil, mkCells, mkC] at eM eK hb2 hb4
      generalize hK : kAt rows k i = K at eM eK hb1 hb4
      have hKn : 0 ≤ K := by omega
      have hc4 := mkRows_cnt (Tm.encs xtt) ((((K + 1) + 1) + 1) + 1)
      have hg : M.getD i [] = [.v (.string (mtext K)), .v (.int .i64 (K + 1)), .v (.int .i64 ((K + 1) + 1)), .v (.string (mtext (((K + 1) + 1) + 1))), .sl (mkRows (Tm.encs xtt) ((((K + 1) + 1) + 1) + 1)).1] := by
        rw [hM, List.getD_eq_getElem?_getD, List.getElem?_eq_getElem hm, eM]; rfl
      have hlt2 : i < M.length := by omega
      simp -implicitDefEqProofs (disch := omega) only [go_sem, ↓reduceIte, reduceCtorEq, Nat.reduceEqDiff, Nat.reduceLT, Nat.reduceLeDiff, Nat.reduceAdd, Nat.reduceSub, Nat.reduceMul, IntWalk.i64_in, AV.one.injEq, AC.c.injEq, C.v.injEq, Value.int.injEq, Value.bool.injEq, beq_self_eq_true, bne_self_eq_false, hg, hlt, lM, hlt2]
      refine CallK.bor (markText_sat K (by omega)) rfl ?_
      simp -implicitDefEqProofs (disch := omega) only [go_sem, ↓reduceIte, reduceCtorEq, Nat.reduceEqDiff, Nat.reduceLT, Nat.reduceLeDiff, Nat.reduceAdd, Nat.reduceSub, Nat.reduceMul, IntWalk.i64_in, AV.one.injEq, AC.c.injEq, C.v.injEq, Value.int.injEq, Value.bool.injEq, beq_self_eq_true, bne_self_eq_false, hg, hlt, lM, hlt2]
      refine CallK.bor (markText_sat (((K + 1) + 1) + 1) (by omega)) rfl ?_
      simp -implicitDefEqProofs (disch := omega) only [go_sem, ↓reduceIte, reduceCtorEq, Nat.reduceEqDiff, Nat.reduceLT, Nat.reduceLeDiff, Nat.reduceAdd, Nat.reduceSub, Nat.reduceMul, IntWalk.i64_in, AV.one.injEq, AC.c.injEq, C.v.injEq, Value.int.injEq, Value.bool.injEq, beq_self_eq_true, bne_self_eq_false, hg, hlt, lM, hlt2]
      refine CallK.bor (heldTermS_tm (.mk xtk xtn xts xtt) hw'.2 ((((K + 1) + 1) + 1) + 1) (by omega) (by simp only [Tm.args]; omega)) rfl ?_
      simp -implicitDefEqProofs (disch := omega) only [go_sem, ↓reduceIte, reduceCtorEq, Nat.reduceEqDiff, Nat.reduceLT, Nat.reduceLeDiff, Nat.reduceAdd, Nat.reduceSub, Nat.reduceMul, IntWalk.i64_in, AV.one.injEq, AC.c.injEq, C.v.injEq, Value.int.injEq, Value.bool.injEq, beq_self_eq_true, bne_self_eq_false, hg, hlt, lM, hlt2, Tm.args]
      refine ⟨fun h => by omega, fun _ => ?_⟩
      exact ⟨i + 1, hlt, by omega, le_mk (by simp [go_sem, eK]) (by simp [go_sem])⟩
    · have : i = rows.length := by omega
      subst this
      simp -implicitDefEqProofs (disch := omega) only [go_sem, ↓reduceIte, reduceCtorEq, Nat.reduceEqDiff, Nat.reduceLT, Nat.reduceLeDiff, Nat.reduceAdd, Nat.reduceSub, Nat.reduceMul, IntWalk.i64_in, AV.one.injEq, AC.c.injEq, C.v.injEq, Value.int.injEq, Value.bool.injEq, beq_self_eq_true, bne_self_eq_false, lM, Nat.lt_irrefl, kAt_all]

def wordT (n : Int) : Tm := .mk 3 n ByteArray.empty []
def mkB (p : ByteArray × Int) : GBind := ⟨p.1, wordT p.2⟩
def casePairs (vars : List ByteArray) (c : Int) : List (ByteArray × Int) := vars.zip (valsOf vars.length c)
def caseSubst (vars : List ByteArray) (c : Int) : List GBind := (casePairs vars c).map mkB
theorem casePairs_len (vars : List ByteArray) (c : Int) : (casePairs vars c).length = (valsOf vars.length c).length := by
  have := valsOf_len vars.length c
  simp only [casePairs, List.length_zip]; omega
theorem caseSubst_len (vars : List ByteArray) (c : Int) : (caseSubst vars c).length ≤ 3 := by
  have := valsOf_len vars.length c
  simp only [caseSubst, List.length_map, casePairs_len]; omega
theorem dgI_b (c : Int) : ∀ i n, n ∈ dgI c i → 0 ≤ n ∧ n < 4
  | 0, n, h => by simp [dgI] at h
  | i + 1, n, h => by
    simp only [dgI, List.mem_append, List.mem_singleton] at h
    rcases h with h | rfl
    · exact dgI_b c i n h
    · omega
theorem valsOf_b (k : Nat) (c : Int) : ∀ n, n ∈ valsOf k c → 0 ≤ n ∧ n < 4 := by
  intro n hn
  unfold valsOf at hn
  split at hn
  · exact dgI_b c k n (List.mem_reverse.1 hn)
  · simp at hn
theorem caseSubst_wf (vars : List ByteArray) (c : Int) (hw : ∀ v, v ∈ vars → wfS v) : wfL GBind.wf (caseSubst vars c) := by
  refine ⟨by have := caseSubst_len vars c; simp only [maxLen]; omega, fun b hb => ?_⟩
  obtain ⟨⟨v, n⟩, h, rfl⟩ := List.mem_map.1 hb
  obtain ⟨h1, h2⟩ := List.of_mem_zip h
  have := valsOf_b _ _ n h2
  exact ⟨hw v h1, wfI_of 3 (by omega) (by omega), wfI_of n (by omega) (by omega), Nat.zero_le _, Nat.zero_le _, trivial⟩
theorem zip_size : ∀ (vars : List ByteArray) (ns : List Int), szL GBind.size ((vars.zip ns).map mkB) ≤ szL szS vars + 10 * ns.length
  | [], ns => by simp [szL]
  | v :: vars, [] => by simp [szL]
  | v :: vars, n :: ns => by
    have := zip_size vars ns
    simp only [List.zip_cons_cons, List.map_cons, szL, mkB, GBind.size, wordT, Tm.size, Tm.sizes, List.length_cons, ByteArray.size_empty]
    omega
theorem caseSubst_size (vars : List ByteArray) (c : Int) : szL GBind.size (caseSubst vars c) ≤ szL szS vars + 100 := by
  have h1 := zip_size vars (valsOf vars.length c)
  have h2 := valsOf_len vars.length c
  simp only [caseSubst, casePairs]; omega
theorem l3Word_sat (n : Int) : Sat Try.prog 74 [intV n] (tmV (wordT n)) := by
  refine sat_of_code tbOk mixed Try.func74 rfl rfl rfl (by decide +kernel) (by decide +kernel) (Nat.le_of_ble_eq_true rfl) ?_
  simp -implicitDefEqProofs (disch := omega) only [go_sem, ↓reduceIte, reduceCtorEq, Nat.reduceEqDiff, Nat.reduceLT, Nat.reduceLeDiff, Nat.reduceAdd, Nat.reduceSub, Nat.reduceMul, IntWalk.i64_in, AV.one.injEq, AC.c.injEq, C.v.injEq, Value.int.injEq, Value.bool.injEq, beq_self_eq_true, bne_self_eq_false]
  rfl
theorem pairs_at (vars : List ByteArray) (c : Int) (i : Nat) (h : i < (casePairs vars c).length) : ∃ v n, (casePairs vars c)[i] = (v, n) ∧ (vars.map encS).getD i [] = encS v ∧ ((valsOf vars.length c).map encI).getD i [] = encI n ∧ i < vars.length ∧ i < (valsOf vars.length c).length := by
  have h' := h
  simp only [casePairs, List.length_zip] at h
  have h1 : i < vars.length := by omega
  have h2 : i < (valsOf vars.length c).length := by omega
  exact ⟨vars[i], (valsOf vars.length c)[i], by simp [casePairs], map_getD h1, map_getD h2, h1, h2⟩
def bR (zs : List (ByteArray × Int)) : List (List AC) := zs.map fun p => [sC p.1, iC 3, iC p.2, sC ByteArray.empty, .nil]
theorem bR_len (zs : List (ByteArray × Int)) : (bR zs).length = zs.length := by simp [bR]
theorem bR_in (lb : Lk) (zs : List (ByteArray × Int)) : ∀ r, r ∈ bR zs → ∀ a, a ∈ r → inC lb a := by
  intro r hr a ha
  obtain ⟨p, _, rfl⟩ := List.mem_map.1 hr
  simp only [List.mem_cons, List.not_mem_nil, or_false] at ha
  rcases ha with rfl | rfl | rfl | rfl | rfl <;> trivial
theorem bR_isO (zs : List (ByteArray × Int)) : ∀ r, r ∈ bR zs → ∀ a, a ∈ r → isO a = true := by
  intro r hr a ha
  obtain ⟨p, _, rfl⟩ := List.mem_map.1 hr
  simp only [List.mem_cons, List.not_mem_nil, or_false] at ha
  rcases ha with rfl | rfl | rfl | rfl | rfl <;> rfl
theorem bR_toC (zs : List (ByteArray × Int)) : ((bR zs).map fun r => r.map toC) = (zs.map mkB).map GBind.enc := by
  simp [bR, mkB, GBind.enc, wordT, Tm.enc, Tm.encs, encS, toC]
theorem bR_snoc (zs : List (ByteArray × Int)) (v : ByteArray) (n : Int) : bR zs ++ [[sC v, iC 3, iC n, sC ByteArray.empty, .nil]] = bR (zs ++ [(v, n)]) := by simp [bR]

theorem specCaseSubst_sat (vars : List ByteArray) (c : Int) (hl : vars.length < 100000000) : Sat Try.prog 41 [slV (vars.map encS), intV c] (slV ((caseSubst vars c).map GBind.enc)) := by
  have hv := valsOf_len vars.length c
  have hzl := casePairs_len vars c
  have hcs : caseSubst vars c = (casePairs vars c).map mkB := rfl
  rw [hcs]
  refine sat_of_code tbOk mixed Try.func41 rfl rfl rfl (by decide +kernel) (by decide +kernel) (Nat.le_of_ble_eq_true rfl) ?_
  simp -implicitDefEqProofs (disch := omega) only [go_sem, ↓reduceIte, reduceCtorEq, Nat.reduceEqDiff, Nat.reduceLT, Nat.reduceLeDiff, Nat.reduceAdd, Nat.reduceSub, Nat.reduceMul, IntWalk.i64_in, AV.one.injEq, AC.c.injEq, C.v.injEq, Value.int.injEq, Value.bool.injEq, beq_self_eq_true, bne_self_eq_false, List.length_map]
  refine CallK.mk (specValuesOf_sat vars.length (by omega) c) ?_
  simp -implicitDefEqProofs (disch := omega) only [go_sem, ↓reduceIte, reduceCtorEq, Nat.reduceEqDiff, Nat.reduceLT, Nat.reduceLeDiff, Nat.reduceAdd, Nat.reduceSub, Nat.reduceMul, IntWalk.i64_in, AV.one.injEq, AC.c.injEq, C.v.injEq, Value.int.injEq, Value.bool.injEq, beq_self_eq_true, bne_self_eq_false, List.length_map]
  obtain ⟨ns, hns⟩ : ∃ ns, ns = valsOf vars.length c := ⟨_, rfl⟩
  have hat := pairs_at vars c
  rw [← hns] at hv hzl hat ⊢
  obtain ⟨zs, hzs⟩ : ∃ zs, zs = casePairs vars c := ⟨_, rfl⟩
  simp only [← hzs] at hzl hat ⊢
  refine loopA_rule (ι := Nat) (fun i => mk 33 [(0, slV (vars.map encS)), (5, .one (.own 8 (zs.take i).length)), (6, slV (ns.map encI)), (7, intV i)] [(8, .arr 95 5 (rowsOf GBind.enc ((zs.take i).map mkB)) false)]) (fun i => i ≤ zs.length) (fun i => zs.length - i) 0 (Nat.zero_le _) ?_ tbOk mixed (by decide +kernel) ?_
  · exact le_mk (by simp [go_sem]) (by simp [go_sem, rowsOf])
  · intro i hi
    have hln : (zs.take i).length ≤ zs.length := by rw [List.length_take]; omega
    rcases Nat.lt_or_ge i zs.length with hlt | hge
    · have ht : zs.take (i + 1) = zs.take i ++ [zs[i]] := by rw [List.take_add_one, List.getElem?_eq_getElem hlt]; rfl
      obtain ⟨v, n, hvn, hg1, hg2, hi1, hi2⟩ := hat i hlt
      rw [hvn] at ht
      simp only [encS] at hg1
      simp only [encI] at hg2
      simp -implicitDefEqProofs (disch := omega) only [go_sem, ↓reduceIte, reduceCtorEq, Nat.reduceEqDiff, Nat.reduceLT, Nat.reduceLeDiff, Nat.reduceAdd, Nat.reduceSub, Nat.reduceMul, IntWalk.i64_in, AV.one.injEq, AC.c.injEq, C.v.injEq, Value.int.injEq, Value.bool.injEq, beq_self_eq_true, bne_self_eq_false, hg1, hg2, hi1, hi2, List.length_map]
      refine CallK.mk (l3Word_sat n) ?_
      simp -implicitDefEqProofs (disch := omega) only [go_sem, ↓reduceIte, reduceCtorEq, Nat.reduceEqDiff, Nat.reduceLT, Nat.reduceLeDiff, Nat.reduceAdd, Nat.reduceSub, Nat.reduceMul, IntWalk.i64_in, AV.one.injEq, AC.c.injEq, C.v.injEq, Value.int.injEq, Value.bool.injEq, beq_self_eq_true, bne_self_eq_false, List.length_map]
      refine ⟨⟨by simp [wordT, Tm.enc], by omega, by omega⟩, fun _ => ⟨i + 1, hlt, by omega, ?_⟩⟩
      rw [ht]
      generalize zs.take i = acc
      exact le_mk (by simp [go_sem]) (by simp [go_sem]; simp [rowsOf, mkB, GBind.enc, encS])
    · have : i = zs.length := by omega
      subst this
      simp -implicitDefEqProofs (disch := omega) only [go_sem, ↓reduceIte, reduceCtorEq, Nat.reduceEqDiff, Nat.reduceLT, Nat.reduceLeDiff, Nat.reduceAdd, Nat.reduceSub, Nat.reduceMul, IntWalk.i64_in, AV.one.injEq, AC.c.injEq, C.v.injEq, Value.int.injEq, Value.bool.injEq, beq_self_eq_true, bne_self_eq_false, hzl, Nat.lt_irrefl, List.take_length, List.length_map]
      rw [← hzl, List.take_length, hzs]
theorem implCaseSubstF_sat (vars : List ByteArray) (c : Int) (hl : vars.length < 100000000) : SatF Try.prog 43 [slV (vars.map encS), intV c] (slV ((caseSubst vars c).map GBind.enc)) := by
  have hv := valsOf_len vars.length c
  have hzl := casePairs_len vars c
  have hcs : caseSubst vars c = (casePairs vars c).map mkB := rfl
  rw [hcs]
  refine satF_of_code [slV (((casePairs vars c).map mkB).map GBind.enc)] rfl (fun _ h => by cases h) tbOk mixed Try.func43 rfl rfl rfl (by decide +kernel) (by decide +kernel) (Nat.le_of_ble_eq_true rfl) ?_
  simp -implicitDefEqProofs (disch := omega) only [go_sem, ↓reduceIte, reduceCtorEq, Nat.reduceEqDiff, Nat.reduceLT, Nat.reduceLeDiff, Nat.reduceAdd, Nat.reduceSub, Nat.reduceMul, IntWalk.i64_in, AV.one.injEq, AC.c.injEq, C.v.injEq, Value.int.injEq, Value.bool.injEq, beq_self_eq_true, bne_self_eq_false, List.length_map]
  refine CallK.mk (implValuesOf_sat vars.length (by omega) c).sat ?_
  simp -implicitDefEqProofs (disch := omega) only [go_sem, ↓reduceIte, reduceCtorEq, Nat.reduceEqDiff, Nat.reduceLT, Nat.reduceLeDiff, Nat.reduceAdd, Nat.reduceSub, Nat.reduceMul, IntWalk.i64_in, AV.one.injEq, AC.c.injEq, C.v.injEq, Value.int.injEq, Value.bool.injEq, beq_self_eq_true, bne_self_eq_false, List.length_map]
  obtain ⟨ns, hns⟩ : ∃ ns, ns = valsOf vars.length c := ⟨_, rfl⟩
  have hat := pairs_at vars c
  rw [← hns] at hv hzl hat ⊢
  obtain ⟨zs, hzs⟩ : ∃ zs, zs = casePairs vars c := ⟨_, rfl⟩
  simp only [← hzs] at hzl hat ⊢
  refine loopA_rule (ι := Nat) (fun i => match i with
    | 0 => mk 30 [(0, slV (vars.map encS)), (5, .one .nil), (11, slV (ns.map encI)), (12, intV ns.length), (13, intV (0 : Nat))] []
    | i + 1 => mk 30 [(0, slV (vars.map encS)), (5, .one (.own 27 (i + 1))), (11, slV (ns.map encI)), (12, intV ns.length), (13, intV (i + 1 : Nat))] [(27, .arr 95 5 (bR (zs.take (i + 1))) false)]) (fun i => i ≤ zs.length) (fun i => zs.length - i) 0 (Nat.zero_le _) ?_ tbOk mixed (by decide +kernel) ?_
  · exact le_mk (by simp [go_sem]) (by simp [go_sem])
  · intro i hi
    rcases Nat.lt_or_ge i zs.length with hlt | hge
    · have ht : zs.take (i + 1) = zs.take i ++ [zs[i]] := by rw [List.take_add_one, List.getElem?_eq_getElem hlt]; rfl
      obtain ⟨v, n, hvn, hg1, hg2, hi1, hi2⟩ := hat i hlt
      rw [hvn] at ht
      simp only [encS] at hg1
      simp only [encI] at hg2
      cases i with
      | zero =>
        simp only [List.take_zero, List.nil_append] at ht
        simp -implicitDefEqProofs (disch := omega) only [go_sem, ↓reduceIte, reduceCtorEq, Nat.reduceEqDiff, Nat.reduceLT, Nat.reduceLeDiff, Nat.reduceAdd, Nat.reduceSub, Nat.reduceMul, IntWalk.i64_in, AV.one.injEq, AC.c.injEq, C.v.injEq, Value.int.injEq, Value.bool.injEq, beq_self_eq_true, bne_self_eq_false, hg1, hg2, hi1, hi2, List.length_map]
        refine ⟨by simp, fun _ => ⟨1, by omega, by omega, ?_⟩⟩
        exact le_mk (by simp [go_sem]) (by simp [go_sem, ht, bR]; rfl)
      | succ i =>
        have hdl : (zs.take (i + 1)).length = i + 1 := by rw [List.length_take]; omega
        simp -implicitDefEqProofs (disch := omega) only [go_sem, ↓reduceIte, reduceCtorEq, Nat.reduceEqDiff, Nat.reduceLT, Nat.reduceLeDiff, Nat.reduceAdd, Nat.reduceSub, Nat.reduceMul, IntWalk.i64_in, AV.one.injEq, AC.c.injEq, C.v.injEq, Value.int.injEq, Value.bool.injEq, beq_self_eq_true, bne_self_eq_false, hg1, hg2, hi1, hi2, List.length_map, bR_len, hdl]
        refine ⟨⟨by simp, by omega, by omega⟩, fun _ => ⟨i + 2, by omega, by omega, ?_⟩⟩
        refine le_mk (by simp [go_sem]) ?_
        refine ⟨?_, bR_in _ _, trivial⟩
        simp only [lookB_cons, if_true, ht, ← bR_snoc]
        rfl
    · have : i = zs.length := by omega
      subst this
      cases hz : zs with
      | nil =>
        rw [hz] at hzl
        have hn0 : ns.length = 0 := hzl.symm
        simp -implicitDefEqProofs (disch := omega) only [go_sem, ↓reduceIte, reduceCtorEq, Nat.reduceEqDiff, Nat.reduceLT, Nat.reduceLeDiff, Nat.reduceAdd, Nat.reduceSub, Nat.reduceMul, IntWalk.i64_in, AV.one.injEq, AC.c.injEq, C.v.injEq, Value.int.injEq, Value.bool.injEq, beq_self_eq_true, bne_self_eq_false, hn0, Nat.lt_irrefl, List.map_nil, List.length_nil]
        rw [← hzs, hz]
        trivial
      | cons z zs' =>
        rw [hz] at hzl
        have hn0 : ns.length = zs'.length + 1 := by rw [← hzl]; rfl
        simp -implicitDefEqProofs (disch := omega) only [go_sem, ↓reduceIte, reduceCtorEq, Nat.reduceEqDiff, Nat.reduceLT, Nat.reduceLeDiff, Nat.reduceAdd, Nat.reduceSub, Nat.reduceMul, IntWalk.i64_in, AV.one.injEq, AC.c.injEq, C.v.injEq, Value.int.injEq, Value.bool.injEq, beq_self_eq_true, bne_self_eq_false, hn0, Nat.lt_irrefl, List.length_cons, bR_len, List.take_length]
        exact ⟨bR_isO _, by rw [bR_toC, ← hzs, hz]⟩
theorem lawCaseSubst_sat (vars : List ByteArray) (c : Int) (hw_vars : (wfL wfS) vars) (hw_c : wfI c) : Sat Try.prog 9 [slV (vars.map encS), intV c] (boolV true) := by
  refine sat_of_code tbOk mixed Try.func9 rfl rfl rfl (by decide +kernel) (by decide +kernel) (Nat.le_of_ble_eq_true rfl) ?_
  simp -implicitDefEqProofs (disch := omega) only [go_sem, ↓reduceIte, reduceCtorEq, Nat.reduceEqDiff, Nat.reduceLT, Nat.reduceLeDiff, Nat.reduceAdd, Nat.reduceSub, Nat.reduceMul, IntWalk.i64_in, AV.one.injEq, AC.c.injEq, C.v.injEq, Value.int.injEq, Value.bool.injEq, beq_self_eq_true, bne_self_eq_false]
  refine CallK.mk (szStringS_sat vars hw_vars 1048576 (by grind [szR]) (by grind [szR])) ?_
  simp -implicitDefEqProofs (disch := omega) only [go_sem, ↓reduceIte, reduceCtorEq, Nat.reduceEqDiff, Nat.reduceLT, Nat.reduceLeDiff, Nat.reduceAdd, Nat.reduceSub, Nat.reduceMul, IntWalk.i64_in, AV.one.injEq, AC.c.injEq, C.v.injEq, Value.int.injEq, Value.bool.injEq, beq_self_eq_true, bne_self_eq_false]
  intro hz_vars
  have hs_vars : (szL szS) vars < 1048577 := by grind [szR]
  have hcl : vars.length < 1048577 := by have := len_szL szS vars; omega
  have hl0 := caseSubst_len vars c
  obtain ⟨R0, hRe⟩ : ∃ R, R = caseSubst vars c := ⟨_, rfl⟩
  have hRw0 : wfL GBind.wf R0 := by rw [hRe]; exact caseSubst_wf vars c hw_vars.2
  have hRs0 : szL GBind.size R0 ≤ 1500000 := by
    rw [hRe]; have := caseSubst_size vars c; omega
  have hsp := specCaseSubst_sat vars c (by omega)
  have him := implCaseSubstF_sat vars c (by omega)
  rw [← hRe] at hsp him
  refine CallK.mk (toStringS_sat vars hs_vars) ?_
  simp -implicitDefEqProofs (disch := omega) only [go_sem, ↓reduceIte, reduceCtorEq, Nat.reduceEqDiff, Nat.reduceLT, Nat.reduceLeDiff, Nat.reduceAdd, Nat.reduceSub, Nat.reduceMul, IntWalk.i64_in, AV.one.injEq, AC.c.injEq, C.v.injEq, Value.int.injEq, Value.bool.injEq, beq_self_eq_true, bne_self_eq_false, and_self]
  refine CallK.mk (hsp) ?_
  simp -implicitDefEqProofs (disch := omega) only [go_sem, ↓reduceIte, reduceCtorEq, Nat.reduceEqDiff, Nat.reduceLT, Nat.reduceLeDiff, Nat.reduceAdd, Nat.reduceSub, Nat.reduceMul, IntWalk.i64_in, AV.one.injEq, AC.c.injEq, C.v.injEq, Value.int.injEq, Value.bool.injEq, beq_self_eq_true, bne_self_eq_false, and_self]
  have toX_vars := toStringS_sat vars hs_vars
  have toF_vars := toStringSF_sat vars hs_vars
  have eqX_vars := eqStringS_sat vars hw_vars vars
  have reX_vars := (eqL_refl eqS_refl) vars
  have hq_vars : cntRows (vars.map encS) ≤ 64 * (szL szS) vars := by
    have h2 := cntRows_le (vars.map encS) (narRows_map encS (fun y => ⟨by simp [encS], narE_S y⟩) vars)
    rwa [cszRows_map encS szS cszE_S] at h2
  have implF := him
  have eqR_0 := eqBindS_sat R0 hRw0 R0
  have reR_0 := (eqL_refl GBind.eqb_refl) R0
  have hqR_0 : cntRows (R0.map GBind.enc) ≤ 64 * (szL GBind.size) R0 := by
    have h2 := cntRows_le (R0.map GBind.enc) (narRows_map GBind.enc (fun y => ⟨by rw [GBind.enc_len]; omega, GBind.nar y⟩) R0)
    rwa [cszRows_map GBind.enc GBind.size GBind.csz] at h2
  have hc_vars_vars := mkRows_cnt (vars.map encS) 1
  have hcR_0_R0 := mkRows_cnt (R0.map GBind.enc) 1
  refine CallK.own toF_vars rfl ?_
  simp -implicitDefEqProofs (disch := omega) only [go_sem, ↓reduceIte, reduceCtorEq, Nat.reduceEqDiff, Nat.reduceLT, Nat.reduceLeDiff, Nat.reduceAdd, Nat.reduceSub, Nat.reduceMul, IntWalk.i64_in, AV.one.injEq, AC.c.injEq, C.v.injEq, Value.int.injEq, Value.bool.injEq, beq_self_eq_true, bne_self_eq_false, List.cons_append, List.nil_append, List.append_nil, Tm.args]
  refine CallK.own implF rfl ?_
  simp -implicitDefEqProofs (disch := omega) only [go_sem, ↓reduceIte, reduceCtorEq, Nat.reduceEqDiff, Nat.reduceLT, Nat.reduceLeDiff, Nat.reduceAdd, Nat.reduceSub, Nat.reduceMul, IntWalk.i64_in, AV.one.injEq, AC.c.injEq, C.v.injEq, Value.int.injEq, Value.bool.injEq, beq_self_eq_true, bne_self_eq_false, List.cons_append, List.nil_append, List.append_nil, Tm.args]
  refine CallK.bor eqR_0 rfl ?_
  simp -implicitDefEqProofs (disch := omega) only [go_sem, ↓reduceIte, reduceCtorEq, Nat.reduceEqDiff, Nat.reduceLT, Nat.reduceLeDiff, Nat.reduceAdd, Nat.reduceSub, Nat.reduceMul, IntWalk.i64_in, AV.one.injEq, AC.c.injEq, C.v.injEq, Value.int.injEq, Value.bool.injEq, beq_self_eq_true, bne_self_eq_false, List.cons_append, List.nil_append, List.append_nil, Tm.args, reR_0]
  refine CallK.mk toX_vars ?_
  simp -implicitDefEqProofs (disch := omega) only [go_sem, ↓reduceIte, reduceCtorEq, Nat.reduceEqDiff, Nat.reduceLT, Nat.reduceLeDiff, Nat.reduceAdd, Nat.reduceSub, Nat.reduceMul, IntWalk.i64_in, AV.one.injEq, AC.c.injEq, C.v.injEq, Value.int.injEq, Value.bool.injEq, beq_self_eq_true, bne_self_eq_false, List.cons_append, List.nil_append, List.append_nil, Tm.args]
  refine CallK.bor eqX_vars rfl ?_
  simp -implicitDefEqProofs (disch := omega) only [go_sem, ↓reduceIte, reduceCtorEq, Nat.reduceEqDiff, Nat.reduceLT, Nat.reduceLeDiff, Nat.reduceAdd, Nat.reduceSub, Nat.reduceMul, IntWalk.i64_in, AV.one.injEq, AC.c.injEq, C.v.injEq, Value.int.injEq, Value.bool.injEq, beq_self_eq_true, bne_self_eq_false, List.cons_append, List.nil_append, List.append_nil, Tm.args, reX_vars]
  refine CallK.mut (markStringS_sat vars hw_vars 1 (by omega) (by omega)) ?_
  simp -implicitDefEqProofs (disch := omega) only [go_sem, ↓reduceIte, reduceCtorEq, Nat.reduceEqDiff, Nat.reduceLT, Nat.reduceLeDiff, Nat.reduceAdd, Nat.reduceSub, Nat.reduceMul, IntWalk.i64_in, AV.one.injEq, AC.c.injEq, C.v.injEq, Value.int.injEq, Value.bool.injEq, beq_self_eq_true, bne_self_eq_false, List.cons_append, List.nil_append, List.append_nil, Tm.args]
  refine ⟨fun _ => ?_, fun h => by omega⟩
  refine CallK.bor eqR_0 rfl ?_
  simp -implicitDefEqProofs (disch := omega) only [go_sem, ↓reduceIte, reduceCtorEq, Nat.reduceEqDiff, Nat.reduceLT, Nat.reduceLeDiff, Nat.reduceAdd, Nat.reduceSub, Nat.reduceMul, IntWalk.i64_in, AV.one.injEq, AC.c.injEq, C.v.injEq, Value.int.injEq, Value.bool.injEq, beq_self_eq_true, bne_self_eq_false, List.cons_append, List.nil_append, List.append_nil, Tm.args, reR_0]
  refine CallK.mut (markBindS_sat R0 hRw0 1 (by omega) (by omega)) ?_
  simp -implicitDefEqProofs (disch := omega) only [go_sem, ↓reduceIte, reduceCtorEq, Nat.reduceEqDiff, Nat.reduceLT, Nat.reduceLeDiff, Nat.reduceAdd, Nat.reduceSub, Nat.reduceMul, IntWalk.i64_in, AV.one.injEq, AC.c.injEq, C.v.injEq, Value.int.injEq, Value.bool.injEq, beq_self_eq_true, bne_self_eq_false, List.cons_append, List.nil_append, List.append_nil, Tm.args]
  refine CallK.bor (heldBindS_sat R0 hRw0 1 (by omega) (by omega)) rfl ?_
  simp -implicitDefEqProofs (disch := omega) only [go_sem, ↓reduceIte, reduceCtorEq, Nat.reduceEqDiff, Nat.reduceLT, Nat.reduceLeDiff, Nat.reduceAdd, Nat.reduceSub, Nat.reduceMul, IntWalk.i64_in, AV.one.injEq, AC.c.injEq, C.v.injEq, Value.int.injEq, Value.bool.injEq, beq_self_eq_true, bne_self_eq_false, List.cons_append, List.nil_append, List.append_nil, Tm.args]
  refine ⟨fun h => by omega, fun _ => ?_⟩
  refine CallK.mk toX_vars ?_
  simp -implicitDefEqProofs (disch := omega) only [go_sem, ↓reduceIte, reduceCtorEq, Nat.reduceEqDiff, Nat.reduceLT, Nat.reduceLeDiff, Nat.reduceAdd, Nat.reduceSub, Nat.reduceMul, IntWalk.i64_in, AV.one.injEq, AC.c.injEq, C.v.injEq, Value.int.injEq, Value.bool.injEq, beq_self_eq_true, bne_self_eq_false, List.cons_append, List.nil_append, List.append_nil, Tm.args]
  refine CallK.mk implF.sat ?_
  simp -implicitDefEqProofs (disch := omega) only [go_sem, ↓reduceIte, reduceCtorEq, Nat.reduceEqDiff, Nat.reduceLT, Nat.reduceLeDiff, Nat.reduceAdd, Nat.reduceSub, Nat.reduceMul, IntWalk.i64_in, AV.one.injEq, AC.c.injEq, C.v.injEq, Value.int.injEq, Value.bool.injEq, beq_self_eq_true, bne_self_eq_false, List.cons_append, List.nil_append, List.append_nil, Tm.args]
  refine CallK.bor eqR_0 rfl ?_
  simp -implicitDefEqProofs (disch := omega) only [go_sem, ↓reduceIte, reduceCtorEq, Nat.reduceEqDiff, Nat.reduceLT, Nat.reduceLeDiff, Nat.reduceAdd, Nat.reduceSub, Nat.reduceMul, IntWalk.i64_in, AV.one.injEq, AC.c.injEq, C.v.injEq, Value.int.injEq, Value.bool.injEq, beq_self_eq_true, bne_self_eq_false, List.cons_append, List.nil_append, List.append_nil, Tm.args, reR_0]
  refine CallK.bor (heldBindS_sat R0 hRw0 1 (by omega) (by omega)) rfl ?_
  simp -implicitDefEqProofs (disch := omega) only [go_sem, ↓reduceIte, reduceCtorEq, Nat.reduceEqDiff, Nat.reduceLT, Nat.reduceLeDiff, Nat.reduceAdd, Nat.reduceSub, Nat.reduceMul, IntWalk.i64_in, AV.one.injEq, AC.c.injEq, C.v.injEq, Value.int.injEq, Value.bool.injEq, beq_self_eq_true, bne_self_eq_false, List.cons_append, List.nil_append, List.append_nil, Tm.args]
  first | (intro h; omega) | exact ⟨fun h => by omega, fun _ => trivial⟩
end Go.Ai
