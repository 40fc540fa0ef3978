/- EqualDefinition. -/
import Derived.Test.YtdjleacnjijbjaaAiD1
namespace Go.Ai
set_option linter.unusedVariables false
set_option linter.unusedSimpArgs false
open Go.Proofs
set_option maxRecDepth 100000

theorem implEqualDefinition_sat (x : GDefinition) (hw : x.wf) (y : GDefinition) : Sat Try.prog 41 [aggV x.enc, aggV y.enc] (boolV (x.eqb y)) := by
  obtain ⟨r, hr⟩ : ∃ r, r = x.eqb y := ⟨_, rfl⟩
  rw [← hr]
  obtain ⟨⟨so, op⟩, ru, st⟩ := x
  obtain ⟨⟨so', op'⟩, ru', st'⟩ := y
  simp only [GDefinition.wf, GSignature.wf] at hw
  simp only [GDefinition.eqb, GSignature.eqb] at hr
  refine sat_of_code tbOk mixed Try.func41 rfl rfl rfl (by decide +kernel) (by decide +kernel) (Nat.le_of_ble_eq_true rfl) ?_
  simp -implicitDefEqProofs (disch := omega) only [go_sem, ↓reduceIte, reduceCtorEq, Nat.reduceEqDiff, Nat.reduceLT, Nat.reduceLeDiff, Nat.reduceAdd, Nat.reduceSub, Nat.reduceMul, IntWalk.i64_in, AV.one.injEq, AC.c.injEq, C.v.injEq, Value.int.injEq, Value.bool.injEq, beq_self_eq_true, bne_self_eq_false, GDefinition.enc, GSignature.enc, encL, List.cons_append, List.nil_append, List.append_nil]
  refine CallK.mk (slicesEqualString_sat so hw.1.1 so') ?_
  simp -implicitDefEqProofs (disch := omega) only [go_sem, ↓reduceIte, reduceCtorEq, Nat.reduceEqDiff, Nat.reduceLT, Nat.reduceLeDiff, Nat.reduceAdd, Nat.reduceSub, Nat.reduceMul, IntWalk.i64_in, AV.one.injEq, AC.c.injEq, C.v.injEq, Value.int.injEq, Value.bool.injEq, beq_self_eq_true, bne_self_eq_false]
  refine ⟨fun h0 => ?_, fun h0 => by grind⟩
  refine CallK.mk (equalFuncOp_sat op hw.1.2 op') ?_
  simp -implicitDefEqProofs (disch := omega) only [go_sem, ↓reduceIte, reduceCtorEq, Nat.reduceEqDiff, Nat.reduceLT, Nat.reduceLeDiff, Nat.reduceAdd, Nat.reduceSub, Nat.reduceMul, IntWalk.i64_in, AV.one.injEq, AC.c.injEq, C.v.injEq, Value.int.injEq, Value.bool.injEq, beq_self_eq_true, bne_self_eq_false]
  refine ⟨fun h1 => ?_, fun h1 => by grind⟩
  refine CallK.mk (equalFuncRule_sat ru hw.2.1 ru') ?_
  simp -implicitDefEqProofs (disch := omega) only [go_sem, ↓reduceIte, reduceCtorEq, Nat.reduceEqDiff, Nat.reduceLT, Nat.reduceLeDiff, Nat.reduceAdd, Nat.reduceSub, Nat.reduceMul, IntWalk.i64_in, AV.one.injEq, AC.c.injEq, C.v.injEq, Value.int.injEq, Value.bool.injEq, beq_self_eq_true, bne_self_eq_false]
  refine ⟨fun h2 => ?_, fun h2 => by grind⟩
  refine CallK.mk (slicesEqualStrict_sat st hw.2.2 st') ?_
  simp -implicitDefEqProofs (disch := omega) only [go_sem, ↓reduceIte, reduceCtorEq, Nat.reduceEqDiff, Nat.reduceLT, Nat.reduceLeDiff, Nat.reduceAdd, Nat.reduceSub, Nat.reduceMul, IntWalk.i64_in, AV.one.injEq, AC.c.injEq, C.v.injEq, Value.int.injEq, Value.bool.injEq, beq_self_eq_true, bne_self_eq_false]
  grind

theorem specSameSignature_sat (x : GSignature) (hw : x.wf) (y : GSignature) : Sat Try.prog 98 [aggV x.enc, aggV y.enc] (boolV (x.eqb y)) := by
  obtain ⟨r, hr⟩ : ∃ r, r = x.eqb y := ⟨_, rfl⟩
  rw [← hr]
  obtain ⟨so, op⟩ := x
  obtain ⟨so', op'⟩ := y
  simp only [GSignature.wf] at hw
  have hl := hw.2.1
  simp only [maxLen] at hl
  simp only [GSignature.eqb] at hr
  refine sat_of_code tbOk mixed Try.func98 rfl rfl rfl (by decide +kernel) (by decide +kernel) (Nat.le_of_ble_eq_true rfl) ?_
  simp -implicitDefEqProofs (disch := omega) only [go_sem, ↓reduceIte, reduceCtorEq, Nat.reduceEqDiff, Nat.reduceLT, Nat.reduceLeDiff, Nat.reduceAdd, Nat.reduceSub, Nat.reduceMul, IntWalk.i64_in, AV.one.injEq, AC.c.injEq, C.v.injEq, Value.int.injEq, Value.bool.injEq, beq_self_eq_true, bne_self_eq_false, GSignature.enc, encL, List.cons_append, List.nil_append, List.append_nil]
  refine CallK.mk (specl10Texts_sat so hw.1 so') ?_
  simp -implicitDefEqProofs (disch := omega) only [go_sem, ↓reduceIte, reduceCtorEq, Nat.reduceEqDiff, Nat.reduceLT, Nat.reduceLeDiff, Nat.reduceAdd, Nat.reduceSub, Nat.reduceMul, IntWalk.i64_in, AV.one.injEq, AC.c.injEq, C.v.injEq, Value.int.injEq, Value.bool.injEq, beq_self_eq_true, bne_self_eq_false]
  refine ⟨fun h1 => ⟨fun h4 => ?_, fun h4 => ?_⟩, fun h1 => by grind⟩
  · rw [eqL_len GOp.eqb op op' (by omega)] at hr; grind
  · have hll : op.length = op'.length := by simp at h4; omega
    have hr : r = eqL GOp.eqb op op' := by grind
    refine loopA_rule (ι := Nat) (fun i => mk 72 [(2, .one (.ptr 2 0)), (3, .one (.ptr 3 0)), (5, intV i)] [(2, .var [.c (.sl (so.map encS)), .c (.sl (op.map GOp.enc))]), (3, .var [.c (.sl (so'.map encS)), .c (.sl (op'.map GOp.enc))])])
      (fun i => i ≤ op.length ∧ eqL GOp.eqb (op.drop i) (op'.drop i) = eqL GOp.eqb op op') (fun i => op.length - i) 0 ⟨Nat.zero_le _, by simp⟩ ?_ tbOk mixed (by decide +kernel) ?_
    · exact le_mk (by simp [go_sem]) (by simp [go_sem])
    · rintro i ⟨hi, he⟩
      rcases Nat.lt_or_ge i op.length with hlt | hge
      · have hlt' : i < op'.length := by omega
        have hg := map_getD (ec := GOp.enc) hlt
        have hg' := map_getD (ec := GOp.enc) hlt'
        rw [eqL_drop GOp.eqb op op' i hlt hlt'] at he
        have hx := hw.2.2 _ (List.getElem_mem hlt)
        generalize op[i] = u at hg he hx
        generalize op'[i] = v at hg' he
        obtain ⟨na, ar, re⟩ := u
        obtain ⟨na', ar', re'⟩ := v
        simp only [GOp.wf] at hx
        simp only [GOp.eqb, eqS] at he
        simp only [GOp.enc, encS, encL, List.cons_append, List.nil_append] at hg hg'
        simp -implicitDefEqProofs (disch := omega) only [go_sem, ↓reduceIte, reduceCtorEq, Nat.reduceEqDiff, Nat.reduceLT, Nat.reduceLeDiff, Nat.reduceAdd, Nat.reduceSub, Nat.reduceMul, IntWalk.i64_in, AV.one.injEq, AC.c.injEq, C.v.injEq, Value.int.injEq, Value.bool.injEq, beq_self_eq_true, bne_self_eq_false, hg, hg', hlt, hlt']
        refine ⟨fun h1 => ⟨fun h2 => ?_, fun h2 => by grind⟩, fun h1 => by grind⟩
        refine CallK.mk (specl10Texts_sat ar hx.2.1 ar') ?_
        simp -implicitDefEqProofs (disch := omega) only [go_sem, ↓reduceIte, reduceCtorEq, Nat.reduceEqDiff, Nat.reduceLT, Nat.reduceLeDiff, Nat.reduceAdd, Nat.reduceSub, Nat.reduceMul, IntWalk.i64_in, AV.one.injEq, AC.c.injEq, C.v.injEq, Value.int.injEq, Value.bool.injEq, beq_self_eq_true, bne_self_eq_false]
        refine ⟨fun h => by grind, fun h => ⟨i + 1, ⟨hlt, by grind⟩, by omega, le_mk (by simp [go_sem]) (by simp [go_sem])⟩⟩
      · have e1 : op.drop i = [] := List.drop_of_length_le hge
        have e2 : op'.drop i = [] := List.drop_of_length_le (by omega)
        rw [e1, e2] at he
        simp -implicitDefEqProofs (disch := omega) only [go_sem, ↓reduceIte, reduceCtorEq, Nat.reduceEqDiff, Nat.reduceLT, Nat.reduceLeDiff, Nat.reduceAdd, Nat.reduceSub, Nat.reduceMul, IntWalk.i64_in, AV.one.injEq, AC.c.injEq, C.v.injEq, Value.int.injEq, Value.bool.injEq, beq_self_eq_true, bne_self_eq_false, Nat.not_lt.2 hge]
        rw [hr, ← he]; rfl

theorem specEqualDefinition_sat (x : GDefinition) (hw : x.wf) (y : GDefinition) : Sat Try.prog 40 [aggV x.enc, aggV y.enc] (boolV (x.eqb y)) := by
  obtain ⟨r, hr⟩ : ∃ r, r = x.eqb y := ⟨_, rfl⟩
  rw [← hr]
  obtain ⟨⟨so, op⟩, ru, st⟩ := x
  obtain ⟨⟨so', op'⟩, ru', st'⟩ := y
  simp only [GDefinition.wf] at hw
  have hl := hw.2.1.1
  have hl2 := hw.2.2.1
  simp only [maxLen] at hl hl2
  simp only [GDefinition.eqb] at hr
  refine sat_of_code tbOk mixed Try.func40 rfl rfl rfl (by decide +kernel) (by decide +kernel) (Nat.le_of_ble_eq_true rfl) ?_
  simp -implicitDefEqProofs (disch := omega) only [go_sem, ↓reduceIte, reduceCtorEq, Nat.reduceEqDiff, Nat.reduceLT, Nat.reduceLeDiff, Nat.reduceAdd, Nat.reduceSub, Nat.reduceMul, IntWalk.i64_in, AV.one.injEq, AC.c.injEq, C.v.injEq, Value.int.injEq, Value.bool.injEq, beq_self_eq_true, bne_self_eq_false, GDefinition.enc, GSignature.enc, encL, List.cons_append, List.nil_append, List.append_nil]
  refine CallK.mk (specSameSignature_sat ⟨so, op⟩ hw.1 ⟨so', op'⟩) ?_
  simp -implicitDefEqProofs (disch := omega) only [go_sem, ↓reduceIte, reduceCtorEq, Nat.reduceEqDiff, Nat.reduceLT, Nat.reduceLeDiff, Nat.reduceAdd, Nat.reduceSub, Nat.reduceMul, IntWalk.i64_in, AV.one.injEq, AC.c.injEq, C.v.injEq, Value.int.injEq, Value.bool.injEq, beq_self_eq_true, bne_self_eq_false]
  refine ⟨fun h1 => ⟨fun h2 => ⟨fun h3 => ?_, fun h3 => ?_⟩, fun h2 => ?_⟩, fun h1 => by grind⟩
  · rw [eqL_len GStrict.eqb st st' (by omega)] at hr; grind
  · have hll : ru.length = ru'.length := by simp at h2; omega
    have hl3 : st.length = st'.length := by simp at h3; omega
    have hr : r = (eqL GRule.eqb ru ru' && eqL GStrict.eqb st st') := by grind
    refine loopA_rule (ι := Nat) (fun i => mk 97 [(2, .one (.ptr 2 0)), (3, .one (.ptr 3 0)), (5, intV i)] [(2, .var [.c (.sl (so.map encS)), .c (.sl (op.map GOp.enc)), .c (.sl (ru.map GRule.enc)), .c (.sl (st.map GStrict.enc))]), (3, .var [.c (.sl (so'.map encS)), .c (.sl (op'.map GOp.enc)), .c (.sl (ru'.map GRule.enc)), .c (.sl (st'.map GStrict.enc))])])
      (fun i => i ≤ ru.length ∧ eqL GRule.eqb (ru.drop i) (ru'.drop i) = eqL GRule.eqb ru ru') (fun i => ru.length - i) 0 ⟨Nat.zero_le _, by simp⟩ ?_ tbOk mixed (by decide +kernel) ?_
    · exact le_mk (by simp [go_sem]) (by simp [go_sem])
    · rintro i ⟨hi, he⟩
      rcases Nat.lt_or_ge i ru.length with hlt | hge
      · have hlt' : i < ru'.length := by omega
        have hg := map_getD (ec := GRule.enc) hlt
        have hg' := map_getD (ec := GRule.enc) hlt'
        rw [eqL_drop GRule.eqb ru ru' i hlt hlt'] at he
        have hx := hw.2.1.2 _ (List.getElem_mem hlt)
        generalize ru[i] = u at hg he hx
        generalize ru'[i] = v at hg' he
        obtain ⟨na, ⟨a, b, c, d⟩, ⟨e, f, g, h⟩, gu⟩ := u
        obtain ⟨na', ⟨a', b', c', d'⟩, ⟨e', f', g', h'⟩, gu'⟩ := v
        simp only [GRule.wf] at hx
        simp only [GRule.eqb, eqS] at he
        simp only [GRule.enc, Tm.enc, encS, encL, List.cons_append, List.nil_append] at hg hg'
        simp -implicitDefEqProofs (disch := omega) only [go_sem, ↓reduceIte, reduceCtorEq, Nat.reduceEqDiff, Nat.reduceLT, Nat.reduceLeDiff, Nat.reduceAdd, Nat.reduceSub, Nat.reduceMul, IntWalk.i64_in, AV.one.injEq, AC.c.injEq, C.v.injEq, Value.int.injEq, Value.bool.injEq, beq_self_eq_true, bne_self_eq_false, hg, hg', hlt, hlt']
        refine ⟨fun h1 => ?_, fun h1 => by grind⟩
        refine CallK.mk (specEqualTerm_sat (.mk a b c d) hx.2.1 (.mk a' b' c' d')) ?_
        simp -implicitDefEqProofs (disch := omega) only [go_sem, ↓reduceIte, reduceCtorEq, Nat.reduceEqDiff, Nat.reduceLT, Nat.reduceLeDiff, Nat.reduceAdd, Nat.reduceSub, Nat.reduceMul, IntWalk.i64_in, AV.one.injEq, AC.c.injEq, C.v.injEq, Value.int.injEq, Value.bool.injEq, beq_self_eq_true, bne_self_eq_false]
        refine ⟨fun h2 => ?_, fun h2 => by grind⟩
        refine CallK.mk (specEqualTerm_sat (.mk e f g h) hx.2.2.1 (.mk e' f' g' h')) ?_
        simp -implicitDefEqProofs (disch := omega) only [go_sem, ↓reduceIte, reduceCtorEq, Nat.reduceEqDiff, Nat.reduceLT, Nat.reduceLeDiff, Nat.reduceAdd, Nat.reduceSub, Nat.reduceMul, IntWalk.i64_in, AV.one.injEq, AC.c.injEq, C.v.injEq, Value.int.injEq, Value.bool.injEq, beq_self_eq_true, bne_self_eq_false]
        refine ⟨fun h3 => ?_, fun h3 => by grind⟩
        refine CallK.mk (specl10Guards_sat gu hx.2.2.2 gu') ?_
        simp -implicitDefEqProofs (disch := omega) only [go_sem, ↓reduceIte, reduceCtorEq, Nat.reduceEqDiff, Nat.reduceLT, Nat.reduceLeDiff, Nat.reduceAdd, Nat.reduceSub, Nat.reduceMul, IntWalk.i64_in, AV.one.injEq, AC.c.injEq, C.v.injEq, Value.int.injEq, Value.bool.injEq, beq_self_eq_true, bne_self_eq_false]
        refine ⟨fun h => by grind, fun h => ⟨i + 1, ⟨hlt, by grind⟩, by omega, le_mk (by simp [go_sem]) (by simp [go_sem])⟩⟩
      · have e1 : ru.drop i = [] := List.drop_of_length_le hge
        have e2 : ru'.drop i = [] := List.drop_of_length_le (by omega)
        rw [e1, e2] at he
        have hr : r = eqL GStrict.eqb st st' := by rw [hr, ← he]; rfl
        clear he e1 e2
        simp -implicitDefEqProofs (disch := omega) only [go_sem, ↓reduceIte, reduceCtorEq, Nat.reduceEqDiff, Nat.reduceLT, Nat.reduceLeDiff, Nat.reduceAdd, Nat.reduceSub, Nat.reduceMul, IntWalk.i64_in, AV.one.injEq, AC.c.injEq, C.v.injEq, Value.int.injEq, Value.bool.injEq, beq_self_eq_true, bne_self_eq_false, Nat.not_lt.2 hge]
        refine loopA_rule (ι := Nat) (fun i => mk 97 [(2, .one (.ptr 2 0)), (3, .one (.ptr 3 0)), (8, intV i)] [(2, .var [.c (.sl (so.map encS)), .c (.sl (op.map GOp.enc)), .c (.sl (ru.map GRule.enc)), .c (.sl (st.map GStrict.enc))]), (3, .var [.c (.sl (so'.map encS)), .c (.sl (op'.map GOp.enc)), .c (.sl (ru'.map GRule.enc)), .c (.sl (st'.map GStrict.enc))])])
          (fun i => i ≤ st.length ∧ eqL GStrict.eqb (st.drop i) (st'.drop i) = eqL GStrict.eqb st st') (fun i => st.length - i) 0 ⟨Nat.zero_le _, by simp⟩ ?_ tbOk mixed (by decide +kernel) ?_
        · exact le_mk (by simp [go_sem]) (by simp [go_sem])
        · rintro i ⟨hi, he⟩
          rcases Nat.lt_or_ge i st.length with hlt | hge
          · have hlt' : i < st'.length := by omega
            have hg := map_getD (ec := GStrict.enc) hlt
            have hg' := map_getD (ec := GStrict.enc) hlt'
            rw [eqL_drop GStrict.eqb st st' i hlt hlt'] at he
            generalize st[i] = u at hg he
            generalize st'[i] = v at hg' he
            obtain ⟨a, b⟩ := u
            obtain ⟨a', b'⟩ := v
            simp only [GStrict.eqb, eqS, eqI] at he
            simp only [GStrict.enc, encS, encI, List.cons_append, List.nil_append] at hg hg'
            simp -implicitDefEqProofs (disch := omega) only [go_sem, ↓reduceIte, reduceCtorEq, Nat.reduceEqDiff, Nat.reduceLT, Nat.reduceLeDiff, Nat.reduceAdd, Nat.reduceSub, Nat.reduceMul, IntWalk.i64_in, AV.one.injEq, AC.c.injEq, C.v.injEq, Value.int.injEq, Value.bool.injEq, beq_self_eq_true, bne_self_eq_false, hg, hg', hlt, hlt']
            refine ⟨fun h => by grind, fun h => ⟨i + 1, ⟨hlt, by grind⟩, by omega, le_mk (by simp [go_sem]) (by simp [go_sem])⟩⟩
          · have e1 : st.drop i = [] := List.drop_of_length_le hge
            have e2 : st'.drop i = [] := List.drop_of_length_le (by omega)
            rw [e1, e2] at he
            simp -implicitDefEqProofs (disch := omega) only [go_sem, ↓reduceIte, reduceCtorEq, Nat.reduceEqDiff, Nat.reduceLT, Nat.reduceLeDiff, Nat.reduceAdd, Nat.reduceSub, Nat.reduceMul, IntWalk.i64_in, AV.one.injEq, AC.c.injEq, C.v.injEq, Value.int.injEq, Value.bool.injEq, beq_self_eq_true, bne_self_eq_false, Nat.not_lt.2 hge]
            rw [hr, ← he]; rfl
  · rw [eqL_len GRule.eqb ru ru' (by omega)] at hr; grind

theorem lawEqualDefinition_sat (x y : GDefinition) (hx : x.wf) (hy : y.wf) : Sat Try.prog 7 [aggV x.enc, aggV y.enc] (boolV true) := by
  refine sat_of_code tbOk mixed Try.func7 rfl rfl rfl (by decide +kernel) (by decide +kernel) (Nat.le_of_ble_eq_true rfl) ?_
  simp -implicitDefEqProofs (disch := omega) only [go_sem, ↓reduceIte, reduceCtorEq, Nat.reduceEqDiff, Nat.reduceLT, Nat.reduceLeDiff, Nat.reduceAdd, Nat.reduceSub, Nat.reduceMul, IntWalk.i64_in, AV.one.injEq, AC.c.injEq, C.v.injEq, Value.int.injEq, Value.bool.injEq, beq_self_eq_true, bne_self_eq_false]
  refine CallK.mk (szDefinition_sat x hx 1048576 (by omega) (by omega)) ?_
  simp -implicitDefEqProofs (disch := omega) only [go_sem, ↓reduceIte, reduceCtorEq, Nat.reduceEqDiff, Nat.reduceLT, Nat.reduceLeDiff, Nat.reduceAdd, Nat.reduceSub, Nat.reduceMul, IntWalk.i64_in, AV.one.injEq, AC.c.injEq, C.v.injEq, Value.int.injEq, Value.bool.injEq, beq_self_eq_true, bne_self_eq_false]
  intro h
  have hs : x.size < 1048577 := by grind [szR]
  refine CallK.mk (szDefinition_sat y hy _ (by grind [szR]) (by grind [szR])) ?_
  simp -implicitDefEqProofs (disch := omega) only [go_sem, ↓reduceIte, reduceCtorEq, Nat.reduceEqDiff, Nat.reduceLT, Nat.reduceLeDiff, Nat.reduceAdd, Nat.reduceSub, Nat.reduceMul, IntWalk.i64_in, AV.one.injEq, AC.c.injEq, C.v.injEq, Value.int.injEq, Value.bool.injEq, beq_self_eq_true, bne_self_eq_false]
  intro h2
  have hs2 : y.size < 1048577 := by grind [szR]
  refine CallK.mk (toDefinition_sat x hs) ?_
  simp -implicitDefEqProofs (disch := omega) only [go_sem, ↓reduceIte, reduceCtorEq, Nat.reduceEqDiff, Nat.reduceLT, Nat.reduceLeDiff, Nat.reduceAdd, Nat.reduceSub, Nat.reduceMul, IntWalk.i64_in, AV.one.injEq, AC.c.injEq, C.v.injEq, Value.int.injEq, Value.bool.injEq, beq_self_eq_true, bne_self_eq_false, GDefinition.eqb_refl]
  refine CallK.mk (toDefinition_sat y hs2) ?_
  simp -implicitDefEqProofs (disch := omega) only [go_sem, ↓reduceIte, reduceCtorEq, Nat.reduceEqDiff, Nat.reduceLT, Nat.reduceLeDiff, Nat.reduceAdd, Nat.reduceSub, Nat.reduceMul, IntWalk.i64_in, AV.one.injEq, AC.c.injEq, C.v.injEq, Value.int.injEq, Value.bool.injEq, beq_self_eq_true, bne_self_eq_false, GDefinition.eqb_refl]
  refine CallK.mk (specEqualDefinition_sat x hx y) ?_
  simp -implicitDefEqProofs (disch := omega) only [go_sem, ↓reduceIte, reduceCtorEq, Nat.reduceEqDiff, Nat.reduceLT, Nat.reduceLeDiff, Nat.reduceAdd, Nat.reduceSub, Nat.reduceMul, IntWalk.i64_in, AV.one.injEq, AC.c.injEq, C.v.injEq, Value.int.injEq, Value.bool.injEq, beq_self_eq_true, bne_self_eq_false, GDefinition.eqb_refl]
  refine CallK.mk (toDefinition_sat x hs) ?_
  simp -implicitDefEqProofs (disch := omega) only [go_sem, ↓reduceIte, reduceCtorEq, Nat.reduceEqDiff, Nat.reduceLT, Nat.reduceLeDiff, Nat.reduceAdd, Nat.reduceSub, Nat.reduceMul, IntWalk.i64_in, AV.one.injEq, AC.c.injEq, C.v.injEq, Value.int.injEq, Value.bool.injEq, beq_self_eq_true, bne_self_eq_false, GDefinition.eqb_refl]
  refine CallK.mk (toDefinition_sat y hs2) ?_
  simp -implicitDefEqProofs (disch := omega) only [go_sem, ↓reduceIte, reduceCtorEq, Nat.reduceEqDiff, Nat.reduceLT, Nat.reduceLeDiff, Nat.reduceAdd, Nat.reduceSub, Nat.reduceMul, IntWalk.i64_in, AV.one.injEq, AC.c.injEq, C.v.injEq, Value.int.injEq, Value.bool.injEq, beq_self_eq_true, bne_self_eq_false, GDefinition.eqb_refl]
  refine CallK.mk (implEqualDefinition_sat x hx y) ?_
  simp -implicitDefEqProofs (disch := omega) only [go_sem, ↓reduceIte, reduceCtorEq, Nat.reduceEqDiff, Nat.reduceLT, Nat.reduceLeDiff, Nat.reduceAdd, Nat.reduceSub, Nat.reduceMul, IntWalk.i64_in, AV.one.injEq, AC.c.injEq, C.v.injEq, Value.int.injEq, Value.bool.injEq, beq_self_eq_true, bne_self_eq_false, GDefinition.eqb_refl]
  refine CallK.mk (toDefinition_sat x hs) ?_
  simp -implicitDefEqProofs (disch := omega) only [go_sem, ↓reduceIte, reduceCtorEq, Nat.reduceEqDiff, Nat.reduceLT, Nat.reduceLeDiff, Nat.reduceAdd, Nat.reduceSub, Nat.reduceMul, IntWalk.i64_in, AV.one.injEq, AC.c.injEq, C.v.injEq, Value.int.injEq, Value.bool.injEq, beq_self_eq_true, bne_self_eq_false, GDefinition.eqb_refl]
  refine CallK.mk (eqDefinition_sat x hx x) ?_
  simp -implicitDefEqProofs (disch := omega) only [go_sem, ↓reduceIte, reduceCtorEq, Nat.reduceEqDiff, Nat.reduceLT, Nat.reduceLeDiff, Nat.reduceAdd, Nat.reduceSub, Nat.reduceMul, IntWalk.i64_in, AV.one.injEq, AC.c.injEq, C.v.injEq, Value.int.injEq, Value.bool.injEq, beq_self_eq_true, bne_self_eq_false, GDefinition.eqb_refl]
  refine CallK.mk (toDefinition_sat y hs2) ?_
  simp -implicitDefEqProofs (disch := omega) only [go_sem, ↓reduceIte, reduceCtorEq, Nat.reduceEqDiff, Nat.reduceLT, Nat.reduceLeDiff, Nat.reduceAdd, Nat.reduceSub, Nat.reduceMul, IntWalk.i64_in, AV.one.injEq, AC.c.injEq, C.v.injEq, Value.int.injEq, Value.bool.injEq, beq_self_eq_true, bne_self_eq_false, GDefinition.eqb_refl]
  refine CallK.mk (eqDefinition_sat y hy y) ?_
  simp -implicitDefEqProofs (disch := omega) only [go_sem, ↓reduceIte, reduceCtorEq, Nat.reduceEqDiff, Nat.reduceLT, Nat.reduceLeDiff, Nat.reduceAdd, Nat.reduceSub, Nat.reduceMul, IntWalk.i64_in, AV.one.injEq, AC.c.injEq, C.v.injEq, Value.int.injEq, Value.bool.injEq, beq_self_eq_true, bne_self_eq_false, GDefinition.eqb_refl]

end Go.Ai
