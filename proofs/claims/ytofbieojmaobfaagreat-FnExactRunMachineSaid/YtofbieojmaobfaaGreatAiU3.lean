/- Signatures: FindOp, SortOf. -/
import Derived.Test.YtofbieojmaobfaaGreatAiU2
import Derived.Test.YtofbieojmaobfaaGreatAiG1
namespace Go.Ai
set_option linter.unusedVariables false
set_option linter.unusedSimpArgs false
open Go.Proofs
set_option maxRecDepth 100000

theorem copyOp_sat (o : GOp) (hl : o.ar.length < 100000000) : Sat Tryz.prog 228 [aggV o.enc] (aggV o.enc) := by
  have hc := cloneStringD_sat o.ar hl
  obtain ⟨na, ar, re⟩ := o
  simp only at hc hl
  refine sat_of_code tbOk mixed Tryz.func228 rfl rfl rfl (by decide +kernel) (by decide +kernel) (Nat.le_of_ble_eq_true rfl) ?_
  simp -implicitDefEqProofs (disch := omega) only [go_sem, GOp.enc, encS, encL, List.cons_append, List.nil_append]
  refine CallK.mk hc ?_
  simp -implicitDefEqProofs (disch := omega) only [go_sem, GOp.enc, encS, encL, List.cons_append, List.nil_append]
  rfl
theorem fop_drop (os : List GOp) (s : ByteArray) (i : Nat) (h : i < os.length) : fop (os.drop i) s = if eqS os[i].na s then some os[i] else fop (os.drop (i + 1)) s := by
  rw [List.drop_eq_getElem_cons h]; simp only [fop]
def opOk (sg : GSignature) : Prop := sg.op.length < 100000000 ∧ ∀ o, o ∈ sg.op → o.ar.length < 100000000
theorem implFindOp_sat (sg : GSignature) (s : ByteArray) (hk : opOk sg) : Sat Tryz.prog 188 [aggV sg.enc, strV s] (.tup [aggV ((findOp sg s).getD opD).enc, boolV (findOp sg s).isSome]) := by
  obtain ⟨hl, hk⟩ := hk
  obtain ⟨r, hr⟩ : ∃ r, r = findOp sg s := ⟨_, rfl⟩
  rw [← hr]
  unfold findOp at hr
  obtain ⟨so, op⟩ := sg
  simp only at hr hl hk
  have hb := implIsBuiltin_sat s
  generalize isBi s = b at hb hr
  refine sat_of_code tbOk mixed Tryz.func188 rfl rfl rfl (by decide +kernel) (by decide +kernel) (Nat.le_of_ble_eq_true rfl) ?_
  simp -implicitDefEqProofs (disch := omega) only [go_sem, GSignature.enc, encL]
  refine CallK.mk hb ?_
  simp -implicitDefEqProofs (disch := omega) only [go_sem]
  refine ⟨fun h1 => ?_, fun h1 => ?_⟩
  · rw [h1, if_pos rfl] at hr
    subst hr
    simp -implicitDefEqProofs (disch := omega) only [go_sem, GOp.enc, encS, encL, List.cons_append, List.nil_append]
    exact ⟨by simp [isV], rfl⟩
  · rw [h1, if_neg (by simp)] at hr
    refine loopA_rule (ι := Nat) (fun i => mk 28 [(1, strV s), (4, .one (.ptr 4 0)), (5, boolV false), (14, slV (op.map GOp.enc)), (15, intV op.length), (16, intV i)] [(4, .var [sC sE, .nil, sC sE])]) (fun i => i ≤ op.length ∧ r = fop (op.drop i) s) (fun i => op.length - i) 0 ⟨Nat.zero_le _, by simpa using hr⟩ ?_ tbOk mixed (by decide +kernel) ?_
    · exact le_mk (by simp [go_sem]) (by simp [go_sem])
    · rintro i ⟨hi, he⟩
      rcases Nat.lt_or_ge i op.length with hlt | hge
      · have hg := map_getD (ec := GOp.enc) hlt
        have hco := copyOp_sat _ (hk _ (List.getElem_mem hlt))
        rw [fop_drop op s i hlt] at he
        generalize op[i] = o at hg hco he
        obtain ⟨ona, oar, ore⟩ := o
        simp only [GOp.enc, encS, encL, List.cons_append, List.nil_append] at hg
        simp -implicitDefEqProofs (disch := omega) only [go_sem, hg, hlt, List.length_map]
        refine ⟨fun h2 => CallK.mk hco ?_, fun h2 => ⟨i + 1, ⟨hlt, ?_⟩, by omega, le_mk (by simp [go_sem]) (by simp [go_sem])⟩⟩
        · have he' : eqS ona s = true := by simpa [eqS] using h2
          rw [he', if_pos rfl] at he
          subst he
          simp -implicitDefEqProofs (disch := omega) only [go_sem, GOp.enc, encS, encL, List.cons_append, List.nil_append]
          rfl
        · have he' : eqS ona s = false := h2
          rw [he', if_neg (by simp)] at he
          exact he
      · have e1 : op.drop i = [] := List.drop_of_length_le hge
        rw [e1] at he
        have he : r = none := he
        subst he
        simp -implicitDefEqProofs (disch := omega) only [go_sem, Nat.not_lt.2 hge, List.length_map]
        rfl
theorem specFindOp_sat (sg : GSignature) (s : ByteArray) (hk : opOk sg) : Sat Tryz.prog 177 [aggV sg.enc, strV s] (.tup [aggV ((findOp sg s).getD opD).enc, boolV (findOp sg s).isSome]) := by
  obtain ⟨hl, hk⟩ := hk
  obtain ⟨r, hr⟩ : ∃ r, r = findOp sg s := ⟨_, rfl⟩
  rw [← hr]
  unfold findOp at hr
  obtain ⟨so, op⟩ := sg
  simp only at hr hl hk
  have hb := specIsBuiltin_sat s
  generalize isBi s = b at hb hr
  refine sat_of_code tbOk mixed Tryz.func177 rfl rfl rfl (by decide +kernel) (by decide +kernel) (Nat.le_of_ble_eq_true rfl) ?_
  simp -implicitDefEqProofs (disch := omega) only [go_sem, GSignature.enc, encL]
  refine CallK.mk hb ?_
  simp -implicitDefEqProofs (disch := omega) only [go_sem]
  refine ⟨fun h1 => ?_, fun h1 => ?_⟩
  · rw [h1, if_pos rfl] at hr
    subst hr
    simp -implicitDefEqProofs (disch := omega) only [go_sem, GOp.enc, encS, encL, List.cons_append, List.nil_append]
    exact ⟨by simp [isV], rfl⟩
  · rw [h1, if_neg (by simp)] at hr
    refine loopA_rule (ι := Nat) (fun i => mk 40 [(1, strV s), (2, .one (.ptr 2 0)), (4, .one (.ptr 4 0)), (5, boolV false), (6, intV i)] [(2, .var [.c (.sl (so.map encS)), .c (.sl (op.map GOp.enc))]), (4, .var [sC sE, .nil, sC sE])]) (fun i => i ≤ op.length ∧ r = fop (op.drop i) s) (fun i => op.length - i) 0 ⟨Nat.zero_le _, by simpa using hr⟩ ?_ tbOk mixed (by decide +kernel) ?_
    · exact le_mk (by simp [go_sem]) (by simp [go_sem])
    · rintro i ⟨hi, he⟩
      rcases Nat.lt_or_ge i op.length with hlt | hge
      · have hg := map_getD (ec := GOp.enc) hlt
        have hol := hk _ (List.getElem_mem hlt)
        rw [fop_drop op s i hlt] at he
        generalize op[i] = o at hg he hol
        obtain ⟨ona, oar, ore⟩ := o
        simp only at hol
        simp only [GOp.enc, encS, encL, List.cons_append, List.nil_append] at hg
        simp -implicitDefEqProofs (disch := omega) only [go_sem, hg, hlt, List.length_map]
        refine ⟨fun h2 => ?_, fun h2 => ⟨i + 1, ⟨hlt, ?_⟩, by omega, ?_⟩⟩
        · have he' : eqS ona s = true := by simpa [eqS] using h2
          rw [he', if_pos rfl] at he
          subst he
          exact ⟨⟨rowsOf_l (fun _ => rfl), by omega, by omega⟩, fun _ => rfl⟩
        · have he' : eqS ona s = false := h2
          rw [he', if_neg (by simp)] at he
          exact he
        · exact le_mk (by simp [go_sem]) (by simp [go_sem])
      · have e1 : op.drop i = [] := List.drop_of_length_le hge
        rw [e1] at he
        have he : r = none := he
        subst he
        simp -implicitDefEqProofs (disch := omega) only [go_sem, Nat.not_lt.2 hge, List.length_map]
        rfl
theorem fvs_drop (vs : List GVarSort) (s : ByteArray) (i : Nat) (h : i < vs.length) : fvs (vs.drop i) s = if eqS vs[i].na s then some vs[i].so else fvs (vs.drop (i + 1)) s := by
  rw [List.drop_eq_getElem_cons h]; simp only [fvs]
theorem specl6Var_sat (vs : List GVarSort) (s : ByteArray) (hl : vs.length < 100000000) : Sat Tryz.prog 176 [slV (vs.map GVarSort.enc), strV s] (strV ((fvs vs s).getD sE)) := by
  obtain ⟨r, hr⟩ : ∃ r, r = (fvs vs s).getD sE := ⟨_, rfl⟩
  rw [← hr]
  refine sat_of_code tbOk mixed Tryz.func176 rfl rfl rfl (by decide +kernel) (by decide +kernel) (Nat.le_of_ble_eq_true rfl) ?_
  simp -implicitDefEqProofs (disch := omega) only [go_sem]
  refine loopA_rule (ι := Nat) (fun i => mk 24 [(0, slV (vs.map GVarSort.enc)), (1, strV s), (5, intV i)] []) (fun i => i ≤ vs.length ∧ r = (fvs (vs.drop i) s).getD sE) (fun i => vs.length - i) 0 ⟨Nat.zero_le _, by simpa using hr⟩ ?_ tbOk mixed (by decide +kernel) ?_
  · exact le_mk (by simp [go_sem]) (by simp [go_sem])
  · rintro i ⟨hi, he⟩
    rcases Nat.lt_or_ge i vs.length with hlt | hge
    · have hg := map_getD (ec := GVarSort.enc) hlt
      rw [fvs_drop vs s i hlt] at he
      generalize vs[i] = o at hg he
      obtain ⟨ona, oso⟩ := o
      simp only [GVarSort.enc, encS, List.cons_append, List.nil_append] at hg
      simp -implicitDefEqProofs (disch := omega) only [go_sem, hg, hlt, List.length_map]
      refine ⟨fun h2 => ?_, fun h2 => ⟨i + 1, ⟨hlt, ?_⟩, by omega, le_mk (by simp [go_sem]) (by simp [go_sem])⟩⟩
      · have he' : eqS ona s = true := by simpa [eqS] using h2
        rw [he', if_pos rfl] at he
        rw [he]; rfl
      · have he' : eqS ona s = false := h2
        rw [he', if_neg (by simp)] at he
        exact he
    · have e1 : vs.drop i = [] := List.drop_of_length_le hge
      rw [e1] at he
      have he : r = sE := he
      subst he
      simp -implicitDefEqProofs (disch := omega) only [go_sem, Nat.not_lt.2 hge, List.length_map]
theorem sorts_drop (sg : GSignature) (vs : List GVarSort) (ts : List Tm) (xs : List ByteArray) (i : Nat) (h : i < ts.length) (h' : i < xs.length) : Tm.sorts sg vs (ts.drop i) (xs.drop i) = ((!eqS (ts[i].sort sg vs) sE && eqS (ts[i].sort sg vs) xs[i]) && Tm.sorts sg vs (ts.drop (i + 1)) (xs.drop (i + 1))) := by
  rw [List.drop_eq_getElem_cons h, List.drop_eq_getElem_cons h']; simp only [Tm.sorts]
theorem fop_mem (P : GOp → Prop) : ∀ (os : List GOp) (s : ByteArray) (o : GOp), (∀ o, o ∈ os → P o) → fop os s = some o → P o
  | [], _, _, _, h => by cases h
  | x :: os, s, o, hp, h => by
    simp only [fop] at h
    split at h
    · obtain rfl := Option.some.inj h
      exact hp _ (by simp)
    · exact fop_mem P os s o (fun o ho => hp o (by simp [ho])) h
theorem findOp_len (sg : GSignature) (hk : opOk sg) (s : ByteArray) (o : GOp) (h : findOp sg s = some o) : o.ar.length < 100000000 := by
  unfold findOp at h
  split at h
  · obtain rfl := Option.some.inj h; simp
  · exact fop_mem _ _ _ _ hk.2 h
theorem implSortOf_1 (sg : GSignature) (hk : opOk sg) (vs : List GVarSort) (hv : vs.length < 100000000) (k n : Int) (s : ByteArray) (ts : List Tm) (hl : s.size + Tm.sizes ts < 80000000) (ih : ∀ t, t ∈ ts → Sat Tryz.prog 193 [aggV sg.enc, tmV t, slV (vs.map GVarSort.enc)] (strV (t.sort sg vs))) : Sat Tryz.prog 193 [aggV sg.enc, tmV (.mk k n s ts), slV (vs.map GVarSort.enc)] (strV ((Tm.mk k n s ts).sort sg vs)) := by
  have hts := len_sizes ts
  have hf := implFindOp_sat sg s hk
  have hfl := findOp_len sg hk s
  obtain ⟨r, hr⟩ : ∃ r, r = (Tm.mk k n s ts).sort sg vs := ⟨_, rfl⟩
  rw [← hr]
  simp only [Tm.sort] at hr
  have hse : sg.enc = [.sl (sg.so.map encS), .sl (sg.op.map GOp.enc)] := rfl
  refine sat_of_code tbOk mixed Tryz.func193 rfl rfl rfl (by decide +kernel) (by decide +kernel) (Nat.le_of_ble_eq_true rfl) ?_
  simp -implicitDefEqProofs (disch := omega) only [go_sem, Tm.enc, hse]
  refine ⟨fun h1 => by rw [hr, h1]; rfl, fun h1 => ⟨fun h2 => ?_, fun h2 => ⟨fun h3 => ?_, fun h3 => by rw [hr, h1, h2, h3]; rfl⟩⟩⟩
  · have hr : r = (fvs vs s).getD sE := by rw [hr, h2]; rfl
    clear hf hfl ih
    refine loopA_rule (ι := Nat) (fun i => mk 80 [(4, .one (.ptr 4 0)), (20, slV (vs.map GVarSort.enc)), (21, intV vs.length), (22, intV i)] [(4, .var [iC k, iC n, sC s, tC ts])]) (fun i => i ≤ vs.length ∧ r = (fvs (vs.drop i) s).getD sE) (fun i => vs.length - i) 0 ⟨Nat.zero_le _, by simpa using hr⟩ ?_ tbOk mixed (by decide +kernel) ?_
    · exact le_mk (by simp [go_sem]) (by simp [go_sem])
    · rintro i ⟨hi, he⟩
      rcases Nat.lt_or_ge i vs.length with hlt | hge
      · have hg := map_getD (ec := GVarSort.enc) hlt
        rw [fvs_drop vs s i hlt] at he
        generalize vs[i] = o at hg he
        obtain ⟨ona, oso⟩ := o
        simp only [GVarSort.enc, encS, List.cons_append, List.nil_append] at hg
        simp -implicitDefEqProofs (disch := omega) only [go_sem, hg, hlt, List.length_map]
        refine ⟨fun h2 => ?_, fun h2 => ⟨i + 1, ⟨hlt, ?_⟩, by omega, le_mk (by simp [go_sem]) (by simp [go_sem])⟩⟩
        · have he' : eqS ona s = true := by simpa [eqS] using h2
          rw [he', if_pos rfl] at he
          rw [he]; rfl
        · have he' : eqS ona s = false := h2
          rw [he', if_neg (by simp)] at he
          exact he
      · have e1 : vs.drop i = [] := List.drop_of_length_le hge
        rw [e1] at he
        have he : r = sE := he
        subst he
        simp -implicitDefEqProofs (disch := omega) only [go_sem, Nat.not_lt.2 hge, List.length_map]
  · have hr : r = match findOp sg s with
          | none => sE
          | some o => if (o.ar.length == ts.length && Tm.sorts sg vs ts o.ar) = true then o.re else sE := by rw [hr, h1, h2, h3]; rfl
    refine CallK.mk hf ?_
    cases hfo : findOp sg s with
    | none =>
      rw [hfo] at hr
      simp only at hr
      subst hr
      simp -implicitDefEqProofs (disch := omega) only [go_sem, Option.getD_none, Option.isSome_none, opD, GOp.enc, encS, encL, List.cons_append, List.nil_append]
    | some o =>
      rw [hfo] at hr
      simp only at hr
      have hol := hfl o hfo
      obtain ⟨ona, oar, ore⟩ := o
      simp only at hr hol
      simp -implicitDefEqProofs (disch := omega) only [go_sem, Option.getD_some, Option.isSome_some, GOp.enc, encS, encL, List.cons_append, List.nil_append]
      refine ⟨fun h4 => by rw [hr, if_neg (by simp; omega)], fun h4 => ?_⟩
      have hll : oar.length = ts.length := by simp at h4; omega
      have hr : r = if Tm.sorts sg vs ts oar = true then ore else sE := by rw [hr, hll]; simp
      refine loopA_rule (ι := Nat) (fun i => mk 80 [(2, slV (vs.map GVarSort.enc)), (3, .one (.ptr 3 0)), (9, .one (.ptr 9 0)), (55, tmsV ts), (56, intV ts.length), (57, intV i)] [(3, .var [.c (.sl (sg.so.map encS)), .c (.sl (sg.op.map GOp.enc))]), (9, .var [sC ona, .c (.sl (oar.map encS)), sC ore])])
        (fun i => i ≤ ts.length ∧ Tm.sorts sg vs (ts.drop i) (oar.drop i) = Tm.sorts sg vs ts oar) (fun i => ts.length - i) 0 ⟨Nat.zero_le _, by simp⟩ ?_ tbOk mixed (by decide +kernel) ?_
      · exact le_mk (by simp [go_sem]) (by simp [go_sem])
      · rintro i ⟨hi, he⟩
        rcases Nat.lt_or_ge i ts.length with hlt | hge
        · have hlt' : i < oar.length := by omega
          have hg := encs_getD ts i hlt
          have hg' := map_getD (ec := encS) hlt'
          rw [sorts_drop sg vs ts oar i hlt hlt'] at he
          have hih := ih _ (List.getElem_mem hlt)
          generalize ts[i].sort sg vs = q at hih he
          generalize oar[i] = y at hg' he
          simp only [eqS] at he
          simp only [encS] at hg'
          simp -implicitDefEqProofs (disch := omega) only [go_sem, hg, hg', hlt, hlt', enc_len, List.length_map]
          refine CallK.mk hih ?_
          simp -implicitDefEqProofs (disch := omega) only [go_sem, hg, hg', hlt, hlt', enc_len, List.length_map]
          refine ⟨fun h5 => ⟨fun h6 => ?_, fun h6 => ⟨i + 1, ⟨hlt, ?_⟩, by omega, le_mk (by simp [go_sem]) (by simp [go_sem])⟩⟩, fun h5 => ?_⟩
          · rw [h6] at he; rw [hr, ← he]; simp
          · rw [h5] at he; simpa [h6] using he
          · rw [h5] at he; rw [hr, ← he]; simp
        · have : i = ts.length := by omega
          subst this
          rw [List.drop_length] at he
          have he : true = Tm.sorts sg vs ts oar := he
          rw [← he, if_pos rfl] at hr
          subst hr
          simp -implicitDefEqProofs (disch := omega) only [go_sem, Nat.lt_irrefl]
theorem implSortOf_sat (sg : GSignature) (hk : opOk sg) (vs : List GVarSort) (hv : vs.length < 100000000) : ∀ (t : Tm), t.size < 80000000 → Sat Tryz.prog 193 [aggV sg.enc, tmV t, slV (vs.map GVarSort.enc)] (strV (t.sort sg vs)) := by
  refine Tm.ind (fun k n s ts ih h => implSortOf_1 sg hk vs hv k n s ts (by simp only [Tm.size] at h; omega) (fun t ht => ih t ht ?_))
  have := size_mem ts t ht; simp only [Tm.size] at h; omega
theorem specSortOf_1 (sg : GSignature) (hk : opOk sg) (vs : List GVarSort) (hv : vs.length < 100000000) (k n : Int) (s : ByteArray) (ts : List Tm) (hl : s.size + Tm.sizes ts < 80000000) (ih : ∀ t, t ∈ ts → Sat Tryz.prog 128 [aggV sg.enc, tmV t, slV (vs.map GVarSort.enc)] (strV (t.sort sg vs))) : Sat Tryz.prog 128 [aggV sg.enc, tmV (.mk k n s ts), slV (vs.map GVarSort.enc)] (strV ((Tm.mk k n s ts).sort sg vs)) := by
  have hts := len_sizes ts
  have hf := specFindOp_sat sg s hk
  have hfl := findOp_len sg hk s
  have hlv := specl6Var_sat vs s hv
  obtain ⟨r, hr⟩ : ∃ r, r = (Tm.mk k n s ts).sort sg vs := ⟨_, rfl⟩
  rw [← hr]
  simp only [Tm.sort] at hr
  have hse : sg.enc = [.sl (sg.so.map encS), .sl (sg.op.map GOp.enc)] := rfl
  refine sat_of_code tbOk mixed Tryz.func128 rfl rfl rfl (by decide +kernel) (by decide +kernel) (Nat.le_of_ble_eq_true rfl) ?_
  simp -implicitDefEqProofs (disch := omega) only [go_sem, Tm.enc, hse]
  refine ⟨fun h1 => by rw [hr, h1]; rfl, fun h1 => ⟨fun h2 => ?_, fun h2 => ⟨fun h3 => ?_, fun h3 => by rw [hr, h1, h2, h3]; rfl⟩⟩⟩
  · have hr : r = (fvs vs s).getD sE := by rw [hr, h2]; rfl
    refine CallK.mk hlv ?_
    simp -implicitDefEqProofs (disch := omega) only [go_sem]
    rw [hr]
  · have hr : r = match findOp sg s with
          | none => sE
          | some o => if (o.ar.length == ts.length && Tm.sorts sg vs ts o.ar) = true then o.re else sE := by rw [hr, h1, h2, h3]; rfl
    refine CallK.mk hf ?_
    cases hfo : findOp sg s with
    | none =>
      rw [hfo] at hr
      simp only at hr
      subst hr
      simp -implicitDefEqProofs (disch := omega) only [go_sem, Option.getD_none, Option.isSome_none, opD, GOp.enc, encS, encL, List.cons_append, List.nil_append]
    | some o =>
      rw [hfo] at hr
      simp only at hr
      have hol := hfl o hfo
      obtain ⟨ona, oar, ore⟩ := o
      simp only at hr hol
      simp -implicitDefEqProofs (disch := omega) only [go_sem, Option.getD_some, Option.isSome_some, GOp.enc, encS, encL, List.cons_append, List.nil_append]
      refine ⟨fun h4 => by rw [hr, if_neg (by simp; omega)], fun h4 => ?_⟩
      have hll : oar.length = ts.length := by simp at h4; omega
      have hr : r = if Tm.sorts sg vs ts oar = true then ore else sE := by rw [hr, hll]; simp
      refine loopA_rule (ι := Nat) (fun i => mk 71 [(2, slV (vs.map GVarSort.enc)), (3, .one (.ptr 3 0)), (4, .one (.ptr 4 0)), (7, .one (.ptr 7 0)), (9, intV i)] [(3, .var [.c (.sl (sg.so.map encS)), .c (.sl (sg.op.map GOp.enc))]), (4, .var [iC k, iC n, sC s, tC ts]), (7, .var [sC ona, .c (.sl (oar.map encS)), sC ore])])
        (fun i => i ≤ ts.length ∧ Tm.sorts sg vs (ts.drop i) (oar.drop i) = Tm.sorts sg vs ts oar) (fun i => ts.length - i) 0 ⟨Nat.zero_le _, by simp⟩ ?_ tbOk mixed (by decide +kernel) ?_
      · exact le_mk (by simp [go_sem]) (by simp [go_sem])
      · rintro i ⟨hi, he⟩
        rcases Nat.lt_or_ge i ts.length with hlt | hge
        · have hlt' : i < oar.length := by omega
          have hg := encs_getD ts i hlt
          have hg' := map_getD (ec := encS) hlt'
          rw [sorts_drop sg vs ts oar i hlt hlt'] at he
          have hih := ih _ (List.getElem_mem hlt)
          generalize ts[i].sort sg vs = q at hih he
          generalize oar[i] = y at hg' he
          simp only [eqS] at he
          simp only [encS] at hg'
          simp -implicitDefEqProofs (disch := omega) only [go_sem, hg, hg', hlt, hlt', enc_len, List.length_map]
          refine CallK.mk hih ?_
          simp -implicitDefEqProofs (disch := omega) only [go_sem, hg, hg', hlt, hlt', enc_len, List.length_map]
          refine ⟨fun h5 => ⟨fun h6 => ?_, fun h6 => ⟨i + 1, ⟨hlt, ?_⟩, by omega, le_mk (by simp [go_sem]) (by simp [go_sem])⟩⟩, fun h5 => ?_⟩
          · rw [h5, h6] at he; rw [hr, ← he]; simp
          · rw [h5] at he
            have h6 : (y.toList == sE.toList) = false := h6
            rw [h6] at he
            simpa using he
          · rw [h5] at he; rw [hr, ← he]; simp
        · have : i = ts.length := by omega
          subst this
          rw [List.drop_length] at he
          have he : true = Tm.sorts sg vs ts oar := he
          rw [← he, if_pos rfl] at hr
          subst hr
          simp -implicitDefEqProofs (disch := omega) only [go_sem, Nat.lt_irrefl]
theorem specSortOf_sat (sg : GSignature) (hk : opOk sg) (vs : List GVarSort) (hv : vs.length < 100000000) : ∀ (t : Tm), t.size < 80000000 → Sat Tryz.prog 128 [aggV sg.enc, tmV t, slV (vs.map GVarSort.enc)] (strV (t.sort sg vs)) := by
  refine Tm.ind (fun k n s ts ih h => specSortOf_1 sg hk vs hv k n s ts (by simp only [Tm.size] at h; omega) (fun t ht => ih t ht ?_))
  have := size_mem ts t ht; simp only [Tm.size] at h; omega
end Go.Ai
