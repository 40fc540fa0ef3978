/- Signatures: FindOp, SortOf. -/
import Derived.Test.YtmddjojbaompiaaGreatAiU2
import Derived.Test.YtmddjojbaompiaaGreatAiG1
set_option linter.unusedVariables false
set_option linter.unusedSimpArgs false
namespace Go.Ai
open Go.Proofs
set_option maxRecDepth 100000
theorem copyOp_sat (o : GOp) (hl : o.ar.length < 100000000) : Sat Tryz.prog 131 [aggV o.enc] (aggV o.enc) := by
 have hc := cloneStringD_sat o.ar hl
 obtain ⟨na, ar, re⟩ := o
 simp only at hc hl
 refine sat_of_code tbOk mixed Tryz.func131 rfl rfl rfl (by decide +kernel) (by decide +kernel) (Nat.le_of_ble_eq_true rfl) ?_
 simp -implicitDefEqProofs (disch := omega) only [go_sem, GOp.enc, encS, encL, List.cons_append, List.nil_append]
 refine CallK.mk hc ?_
 simp -implicitDefEqProofs (disch := omega) only [go_sem, GOp.enc, encS, encL, List.cons_append, List.nil_append]
 rfl
theorem fop_drop (os : List GOp) (s : ByteArray) (i : Nat) (h : i < os.length) : fop (os.drop i) s = if eqS os[i].na s then some os[i] else fop (os.drop (i + 1)) s := by
 rw [List.drop_eq_getElem_cons h]; simp only [fop]
def opOk (sg : GSignature) : Prop := sg.op.length < 100000000 ∧ ∀ o, o ∈ sg.op → o.ar.length < 100000000
theorem implFindOp_sat (sg : GSignature) (s : ByteArray) (hk : opOk sg) : Sat Tryz.prog 57 [aggV sg.enc, strV s] (.tup [aggV ((findOp sg s).getD opD).enc, boolV (findOp sg s).isSome]) := by
 obtain ⟨hl, hk⟩ := hk
 obtain ⟨r, hr⟩ : ∃ r, r = findOp sg s := ⟨_, rfl⟩
 rw [← hr]
 unfold findOp at hr
 obtain ⟨so, op⟩ := sg
 simp only at hr hl hk
 have hb := implIsBuiltin_sat s
 generalize isBi s = b at hb hr
 refine sat_of_code tbOk mixed Tryz.func57 rfl rfl rfl (by decide +kernel) (by decide +kernel) (Nat.le_of_ble_eq_true rfl) ?_
 simp -implicitDefEqProofs (disch := omega) only [go_sem, GSignature.enc, encL]
 refine CallK.mk hb ?_
 simp -implicitDefEqProofs (disch := omega) only [go_sem]
 refine ⟨fun h1 => ?_, fun h1 => ?_⟩
 ·rw [h1, if_pos rfl] at hr
  subst hr
  simp -implicitDefEqProofs (disch := omega) only [go_sem, GOp.enc, encS, encL, List.cons_append, List.nil_append]
  exact ⟨by simp [isV], rfl⟩
 ·rw [h1, if_neg (by simp)] at hr
  refine loopA_rule (ι := Nat) (fun i => mk 28 [(1, strV s), (4, .one (.ptr 4 0)), (5, boolV false), (14, slV (op.map GOp.enc)), (15, intV op.length), (16, intV i)] [(4, .var [sC sE, .nil, sC sE])]) (fun i => i ≤ op.length ∧ r = fop (op.drop i) s) (fun i => op.length - i) 0 ⟨Nat.zero_le _, by simpa using hr⟩ ?_ tbOk mixed (by decide +kernel) ?_
  ·exact le_mk (by simp [go_sem]) (by simp [go_sem])
  ·rintro i ⟨hi, he⟩
   rcases Nat.lt_or_ge i op.length with hlt | hge
   ·have hg := map_getD (ec := GOp.enc) hlt
    have hco := copyOp_sat _ (hk _ (List.getElem_mem hlt))
    rw [fop_drop op s i hlt] at he
    generalize op[i] = o at hg hco he
    obtain ⟨ona, oar, ore⟩ := o
    simp only [GOp.enc, encS, encL, List.cons_append, List.nil_append] at hg
    simp -implicitDefEqProofs (disch := omega) only [go_sem, hg, hlt, List.length_map]
    refine ⟨fun h2 => CallK.mk hco ?_, fun h2 => ⟨i + 1, ⟨hlt, ?_⟩, by omega, le_mk (by simp [go_sem]) (by simp [go_sem])⟩⟩
    ·have he' : eqS ona s = true := by simpa [eqS] using h2
     rw [he', if_pos rfl] at he
     subst he
     simp -implicitDefEqProofs (disch := omega) only [go_sem, GOp.enc, encS, encL, List.cons_append, List.nil_append]
     rfl
    ·have he' : eqS ona s = false := h2
     rw [he', if_neg (by simp)] at he
     exact he
   ·have e1 : op.drop i = [] := List.drop_of_length_le hge
    rw [e1] at he
    have he : r = none := he
    subst he
    simp -implicitDefEqProofs (disch := omega) only [go_sem, Nat.not_lt.2 hge, List.length_map]
    rfl
theorem specFindOp_sat (sg : GSignature) (s : ByteArray) (hk : opOk sg) : Sat Tryz.prog 90 [aggV sg.enc, strV s] (.tup [aggV ((findOp sg s).getD opD).enc, boolV (findOp sg s).isSome]) := by
 obtain ⟨hl, hk⟩ := hk
 obtain ⟨r, hr⟩ : ∃ r, r = findOp sg s := ⟨_, rfl⟩
 rw [← hr]
 unfold findOp at hr
 obtain ⟨so, op⟩ := sg
 simp only at hr hl hk
 have hb := specIsBuiltin_sat s
 generalize isBi s = b at hb hr
 refine sat_of_code tbOk mixed Tryz.func90 rfl rfl rfl (by decide +kernel) (by decide +kernel) (Nat.le_of_ble_eq_true rfl) ?_
 simp -implicitDefEqProofs (disch := omega) only [go_sem, GSignature.enc, encL]
 refine CallK.mk hb ?_
 simp -implicitDefEqProofs (disch := omega) only [go_sem]
 refine ⟨fun h1 => ?_, fun h1 => ?_⟩
 ·rw [h1, if_pos rfl] at hr
  subst hr
  simp -implicitDefEqProofs (disch := omega) only [go_sem, GOp.enc, encS, encL, List.cons_append, List.nil_append]
  exact ⟨by simp [isV], rfl⟩
 ·rw [h1, if_neg (by simp)] at hr
  refine loopA_rule (ι := Nat) (fun i => mk 40 [(1, strV s), (2, .one (.ptr 2 0)), (4, .one (.ptr 4 0)), (5, boolV false), (6, intV i)] [(2, .var [.c (.sl (so.map encS)), .c (.sl (op.map GOp.enc))]), (4, .var [sC sE, .nil, sC sE])]) (fun i => i ≤ op.length ∧ r = fop (op.drop i) s) (fun i => op.length - i) 0 ⟨Nat.zero_le _, by simpa using hr⟩ ?_ tbOk mixed (by decide +kernel) ?_
  ·exact le_mk (by simp [go_sem]) (by simp [go_sem])
  ·rintro i ⟨hi, he⟩
   rcases Nat.lt_or_ge i op.length with hlt | hge
   ·have hg := map_getD (ec := GOp.enc) hlt
    have hol := hk _ (List.getElem_mem hlt)
    rw [fop_drop op s i hlt] at he
    generalize op[i] = o at hg he hol
    obtain ⟨ona, oar, ore⟩ := o
    simp only at hol
    simp only [GOp.enc, encS, encL, List.cons_append, List.nil_append] at hg
    simp -implicitDefEqProofs (disch := omega) only [go_sem, hg, hlt, List.length_map]
    refine ⟨fun h2 => ?_, fun h2 => ⟨i + 1, ⟨hlt, ?_⟩, by omega, ?_⟩⟩
    ·have he' : eqS ona s = true := by simpa [eqS] using h2
     rw [he', if_pos rfl] at he
     subst he
     exact ⟨⟨rowsOf_l (fun _ => rfl), by omega, by omega⟩, fun _ => rfl⟩
    ·have he' : eqS ona s = false := h2
     rw [he', if_neg (by simp)] at he
     exact he
    ·exact le_mk (by simp [go_sem]) (by simp [go_sem])
   ·have e1 : op.drop i = [] := List.drop_of_length_le hge
    rw [e1] at he
    have he : r = none := he
    subst he
    simp -implicitDefEqProofs (disch := omega) only [go_sem, Nat.not_lt.2 hge, List.length_map]
    rfl
theorem fvs_drop (vs : List GVarSort) (s : ByteArray) (i : Nat) (h : i < vs.length) : fvs (vs.drop i) s = if eqS vs[i].na s then some vs[i].so else fvs (vs.drop (i + 1)) s := by
 rw [List.drop_eq_getElem_cons h]; simp only [fvs]
theorem specl6Var_sat (vs : List GVarSort) (s : ByteArray) (hl : vs.length < 100000000) : Sat Tryz.prog 127 [slV (vs.map GVarSort.enc), strV s] (strV ((fvs vs s).getD sE)) := by
 obtain ⟨r, hr⟩ : ∃ r, r = (fvs vs s).getD sE := ⟨_, rfl⟩
 rw [← hr]
 refine sat_of_code tbOk mixed Tryz.func127 rfl rfl rfl (by decide +kernel) (by decide +kernel) (Nat.le_of_ble_eq_true rfl) ?_
 simp -implicitDefEqProofs (disch := omega) only [go_sem]
 refine loopA_rule (ι := Nat) (fun i => mk 24 [(0, slV (vs.map GVarSort.enc)), (1, strV s), (5, intV i)] []) (fun i => i ≤ vs.length ∧ r = (fvs (vs.drop i) s).getD sE) (fun i => vs.length - i) 0 ⟨Nat.zero_le _, by simpa using hr⟩ ?_ tbOk mixed (by decide +kernel) ?_
 ·exact le_mk (by simp [go_sem]) (by simp [go_sem])
 ·rintro i ⟨hi, he⟩
  rcases Nat.lt_or_ge i vs.length with hlt | hge
  ·have hg := map_getD (ec := GVarSort.enc) hlt
   rw [fvs_drop vs s i hlt] at he
   generalize vs[i] = o at hg he
   obtain ⟨ona, oso⟩ := o
   simp only [GVarSort.enc, encS, List.cons_append, List.nil_append] at hg
   simp -implicitDefEqProofs (disch := omega) only [go_sem, hg, hlt, List.length_map]
   refine ⟨fun h2 => ?_, fun h2 => ⟨i + 1, ⟨hlt, ?_⟩, by omega, le_mk (by simp [go_sem]) (by simp [go_sem])⟩⟩
   ·have he' : eqS ona s = true := by simpa [eqS] using h2
    rw [he', if_pos rfl] at he
    rw [he]; rfl
   ·have he' : eqS ona s = false := h2
    rw [he', if_neg (by simp)] at he
    exact he
  ·have e1 : vs.drop i = [] := List.drop_of_length_le hge
   rw [e1] at he
   have he : r = sE := he
   subst he
   simp -implicitDefEqProofs (disch := omega) only [go_sem, Nat.not_lt.2 hge, List.length_map]
theorem sorts_drop (sg : GSignature) (vs : List GVarSort) (ts : List Tm) (xs : List ByteArray) (i : Nat) (h : i < ts.length) (h' : i < xs.length) : Tm.sorts sg vs (ts.drop i) (xs.drop i) = ((!eqS (ts[i].sort sg vs) sE && eqS (ts[i].sort sg vs) xs[i]) && Tm.sorts sg vs (ts.drop (i + 1)) (xs.drop (i + 1))) := by
 rw [List.drop_eq_getElem_cons h, List.drop_eq_getElem_cons h']; simp only [Tm.sorts]
theorem fop_mem (P : GOp → Prop) : ∀ (os : List GOp) (s : ByteArray) (o : GOp), (∀ o, o ∈ os → P o) → fop os s = some o → P o
 | [], _, _, _, h => by cases h
 | x :: os, s, o, hp, h => by
  simp only [fop] at h
  split at h
  ·obtain rfl := Option.some.inj h
   exact hp _ (by simp)
  ·exact fop_mem P os s o (fun o ho => hp o (by simp [ho])) h
theorem findOp_len (sg : GSignature) (hk : opOk sg) (s : ByteArray) (o : GOp) (h : findOp sg s = some o) : o.ar.length < 100000000 := by
 unfold findOp at h
 split at h
 ·obtain rfl := Option.some.inj h; simp
 ·exact fop_mem _ _ _ _ hk.2 h
theorem implSortOf_1 (sg : GSignature) (hk : opOk sg) (vs : List GVarSort) (hv : vs.length < 100000000) (k n : Int) (s : ByteArray) (ts : List Tm) (hl : s.size + Tm.sizes ts < 80000000) (ih : ∀ t, t ∈ ts → Sat Tryz.prog 75 [aggV sg.enc, tmV t, slV (vs.map GVarSort.enc)] (strV (t.sort sg vs))) : Sat Tryz.prog 75 [aggV sg.enc, tmV (.mk k n s ts), slV (vs.map GVarSort.enc)] (strV ((Tm.mk k n s ts).sort sg vs)) := by
 have hts := len_sizes ts
 have hf := implFindOp_sat sg s hk
 have hfl := findOp_len sg hk s
 obtain ⟨r, hr⟩ : ∃ r, r = (Tm.mk k n s ts).sort sg vs := ⟨_, rfl⟩
 rw [← hr]
 simp only [Tm.sort] at hr
 have hse : sg.enc = [.sl (sg.so.map encS), .sl (sg.op.map GOp.enc)] := rfl
 refine sat_of_code tbOk mixed Tryz.func75 rfl rfl rfl (by decide +kernel) (by decide +kernel) (Nat.le_of_ble_eq_true rfl) ?_
 simp -implicitDefEqProofs (disch := omega) only [go_sem, Tm.enc, hse]
 refine ⟨fun h1 => by rw [hr, h1]; rfl, fun h1 => ⟨fun h2 => ?_, fun h2 => ⟨fun h3 => ?_, fun h3 => by rw [hr, h1, h2, h3]; rfl⟩⟩⟩
 ·have hr : r = (fvs vs s).getD sE := by rw [hr, h2]; rfl
  clear hf hfl ih
  refine loopA_rule (ι := Nat) (fun i => mk 80 [(4, .one (.ptr 4 0)), (20, slV (vs.map GVarSort.enc)), (21, intV vs.length), (22, intV i)] [(4, .var [iC k, iC n, sC s, tC ts])]) (fun i => i ≤ vs.length ∧ r = (fvs (vs.drop i) s).getD sE) (fun i => vs.length - i) 0 ⟨Nat.zero_le _, by simpa using hr⟩ ?_ tbOk mixed (by decide +kernel) ?_
  ·exact le_mk (by simp [go_sem]) (by simp [go_sem])
  ·rintro i ⟨hi, he⟩
   rcases Nat.lt_or_ge i vs.length with hlt | hge
   ·have hg := map_getD (ec := GVarSort.enc) hlt
    rw [fvs_drop vs s i hlt] at he
    generalize vs[i] = o at hg he
    obtain ⟨ona, oso⟩ := o
    simp only [GVarSort.enc, encS, List.cons_append, List.nil_append] at hg
    simp -implicitDefEqProofs (disch := omega) only [go_sem, hg, hlt, List.length_map]
    refine ⟨fun h2 => ?_, fun h2 => ⟨i + 1, ⟨hlt, ?_⟩, by omega, le_mk (by simp [go_sem]) (by simp [go_sem])⟩⟩
    ·have he' : eqS ona s = true := by simpa [eqS] using h2
     rw [he', if_pos rfl] at he
     rw [he]; rfl
    ·have he' : eqS ona s = false := h2
     rw [he', if_neg (by simp)] at he
     exact he
   ·have e1 : vs.drop i = [] := List.drop_of_length_le hge
    rw [e1] at he
    have he : r = sE := he
    subst he
    simp -implicitDefEqProofs (disch := omega) only [go_sem, Nat.not_lt.2 hge, List.length_map]
 ·have hr : r = match findOp sg s with
     | none => sE
     | some o => if (o.ar.length == ts.length && Tm.sorts sg vs ts o.ar) = true then o.re else sE := by rw [hr, h1, h2, h3]; rfl
  refine CallK.mk hf ?_
  cases hfo : findOp sg s with
  | none =>
   rw [hfo] at hr
   simp only at hr
   subst hr
   simp -implicitDefEqProofs (disch := omega) only [go_sem, Option.getD_none, Option.isSome_none, opD, GOp.enc, encS, encL, List.cons_append, List.nil_append]
  | some o =>
   rw [hfo] at hr
   simp only at hr
   have hol := hfl o hfo
   obtain ⟨ona, oar, ore⟩ := o
   simp only at hr hol
   simp -implicitDefEqProofs (disch := omega) only [go_sem, Option.getD_some, Option.isSome_some, GOp.enc, encS, encL, List.cons_append, List.nil_append]
   refine ⟨fun h4 => by rw [hr, if_neg (by simp; omega)], fun h4 => ?_⟩
   have hll : oar.length = ts.length := by simp at h4; omega
   have hr : r = if Tm.sorts sg vs ts oar = true then ore else sE := by rw [hr, hll]; simp
   refine loopA_rule (ι := Nat) (fun i => mk 80 [(2, slV (vs.map GVarSort.enc)), (3, .one (.ptr 3 0)), (9, .one (.ptr 9 0)), (55, tmsV ts), (56, intV ts.length), (57, intV i)] [(3, .var [.c (.sl (sg.so.map encS)), .c (.sl (sg.op.map GOp.enc))]), (9, .var [sC ona, .c (.sl (oar.map encS)), sC ore])])
    (fun i => i ≤ ts.length ∧ Tm.sorts sg vs (ts.drop i) (oar.drop i) = Tm.sorts sg vs ts oar) (fun i => ts.length - i) 0 ⟨Nat.zero_le _, by simp⟩ ?_ tbOk mixed (by decide +kernel) ?_
   ·exact le_mk (by simp [go_sem]) (by simp [go_sem])
   ·rintro i ⟨hi, he⟩
    rcases Nat.lt_or_ge i ts.length with hlt | hge
    ·have hlt' : i < oar.length := by omega
     have hg := encs_getD ts i hlt
     have hg' := map_getD (ec := encS) hlt'
     rw [sorts_drop sg vs ts oar i hlt hlt'] at he
     have hih := ih _ (List.getElem_mem hlt)
     generalize ts[i].sort sg vs = q at hih he
     generalize oar[i] = y at hg' he
     simp only [eqS] at he
     simp only [encS] at hg'
     simp -implicitDefEqProofs (disch := omega) only [go_sem, hg, hg', hlt, hlt', enc_len, List.length_map]
     refine CallK.mk hih ?_
     simp -implicitDefEqProofs (disch := omega) only [go_sem, hg, hg', hlt, hlt', enc_len, List.length_map]
     refine ⟨fun h5 => ⟨fun h6 => ?_, fun h6 => ⟨i + 1, ⟨hlt, ?_⟩, by omega, le_mk (by simp [go_sem]) (by simp [go_sem])⟩⟩, fun h5 => ?_⟩
     ·rw [h6] at he; rw [hr, ← he]; simp
     ·rw [h5] at he; simpa [h6] using he
     ·rw [h5] at he; rw [hr, ← he]; simp
    ·have : i = ts.length := by omega
     subst this
     rw [List.drop_length] at he
     have he : true = Tm.sorts sg vs ts oar := he
     rw [← he, if_pos rfl] at hr
     subst hr
     simp -implicitDefEqProofs (disch := omega) only [go_sem, Nat.lt_irrefl]
theorem implSortOf_sat (sg : GSignature) (hk : opOk sg) (vs : List GVarSort) (hv : vs.length < 100000000) : ∀ (t : Tm), t.size < 80000000 → Sat Tryz.prog 75 [aggV sg.enc, tmV t, slV (vs.map GVarSort.enc)] (strV (t.sort sg vs)) := by
 refine Tm.ind (fun k n s ts ih h => implSortOf_1 sg hk vs hv k n s ts (by simp only [Tm.size] at h; omega) (fun t ht => ih t ht ?_))
 have := size_mem ts t ht; simp only [Tm.size] at h; omega
theorem specSortOf_1 (sg : GSignature) (hk : opOk sg) (vs : List GVarSort) (hv : vs.length < 100000000) (k n : Int) (s : ByteArray) (ts : List Tm) (hl : s.size + Tm.sizes ts < 80000000) (ih : ∀ t, t ∈ ts → Sat Tryz.prog 53 [aggV sg.enc, tmV t, slV (vs.map GVarSort.enc)] (strV (t.sort sg vs))) : Sat Tryz.prog 53 [aggV sg.enc, tmV (.mk k n s ts), slV (vs.map GVarSort.enc)] (strV ((Tm.mk k n s ts).sort sg vs)) := by
 have hts := len_sizes ts
 have hf := specFindOp_sat sg s hk
 have hfl := findOp_len sg hk s
 have hlv := specl6Var_sat vs s hv
 obtain ⟨r, hr⟩ : ∃ r, r = (Tm.mk k n s ts).sort sg vs := ⟨_, rfl⟩
 rw [← hr]
 simp only [Tm.sort] at hr
 have hse : sg.enc = [.sl (sg.so.map encS), .sl (sg.op.map GOp.enc)] := rfl
 refine sat_of_code tbOk mixed Tryz.func53 rfl rfl rfl (by decide +kernel) (by decide +kernel) (Nat.le_of_ble_eq_true rfl) ?_
 simp -implicitDefEqProofs (disch := omega) only [go_sem, Tm.enc, hse]
 refine ⟨fun h1 => by rw [hr, h1]; rfl, fun h1 => ⟨fun h2 => ?_, fun h2 => ⟨fun h3 => ?_, fun h3 => by rw [hr, h1, h2, h3]; rfl⟩⟩⟩
 ·have hr : r = (fvs vs s).getD sE := by rw [hr, h2]; rfl
  refine CallK.mk hlv ?_
  simp -implicitDefEqProofs (disch := omega) only [go_sem]
  rw [hr]
 ·have hr : r = match findOp sg s with
     | none => sE
     | some o => if (o.ar.length == ts.length && Tm.sorts sg vs ts o.ar) = true then o.re else sE := by rw [hr, h1, h2, h3]; rfl
  refine CallK.mk hf ?_
  cases hfo : findOp sg s with
  | none =>
   rw [hfo] at hr
   simp only at hr
   subst hr
   simp -implicitDefEqProofs (disch := omega) only [go_sem, Option.getD_none, Option.isSome_none, opD, GOp.enc, encS, encL, List.cons_append, List.nil_append]
  | some o =>
   rw [hfo] at hr
   simp only at hr
   have hol := hfl o hfo
   obtain ⟨ona, oar, ore⟩ := o
   simp only at hr hol
   simp -implicitDefEqProofs (disch := omega) only [go_sem, Option.getD_some, Option.isSome_some, GOp.enc, encS, encL, List.cons_append, List.nil_append]
   refine ⟨fun h4 => by rw [hr, if_neg (by simp; omega)], fun h4 => ?_⟩
   have hll : oar.length = ts.length := by simp at h4; omega
   have hr : r = if Tm.sorts sg vs ts oar = true then ore else sE := by rw [hr, hll]; simp
   refine loopA_rule (ι := Nat) (fun i => mk 71 [(2, slV (vs.map GVarSort.enc)), (3, .one (.ptr 3 0)), (4, .one (.ptr 4 0)), (7, .one (.ptr 7 0)), (9, intV i)] [(3, .var [.c (.sl (sg.so.map encS)), .c (.sl (sg.op.map GOp.enc))]), (4, .var [iC k, iC n, sC s, tC ts]), (7, .var [sC ona, .c (.sl (oar.map encS)), sC ore])])
    (fun i => i ≤ ts.length ∧ Tm.sorts sg vs (ts.drop i) (oar.drop i) = Tm.sorts sg vs ts oar) (fun i => ts.length - i) 0 ⟨Nat.zero_le _, by simp⟩ ?_ tbOk mixed (by decide +kernel) ?_
   ·exact le_mk (by simp [go_sem]) (by simp [go_sem])
   ·rintro i ⟨hi, he⟩
    rcases Nat.lt_or_ge i ts.length with hlt | hge
    ·have hlt' : i < oar.length := by omega
     have hg := encs_getD ts i hlt
     have hg' := map_getD (ec := encS) hlt'
     rw [sorts_drop sg vs ts oar i hlt hlt'] at he
     have hih := ih _ (List.getElem_mem hlt)
     generalize ts[i].sort sg vs = q at hih he
     generalize oar[i] = y at hg' he
     simp only [eqS] at he
     simp only [encS] at hg'
     simp -implicitDefEqProofs (disch := omega) only [go_sem, hg, hg', hlt, hlt', enc_len, List.length_map]
     refine CallK.mk hih ?_
     simp -implicitDefEqProofs (disch := omega) only [go_sem, hg, hg', hlt, hlt', enc_len, List.length_map]
     refine ⟨fun h5 => ⟨fun h6 => ?_, fun h6 => ⟨i + 1, ⟨hlt, ?_⟩, by omega, le_mk (by simp [go_sem]) (by simp [go_sem])⟩⟩, fun h5 => ?_⟩
     ·rw [h5, h6] at he; rw [hr, ← he]; simp
     ·rw [h5] at he
      have h6 : (y.toList == sE.toList) = false := h6
      rw [h6] at he
      simpa using he
     ·rw [h5] at he; rw [hr, ← he]; simp
    ·have : i = ts.length := by omega
     subst this
     rw [List.drop_length] at he
     have he : true = Tm.sorts sg vs ts oar := he
     rw [← he, if_pos rfl] at hr
     subst hr
     simp -implicitDefEqProofs (disch := omega) only [go_sem, Nat.lt_irrefl]
theorem specSortOf_sat (sg : GSignature) (hk : opOk sg) (vs : List GVarSort) (hv : vs.length < 100000000) : ∀ (t : Tm), t.size < 80000000 → Sat Tryz.prog 53 [aggV sg.enc, tmV t, slV (vs.map GVarSort.enc)] (strV (t.sort sg vs)) := by
 refine Tm.ind (fun k n s ts ih h => specSortOf_1 sg hk vs hv k n s ts (by simp only [Tm.size] at h; omega) (fun t ht => ih t ht ?_))
 have := size_mem ts t ht; simp only [Tm.size] at h; omega
end Go.Ai
/- Sorts of variables are inferred. -/
namespace Go.Ai
open Go.Proofs
set_option maxRecDepth 100000
mutual
theorem inf_len (sg : GSignature) : ∀ (t : Tm) (so : ByteArray) (vs : List GVarSort), (t.inf sg so vs).1.length ≤ vs.length + t.cnt
 | .mk k n s ts, so, vs => by
  simp only [Tm.inf, Tm.cnt]
  split
  ·split <;> simp <;> omega
  ·have := infs_len sg ts (if (k == 2) = true then ((findOp sg s).getD opD).ar else []) vs
   omega
theorem infs_len (sg : GSignature) : ∀ (ts : List Tm) (xs : List ByteArray) (vs : List GVarSort), (Tm.infs sg ts xs vs).1.length ≤ vs.length + Tm.cnts ts
 | [], _, vs => by simp [Tm.infs, Tm.cnts]
 | a :: ts, xs, vs => by
  simp only [Tm.infs, Tm.cnts]
  have h1 := inf_len sg a (xs.headD sE) vs
  split
  ·have := infs_len sg ts xs.tail (a.inf sg (xs.headD sE) vs).1
   omega
  ·simp
end
theorem infs_drop (sg : GSignature) (ts : List Tm) (xs : List ByteArray) (vs : List GVarSort) (i : Nat) (h : i < ts.length) : Tm.infs sg (ts.drop i) (xs.drop i) vs = if (ts[i].inf sg ((xs.drop i).headD sE) vs).2 then Tm.infs sg (ts.drop (i + 1)) (xs.drop (i + 1)) (ts[i].inf sg ((xs.drop i).headD sE) vs).1 else ([], false) := by
 rw [List.drop_eq_getElem_cons h, Tm.infs, List.tail_drop]
theorem cnts_drop (ts : List Tm) (i : Nat) (h : i < ts.length) : Tm.cnts (ts.drop i) = ts[i].cnt + Tm.cnts (ts.drop (i + 1)) := by
 rw [List.drop_eq_getElem_cons h]; simp only [Tm.cnts]
theorem headD_lt (xs : List ByteArray) (i : Nat) (h : i < xs.length) : (xs.drop i).headD sE = xs[i] := by
 rw [List.drop_eq_getElem_cons h]; rfl
theorem headD_ge (xs : List ByteArray) (i : Nat) (h : xs.length ≤ i) : (xs.drop i).headD sE = sE := by
 rw [List.drop_of_length_le h]; rfl
theorem vsR_cl (vs : List GVarSort) : clR (rowsOf GVarSort.enc vs) := rowsOf_cl
theorem vsR_noD (vs : List GVarSort) : noD (rowsOf GVarSort.enc vs) = true := rowsOf_noD
abbrev infSat (f : FuncId) (sg : GSignature) (t : Tm) : Prop := ∀ (so : ByteArray) (vs : List GVarSort), vs.length + t.cnt < 90000000 → SatA Tryz.prog f [aggV sg.enc, tmV t, strV so] [] 150 2 (rowsOf GVarSort.enc vs) (rowsOf GVarSort.enc (t.inf sg so vs).1) [boolV (t.inf sg so vs).2]
theorem implInfer_1 (sg : GSignature) (hk : opOk sg) (k n : Int) (s : ByteArray) (ts : List Tm) (hl : s.size + Tm.sizes ts < 80000000) (ih : ∀ t, t ∈ ts → infSat 142 sg t) : infSat 142 sg (.mk k n s ts) := by
 intro so vs hvl
 have hts := len_sizes ts
 have hf := implFindOp_sat sg s hk
 have hfl := findOp_len sg hk s
 simp only [Tm.cnt] at hvl
 obtain ⟨r, hr⟩ : ∃ r, r = (Tm.mk k n s ts).inf sg so vs := ⟨_, rfl⟩
 rw [← hr]
 simp only [Tm.inf] at hr
 have hse : sg.enc = [.sl (sg.so.map encS), .sl (sg.op.map GOp.enc)] := rfl
 refine satA_of_code tbOk mixed Tryz.func142 rfl rfl rfl (by decide +kernel) (by decide +kernel) (Nat.le_of_ble_eq_true rfl) (by decide) rfl (vsR_cl _) (vsR_cl _) (vsR_noD _) (vsR_noD _) ?_
 simp -implicitDefEqProofs (disch := omega) only [go_sem, Tm.enc, hse]
 refine ⟨fun h1 => ?_, fun h1 => ⟨fun h2 => ?_, fun h2 => ?_⟩⟩
 ·have hr : r = match fvs vs s with
   | some x => (vs, eqS x so)
   | none => (vs ++ [⟨s, so⟩], true) := by rw [hr, h1]; rfl
  clear hf hfl ih
  refine loopA_rule (ι := Nat) (fun i => mk 84 [(2, strV so), (3, .one (.own 9001 vs.length)), (5, .one (.ptr 5 0)), (20, .one (.own 9001 vs.length)), (21, intV vs.length), (22, intV i)] [(5, .var [iC k, iC n, sC s, tC ts]), (9001, .arr 150 2 (rowsOf GVarSort.enc vs) false)]) (fun i => i ≤ vs.length ∧ fvs (vs.drop i) s = fvs vs s) (fun i => vs.length - i) 0 ⟨Nat.zero_le _, by simp⟩ ?_ tbOk mixed (by decide +kernel) ?_
  ·exact le_mk (by simp [go_sem]) (by simp [go_sem])
  ·rintro i ⟨hi, he⟩
   rcases Nat.lt_or_ge i vs.length with hlt | hge
   ·have hg := rowsOf_get (ec := GVarSort.enc) hlt
    rw [fvs_drop vs s i hlt] at he
    generalize vs[i] = o at hg he
    obtain ⟨ona, oso⟩ := o
    simp only [GVarSort.enc, encS, List.cons_append, List.nil_append, List.map_cons, List.map_nil] at hg
    simp -implicitDefEqProofs (disch := omega) only [go_sem, hg, hlt, List.length_map]
    refine ⟨fun h2 => ?_, fun h2 => ⟨i + 1, ⟨hlt, ?_⟩, by omega, le_mk (by simp [go_sem]) (by simp [go_sem])⟩⟩
    ·have he' : eqS ona s = true := by simpa [eqS] using h2
     rw [he', if_pos rfl] at he
     rw [← he] at hr
     simp only at hr
     subst hr
     exact ⟨rfl, rfl, rfl⟩
    ·have he' : eqS ona s = false := h2
     rw [he', if_neg (by simp)] at he
     exact he
   ·have e1 : vs.drop i = [] := List.drop_of_length_le hge
    rw [e1] at he
    have he : none = fvs vs s := he
    rw [← he] at hr
    simp only at hr
    subst hr
    simp -implicitDefEqProofs (disch := omega) only [go_sem, Nat.not_lt.2 hge, List.length_map]
    exact ⟨⟨by simp, by omega, by omega⟩, fun _ => by rw [← rowsOf_app]; rfl⟩
 all_goals
  have key : ∃ ona oar ore, oar.length < 100000000 ∧ r = Tm.infs sg ts oar vs ∧ ((k = 2 ∧ (⟨ona, oar, ore⟩ : GOp) = (findOp sg s).getD opD) ∨ ((k == 2) = false ∧ ona = sE ∧ oar = [] ∧ ore = sE)) := by
   first
   | (refine ⟨((findOp sg s).getD opD).na, ((findOp sg s).getD opD).ar, ((findOp sg s).getD opD).re, ?_, by rw [hr, h1, h2]; rfl, .inl ⟨h2, rfl⟩⟩
      cases hfo : findOp sg s with
      | none => simp [opD]
      | some o => exact hfl o hfo)
   | exact ⟨sE, [], sE, by simp, by rw [hr, h1, h2]; rfl, .inr ⟨h2, rfl, rfl, rfl⟩⟩
  clear hr
  obtain ⟨ona, oar, ore, hol, hr, ho⟩ := key
  first | (refine CallK.mk hf ?_; have ho := (ho.resolve_right (fun hq => by simp [h2] at hq)).2; rw [← ho]; simp -implicitDefEqProofs (disch := omega) only [go_sem, GOp.enc, encS, encL, List.cons_append, List.nil_append]) | skip
  refine loopA_rule (ι := Nat × List GVarSort) (fun i => mk 84 [(3, .one (.own 9001 i.2.length)), (4, .one (.ptr 4 0)), (12, .one (.ptr 12 0)), (55, tmsV ts), (56, intV ts.length), (57, intV i.1)] [(4, .var [.c (.sl (sg.so.map encS)), .c (.sl (sg.op.map GOp.enc))]), (12, .var [sC ona, .c (.sl (oar.map encS)), sC ore]), (9001, .arr 150 2 (rowsOf GVarSort.enc i.2) false)])
   (fun i => i.1 ≤ ts.length ∧ Tm.infs sg (ts.drop i.1) (oar.drop i.1) i.2 = r ∧ i.2.length + Tm.cnts (ts.drop i.1) < 90000000) (fun i => ts.length - i.1) (0, vs) ⟨Nat.zero_le _, by simp [hr], by simp; omega⟩ ?_ tbOk mixed (by decide +kernel) ?_
  rotate_left
  ·rintro ⟨i, vi⟩ ⟨hi, he, hb⟩
   simp only at hi he hb
   rcases Nat.lt_or_ge i ts.length with hlt | hge
   ·have hg := encs_getD ts i hlt
    rw [infs_drop sg ts oar vi i hlt] at he
    rw [cnts_drop ts i hlt] at hb
    have hih := ih _ (List.getElem_mem hlt)
    have hil := inf_len sg ts[i]
    generalize ts[i] = a at hg hih he hb hil
    by_cases hx : i < oar.length
    ·rw [headD_lt oar i hx] at he
     have hg' := map_getD (ec := encS) hx
     simp only [encS] at hg'
     replace hih := hih oar[i] vi (by omega)
     replace hil := hil oar[i] vi
     generalize oar[i] = y at he hih hg' hil
     generalize a.inf sg y vi = q at he hih hil
     simp -implicitDefEqProofs (disch := omega) only [go_sem, hg, hg', hlt, hx, enc_len, List.length_map]
     refine CallK.acc 3 hih ⟨by simp [go_sem], rfl, by rw [rowsOf_len], rfl⟩ rfl ?_
     simp -implicitDefEqProofs (disch := omega) only [go_sem, List.getElem?_cons_succ, List.getElem?_cons_zero]
     refine ⟨fun h => ?_, fun h => ⟨(i + 1, q.1), ⟨by simp only; omega, ?_, by simp only; omega⟩, by simp only; omega, ?_⟩⟩
     ·rw [h, if_neg (by simp)] at he
      subst he
      first | exact ⟨rfl, rfl⟩ | exact ⟨rfl, rfl, rfl⟩
     ·rw [h, if_pos rfl] at he
      exact he
     ·refine (le_mk (L' := [(3, .one (.own 77 (rowsOf GVarSort.enc q.1).length)), (4, .one (.ptr 4 0)), (12, .one (.ptr 12 0)), (55, tmsV ts), (56, intV ts.length), (57, intV (i + 1 : Nat))]) (B' := [(4, .var [.c (.sl (sg.so.map encS)), .c (.sl (sg.op.map GOp.enc))]), (12, .var [sC ona, .c (.sl (oar.map encS)), sC ore]), (77, .arr 150 2 (rowsOf GVarSort.enc q.1) false)]) (by simp [go_sem]) (by simp [go_sem])).trans ?_
      refine (wk_rename (t := 3) (l := 77) (k := (rowsOf GVarSort.enc q.1).length) 9001 rfl rfl rfl (by decide) rfl (vsR_cl _) (vsR_noD _)).trans ?_
      exact le_mk (by simp [go_sem]) (by simp [go_sem])
    ·rw [headD_ge oar i (by omega)] at he
     replace hih := hih sE vi (by omega)
     replace hil := hil sE vi
     generalize a.inf sg sE vi = q at he hih hil
     simp -implicitDefEqProofs (disch := omega) only [go_sem, hg, hlt, hx, enc_len, List.length_map]
     refine CallK.acc 3 hih ⟨by simp [go_sem], rfl, by rw [rowsOf_len], rfl⟩ rfl ?_
     simp -implicitDefEqProofs (disch := omega) only [go_sem, List.getElem?_cons_succ, List.getElem?_cons_zero]
     refine ⟨fun h => ?_, fun h => ⟨(i + 1, q.1), ⟨by simp only; omega, ?_, by simp only; omega⟩, by simp only; omega, ?_⟩⟩
     ·rw [h, if_neg (by simp)] at he
      subst he
      first | exact ⟨rfl, rfl⟩ | exact ⟨rfl, rfl, rfl⟩
     ·rw [h, if_pos rfl] at he
      exact he
     ·refine (le_mk (L' := [(3, .one (.own 77 (rowsOf GVarSort.enc q.1).length)), (4, .one (.ptr 4 0)), (12, .one (.ptr 12 0)), (55, tmsV ts), (56, intV ts.length), (57, intV (i + 1 : Nat))]) (B' := [(4, .var [.c (.sl (sg.so.map encS)), .c (.sl (sg.op.map GOp.enc))]), (12, .var [sC ona, .c (.sl (oar.map encS)), sC ore]), (77, .arr 150 2 (rowsOf GVarSort.enc q.1) false)]) (by simp [go_sem]) (by simp [go_sem])).trans ?_
      refine (wk_rename (t := 3) (l := 77) (k := (rowsOf GVarSort.enc q.1).length) 9001 rfl rfl rfl (by decide) rfl (vsR_cl _) (vsR_noD _)).trans ?_
      exact le_mk (by simp [go_sem]) (by simp [go_sem])
   ·have e1 : ts.drop i = [] := List.drop_of_length_le hge
    rw [e1] at he
    have he : (vi, true) = r := he
    subst he
    simp -implicitDefEqProofs (disch := omega) only [go_sem, Nat.not_lt.2 hge]
 ·exact le_mk (by simp [go_sem]) (by simp [go_sem])
 ·obtain ⟨_, rfl, rfl, rfl⟩ := ho.resolve_left (fun hq => by simp [hq.1] at h2)
  refine (wk_varNil 12 1 rfl rfl).trans ?_
  exact le_mk (by simp [go_sem]) (by simp [go_sem])
theorem implInfer_sat (sg : GSignature) (hk : opOk sg) : ∀ (t : Tm), t.size < 80000000 → infSat 142 sg t := by
 refine Tm.ind (fun k n s ts ih h => implInfer_1 sg hk k n s ts (by simp only [Tm.size] at h; omega) (fun t ht => ih t ht ?_))
 have := size_mem ts t ht; simp only [Tm.size] at h; omega
theorem specInfer_1 (sg : GSignature) (hk : opOk sg) (k n : Int) (s : ByteArray) (ts : List Tm) (hl : s.size + Tm.sizes ts < 80000000) (ih : ∀ t, t ∈ ts → infSat 161 sg t) : infSat 161 sg (.mk k n s ts) := by
 intro so vs hvl
 have hts := len_sizes ts
 have hf := specFindOp_sat sg s hk
 have hfl := findOp_len sg hk s
 simp only [Tm.cnt] at hvl
 obtain ⟨r, hr⟩ : ∃ r, r = (Tm.mk k n s ts).inf sg so vs := ⟨_, rfl⟩
 rw [← hr]
 simp only [Tm.inf] at hr
 have hse : sg.enc = [.sl (sg.so.map encS), .sl (sg.op.map GOp.enc)] := rfl
 refine satA_of_code tbOk mixed Tryz.func161 rfl rfl rfl (by decide +kernel) (by decide +kernel) (Nat.le_of_ble_eq_true rfl) (by decide) rfl (vsR_cl _) (vsR_cl _) (vsR_noD _) (vsR_noD _) ?_
 simp -implicitDefEqProofs (disch := omega) only [go_sem, Tm.enc, hse]
 refine ⟨fun h1 => ?_, fun h1 => ⟨fun h2 => ?_, fun h2 => ?_⟩⟩
 ·have hr : r = match fvs vs s with
   | some x => (vs, eqS x so)
   | none => (vs ++ [⟨s, so⟩], true) := by rw [hr, h1]; rfl
  clear hf hfl ih
  refine loopA_rule (ι := Nat) (fun i => mk 93 [(2, strV so), (3, .one (.own 9001 vs.length)), (5, .one (.ptr 5 0)), (10, intV i)] [(5, .var [iC k, iC n, sC s, tC ts]), (9001, .arr 150 2 (rowsOf GVarSort.enc vs) false)]) (fun i => i ≤ vs.length ∧ fvs (vs.drop i) s = fvs vs s) (fun i => vs.length - i) 0 ⟨Nat.zero_le _, by simp⟩ ?_ tbOk mixed (by decide +kernel) ?_
  ·exact le_mk (by simp [go_sem]) (by simp [go_sem])
  ·rintro i ⟨hi, he⟩
   rcases Nat.lt_or_ge i vs.length with hlt | hge
   ·have hg := rowsOf_get (ec := GVarSort.enc) hlt
    rw [fvs_drop vs s i hlt] at he
    generalize vs[i] = o at hg he
    obtain ⟨ona, oso⟩ := o
    simp only [GVarSort.enc, encS, List.cons_append, List.nil_append, List.map_cons, List.map_nil] at hg
    simp -implicitDefEqProofs (disch := omega) only [go_sem, hg, hlt, List.length_map]
    refine ⟨fun h2 => ?_, fun h2 => ⟨i + 1, ⟨hlt, ?_⟩, by omega, le_mk (by simp [go_sem]) (by simp [go_sem])⟩⟩
    ·have he' : eqS ona s = true := by simpa [eqS] using h2
     rw [he', if_pos rfl] at he
     rw [← he] at hr
     simp only at hr
     subst hr
     exact ⟨rfl, rfl, rfl⟩
    ·have he' : eqS ona s = false := h2
     rw [he', if_neg (by simp)] at he
     exact he
   ·have e1 : vs.drop i = [] := List.drop_of_length_le hge
    rw [e1] at he
    have he : none = fvs vs s := he
    rw [← he] at hr
    simp only at hr
    subst hr
    simp -implicitDefEqProofs (disch := omega) only [go_sem, Nat.not_lt.2 hge, List.length_map]
    exact ⟨⟨by simp, by omega, by omega⟩, fun _ => by rw [← rowsOf_app]; rfl⟩
 all_goals
  have key : ∃ ona oar ore, oar.length < 100000000 ∧ r = Tm.infs sg ts oar vs ∧ ((k = 2 ∧ (⟨ona, oar, ore⟩ : GOp) = (findOp sg s).getD opD) ∨ ((k == 2) = false ∧ ona = sE ∧ oar = [] ∧ ore = sE)) := by
   first
   | (refine ⟨((findOp sg s).getD opD).na, ((findOp sg s).getD opD).ar, ((findOp sg s).getD opD).re, ?_, by rw [hr, h1, h2]; rfl, .inl ⟨h2, rfl⟩⟩
      cases hfo : findOp sg s with
      | none => simp [opD]
      | some o => exact hfl o hfo)
   | exact ⟨sE, [], sE, by simp, by rw [hr, h1, h2]; rfl, .inr ⟨h2, rfl, rfl, rfl⟩⟩
  clear hr
  obtain ⟨ona, oar, ore, hol, hr, ho⟩ := key
  first | (refine CallK.mk hf ?_; have ho := (ho.resolve_right (fun hq => by simp [h2] at hq)).2; rw [← ho]; simp -implicitDefEqProofs (disch := omega) only [go_sem, GOp.enc, encS, encL, List.cons_append, List.nil_append]) | skip
  refine loopA_rule (ι := Nat × List GVarSort) (fun i => mk 93 [(3, .one (.own 9001 i.2.length)), (4, .one (.ptr 4 0)), (5, .one (.ptr 5 0)), (11, .one (.ptr 11 0)), (12, intV i.1)] [(4, .var [.c (.sl (sg.so.map encS)), .c (.sl (sg.op.map GOp.enc))]), (5, .var [iC k, iC n, sC s, tC ts]), (11, .var [sC ona, .c (.sl (oar.map encS)), sC ore]), (9001, .arr 150 2 (rowsOf GVarSort.enc i.2) false)])
   (fun i => i.1 ≤ ts.length ∧ Tm.infs sg (ts.drop i.1) (oar.drop i.1) i.2 = r ∧ i.2.length + Tm.cnts (ts.drop i.1) < 90000000) (fun i => ts.length - i.1) (0, vs) ⟨Nat.zero_le _, by simp [hr], by simp; omega⟩ ?_ tbOk mixed (by decide +kernel) ?_
  rotate_left
  ·rintro ⟨i, vi⟩ ⟨hi, he, hb⟩
   simp only at hi he hb
   rcases Nat.lt_or_ge i ts.length with hlt | hge
   ·have hg := encs_getD ts i hlt
    rw [infs_drop sg ts oar vi i hlt] at he
    rw [cnts_drop ts i hlt] at hb
    have hih := ih _ (List.getElem_mem hlt)
    have hil := inf_len sg ts[i]
    generalize ts[i] = a at hg hih he hb hil
    by_cases hx : i < oar.length
    ·rw [headD_lt oar i hx] at he
     have hg' := map_getD (ec := encS) hx
     simp only [encS] at hg'
     replace hih := hih oar[i] vi (by omega)
     replace hil := hil oar[i] vi
     generalize oar[i] = y at he hih hg' hil
     generalize a.inf sg y vi = q at he hih hil
     simp -implicitDefEqProofs (disch := omega) only [go_sem, hg, hg', hlt, hx, enc_len, List.length_map]
     refine CallK.accD 3 (by decide +kernel) hih ⟨by simp [go_sem], rfl, by rw [rowsOf_len], rfl⟩ rfl ?_
     simp -implicitDefEqProofs (disch := omega) only [go_sem, List.getElem?_cons_succ, List.getElem?_cons_zero]
     refine ⟨fun h => ?_, fun h => ⟨(i + 1, q.1), ⟨by simp only; omega, ?_, by simp only; omega⟩, by simp only; omega, ?_⟩⟩
     ·rw [h, if_neg (by simp)] at he
      subst he
      first | exact ⟨rfl, rfl⟩ | exact ⟨rfl, rfl, rfl⟩
     ·rw [h, if_pos rfl] at he
      exact he
     ·refine (le_mk (L' := [(3, .one (.own 85 (rowsOf GVarSort.enc q.1).length)), (4, .one (.ptr 4 0)), (5, .one (.ptr 5 0)), (11, .one (.ptr 11 0)), (12, intV (i + 1 : Nat))]) (B' := [(4, .var [.c (.sl (sg.so.map encS)), .c (.sl (sg.op.map GOp.enc))]), (5, .var [iC k, iC n, sC s, tC ts]), (11, .var [sC ona, .c (.sl (oar.map encS)), sC ore]), (85, .arr 150 2 (rowsOf GVarSort.enc q.1) false)]) (by simp [go_sem]) (by simp [go_sem])).trans ?_
      refine (wk_rename (t := 3) (l := 85) (k := (rowsOf GVarSort.enc q.1).length) 9001 rfl rfl rfl (by decide) rfl (vsR_cl _) (vsR_noD _)).trans ?_
      exact le_mk (by simp [go_sem]) (by simp [go_sem])
    ·rw [headD_ge oar i (by omega)] at he
     replace hih := hih sE vi (by omega)
     replace hil := hil sE vi
     generalize a.inf sg sE vi = q at he hih hil
     simp -implicitDefEqProofs (disch := omega) only [go_sem, hg, hlt, hx, enc_len, List.length_map]
     refine CallK.accD 3 (by decide +kernel) hih ⟨by simp [go_sem], rfl, by rw [rowsOf_len], rfl⟩ rfl ?_
     simp -implicitDefEqProofs (disch := omega) only [go_sem, List.getElem?_cons_succ, List.getElem?_cons_zero]
     refine ⟨fun h => ?_, fun h => ⟨(i + 1, q.1), ⟨by simp only; omega, ?_, by simp only; omega⟩, by simp only; omega, ?_⟩⟩
     ·rw [h, if_neg (by simp)] at he
      subst he
      first | exact ⟨rfl, rfl⟩ | exact ⟨rfl, rfl, rfl⟩
     ·rw [h, if_pos rfl] at he
      exact he
     ·refine (le_mk (L' := [(3, .one (.own 85 (rowsOf GVarSort.enc q.1).length)), (4, .one (.ptr 4 0)), (5, .one (.ptr 5 0)), (11, .one (.ptr 11 0)), (12, intV (i + 1 : Nat))]) (B' := [(4, .var [.c (.sl (sg.so.map encS)), .c (.sl (sg.op.map GOp.enc))]), (5, .var [iC k, iC n, sC s, tC ts]), (11, .var [sC ona, .c (.sl (oar.map encS)), sC ore]), (85, .arr 150 2 (rowsOf GVarSort.enc q.1) false)]) (by simp [go_sem]) (by simp [go_sem])).trans ?_
      refine (wk_rename (t := 3) (l := 85) (k := (rowsOf GVarSort.enc q.1).length) 9001 rfl rfl rfl (by decide) rfl (vsR_cl _) (vsR_noD _)).trans ?_
      exact le_mk (by simp [go_sem]) (by simp [go_sem])
   ·have e1 : ts.drop i = [] := List.drop_of_length_le hge
    rw [e1] at he
    have he : (vi, true) = r := he
    subst he
    simp -implicitDefEqProofs (disch := omega) only [go_sem, Nat.not_lt.2 hge]
 ·exact le_mk (by simp [go_sem]) (by simp [go_sem])
 ·obtain ⟨_, rfl, rfl, rfl⟩ := ho.resolve_left (fun hq => by simp [hq.1] at h2)
  refine (wk_varNil 11 1 rfl rfl).trans ?_
  exact le_mk (by simp [go_sem]) (by simp [go_sem])
theorem specInfer_sat (sg : GSignature) (hk : opOk sg) : ∀ (t : Tm), t.size < 80000000 → infSat 161 sg t := by
 refine Tm.ind (fun k n s ts ih h => specInfer_1 sg hk k n s ts (by simp only [Tm.size] at h; omega) (fun t ht => ih t ht ?_))
 have := size_mem ts t ht; simp only [Tm.size] at h; omega
theorem implInferVars_sat (sg : GSignature) (hk : opOk sg) (t : Tm) (ht : t.size < 80000000) (so : ByteArray) : Sat Tryz.prog 73 [aggV sg.enc, tmV t, strV so] (.tup [slV ((inferV sg t so).1.map GVarSort.enc), boolV (inferV sg t so).2]) := by
 have h1 := cnt_size t
 have hi := implInfer_sat sg hk t ht so [] (by simp; omega)
 have hl := inf_len sg t so []
 have hs := implSortOf_sat sg hk (t.inf sg so []).1 (by simp at hl; omega) t ht
 obtain ⟨r, hr⟩ : ∃ r, r = inferV sg t so := ⟨_, rfl⟩
 rw [← hr]
 unfold inferV at hr
 simp only [List.length_nil, Nat.zero_add] at hl
 generalize t.inf sg so [] = q at hi hl hs hr
 generalize t.sort sg q.1 = y at hs hr
 have hse : sg.enc = [.sl (sg.so.map encS), .sl (sg.op.map GOp.enc)] := rfl
 obtain ⟨k, n, s, ts⟩ := t
 refine sat_of_code tbOk mixed Tryz.func73 rfl rfl rfl (by decide +kernel) (by decide +kernel) (Nat.le_of_ble_eq_true rfl) ?_
 simp -implicitDefEqProofs (disch := omega) only [go_sem, Tm.enc, hse]
 refine CallK.acc 3 hi ⟨by simp [go_sem], rfl, rfl⟩ rfl ?_
 simp -implicitDefEqProofs (disch := omega) only [go_sem, List.getElem?_cons_succ, List.getElem?_cons_zero, rowsOf_toC]
 refine ⟨fun k1 => ⟨fun k2 => CallK.mk hs ?_, fun k2 => ?_⟩, fun k1 => ?_⟩
 ·have k2' : eqS so sE = false := k2
  simp -implicitDefEqProofs (disch := omega) only [go_sem, List.getElem?_cons_succ, List.getElem?_cons_zero, rowsOf_toC]
  refine ⟨fun k3 => ?_, fun k3 => ?_⟩
  ·have k3' : eqS y so = false := k3
   rw [hr, k1, k2', k3']; rfl
  ·have k3' : eqS y so = true := by simpa [eqS] using k3
   rw [hr, k1, k2', k3']; rfl
 ·have k2' : eqS so sE = true := by simpa [eqS] using k2
  rw [hr, k1, k2']; rfl
 ·rw [hr, k1]; rfl
theorem specInferVars_sat (sg : GSignature) (hk : opOk sg) (t : Tm) (ht : t.size < 80000000) (so : ByteArray) : Sat Tryz.prog 91 [aggV sg.enc, tmV t, strV so] (.tup [slV ((inferV sg t so).1.map GVarSort.enc), boolV (inferV sg t so).2]) := by
 have h1 := cnt_size t
 have hi := specInfer_sat sg hk t ht so [] (by simp; omega)
 have hl := inf_len sg t so []
 have hs := specSortOf_sat sg hk (t.inf sg so []).1 (by simp at hl; omega) t ht
 obtain ⟨r, hr⟩ : ∃ r, r = inferV sg t so := ⟨_, rfl⟩
 rw [← hr]
 unfold inferV at hr
 simp only [List.length_nil, Nat.zero_add] at hl
 generalize t.inf sg so [] = q at hi hl hs hr
 generalize t.sort sg q.1 = y at hs hr
 have hse : sg.enc = [.sl (sg.so.map encS), .sl (sg.op.map GOp.enc)] := rfl
 obtain ⟨k, n, s, ts⟩ := t
 refine sat_of_code tbOk mixed Tryz.func91 rfl rfl rfl (by decide +kernel) (by decide +kernel) (Nat.le_of_ble_eq_true rfl) ?_
 simp -implicitDefEqProofs (disch := omega) only [go_sem, Tm.enc, hse]
 refine CallK.acc 3 hi ⟨by simp [go_sem], rfl, rfl, rfl⟩ rfl ?_
 simp -implicitDefEqProofs (disch := omega) only [go_sem, List.getElem?_cons_succ, List.getElem?_cons_zero, rowsOf_toC]
 refine ⟨fun k1 => ⟨fun k2 => CallK.mk hs ?_, fun k2 => ?_⟩, fun k1 => ?_⟩
 ·have k2' : eqS so sE = false := k2
  simp -implicitDefEqProofs (disch := omega) only [go_sem, List.getElem?_cons_succ, List.getElem?_cons_zero, rowsOf_toC]
  refine ⟨fun k3 => ?_, fun k3 => ?_⟩
  ·have k3' : eqS y so = false := k3
   rw [hr, k1, k2', k3']; rfl
  ·have k3' : eqS y so = true := by simpa [eqS] using k3
   rw [hr, k1, k2', k3']; rfl
 ·have k2' : eqS so sE = true := by simpa [eqS] using k2
  rw [hr, k1, k2']; rfl
 ·rw [hr, k1]; rfl
end Go.Ai
