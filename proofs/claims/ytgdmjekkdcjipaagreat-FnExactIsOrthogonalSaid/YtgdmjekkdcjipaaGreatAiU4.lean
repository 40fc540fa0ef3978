/- Signatures: FindOp, SortOf. -/
import Derived.Test.YtgdmjekkdcjipaaGreatAiU2
import Derived.Test.YtgdmjekkdcjipaaGreatAiG1
set_option linter.unusedVariables false
set_option linter.unusedSimpArgs false
namespace Go.Ai
open Go.Proofs
set_option maxRecDepth 100000
theorem sJ0 (o : GOp) (hl : o.ar.length < 100000000) : Sat Tryz.prog 154 [qA0 o.enc] (qA0 o.enc) := by
 have hc := xQ0 o.ar hl
 obtain ⟨na, ar, re⟩ := o
 simp only at hc hl
 refine soc zE0 zB0 Tryz.func154 ?_
 simp -implicitDefEqProofs only [go_sem, GOp.enc, encS, zj0, List.cons_append, List.nil_append]
 refine CallK.mk hc ?_
 simp -implicitDefEqProofs only [go_sem, GOp.enc, encS, zj0, List.cons_append, List.nil_append]
 rfl
theorem nc0 (os : List GOp) (s : ByteArray) (i : Nat) (h : i < os.length) : fop (os.drop i) s = if eqS os[i].na s then some os[i] else fop (os.drop (i + 1)) s := by
 rw [List.drop_eq_getElem_cons h]; simp only [fop]
def cn0 (sg : GSignature) : Prop := sg.op.length < 100000000 ∧ ∀ o, o ∈ sg.op → o.ar.length < 100000000
theorem wD0 (sg : GSignature) (s : ByteArray) (hk : cn0 sg) : Sat Tryz.prog 86 [qA0 sg.enc, ql0 s] (.tup [qA0 ((zI0 sg s).getD opD).enc, boolV (zI0 sg s).isSome]) := by
 obtain ⟨hl, hk⟩ := hk
 obtain ⟨r, hr⟩ : ∃ r, r = zI0 sg s := ⟨_, rfl⟩
 rw [← hr]
 unfold zI0 at hr
 obtain ⟨so, op⟩ := sg
 simp only at hr hl hk
 have hb := qI0 s
 generalize fY0 s = b at hb hr
 refine soc zE0 zB0 Tryz.func86 ?_
 simp -implicitDefEqProofs (disch := omega) only [go_sem, GSignature.enc, zj0]
 refine CallK.mk hb ?_
 simp -implicitDefEqProofs (disch := omega) only [go_sem]
 refine ⟨fun h1 => ?_, fun h1 => ?_⟩
 ·rw [h1, if_pos rfl] at hr
  subst hr
  simp -implicitDefEqProofs (disch := omega) only [go_sem, GOp.enc, encS, zj0, List.cons_append, List.nil_append]
  exact ⟨by simp [isV], rfl⟩
 ·rw [h1, if_neg (by simp)] at hr
  refine zA0 (ι := Nat) (fun i => mk 28 [(1, ql0 s), (4, .one (.ptr 4 0)), (5, boolV false), (14, slV (op.map GOp.enc)), (15, zD0 op.length), (16, zD0 i)] [(4, .var [sC sE, .nil, sC sE])]) (fun i => i ≤ op.length ∧ r = fop (op.drop i) s) (fun i => op.length - i) 0 ⟨Nat.zero_le _, by simpa using hr⟩ ?_ zE0 zB0 (by decide +kernel) ?_
  ·exact lek
  ·rintro i ⟨hi, he⟩
   rcases Nat.lt_or_ge i op.length with hlt | hge
   ·have hg := zC0 (ec := GOp.enc) hlt
    have hco := sJ0 _ (hk _ (List.getElem_mem hlt))
    rw [nc0 op s i hlt] at he
    generalize op[i] = o at hg hco he
    obtain ⟨ona, oar, ore⟩ := o
    simp only [GOp.enc, encS, zj0, List.cons_append, List.nil_append] at hg
    simp -implicitDefEqProofs (disch := omega) only [go_sem, hg, hlt, List.length_map]
    refine ⟨fun h2 => CallK.mk hco ?_, fun h2 => ⟨i + 1, ⟨hlt, ?_⟩, by omega, lek⟩⟩
    ·have he' : eqS ona s = true := by simpa [eqS] using h2
     rw [he', if_pos rfl] at he
     subst he
     simp -implicitDefEqProofs (disch := omega) only [go_sem, GOp.enc, encS, zj0, List.cons_append, List.nil_append]
     rfl
    ·have he' : eqS ona s = false := h2
     rw [he', if_neg (by simp)] at he
     exact he
   ·have e1 : op.drop i = [] := List.drop_of_length_le hge
    rw [e1] at he
    have he : r = none := he
    subst he
    simp -implicitDefEqProofs (disch := omega) only [go_sem, Nat.not_lt.2 hge, List.length_map]
    rfl
theorem wH0 (sg : GSignature) (s : ByteArray) (hk : cn0 sg) : Sat Tryz.prog 161 [qA0 sg.enc, ql0 s] (.tup [qA0 ((zI0 sg s).getD opD).enc, boolV (zI0 sg s).isSome]) := by
 obtain ⟨hl, hk⟩ := hk
 obtain ⟨r, hr⟩ : ∃ r, r = zI0 sg s := ⟨_, rfl⟩
 rw [← hr]
 unfold zI0 at hr
 obtain ⟨so, op⟩ := sg
 simp only at hr hl hk
 have hb := qM0 s
 generalize fY0 s = b at hb hr
 refine soc zE0 zB0 Tryz.func161 ?_
 simp -implicitDefEqProofs (disch := omega) only [go_sem, GSignature.enc, zj0]
 refine CallK.mk hb ?_
 simp -implicitDefEqProofs (disch := omega) only [go_sem]
 refine ⟨fun h1 => ?_, fun h1 => ?_⟩
 ·rw [h1, if_pos rfl] at hr
  subst hr
  simp -implicitDefEqProofs (disch := omega) only [go_sem, GOp.enc, encS, zj0, List.cons_append, List.nil_append]
  exact ⟨by simp [isV], rfl⟩
 ·rw [h1, if_neg (by simp)] at hr
  refine zA0 (ι := Nat) (fun i => mk 40 [(1, ql0 s), (2, .one (.ptr 2 0)), (4, .one (.ptr 4 0)), (5, boolV false), (6, zD0 i)] [(2, .var [.c (.sl (so.map encS)), .c (.sl (op.map GOp.enc))]), (4, .var [sC sE, .nil, sC sE])]) (fun i => i ≤ op.length ∧ r = fop (op.drop i) s) (fun i => op.length - i) 0 ⟨Nat.zero_le _, by simpa using hr⟩ ?_ zE0 zB0 (by decide +kernel) ?_
  ·exact lek
  ·rintro i ⟨hi, he⟩
   rcases Nat.lt_or_ge i op.length with hlt | hge
   ·have hg := zC0 (ec := GOp.enc) hlt
    have hol := hk _ (List.getElem_mem hlt)
    rw [nc0 op s i hlt] at he
    generalize op[i] = o at hg he hol
    obtain ⟨ona, oar, ore⟩ := o
    simp only at hol
    simp only [GOp.enc, encS, zj0, List.cons_append, List.nil_append] at hg
    simp -implicitDefEqProofs (disch := omega) only [go_sem, hg, hlt, List.length_map]
    refine ⟨fun h2 => ?_, fun h2 => ⟨i + 1, ⟨hlt, ?_⟩, by omega, ?_⟩⟩
    ·have he' : eqS ona s = true := by simpa [eqS] using h2
     rw [he', if_pos rfl] at he
     subst he
     exact ⟨⟨rowsOf_l (fun _ => rfl), by omega, by omega⟩, fun _ => rfl⟩
    ·have he' : eqS ona s = false := h2
     rw [he', if_neg (by simp)] at he
     exact he
    ·exact lek
   ·have e1 : op.drop i = [] := List.drop_of_length_le hge
    rw [e1] at he
    have he : r = none := he
    subst he
    simp -implicitDefEqProofs (disch := omega) only [go_sem, Nat.not_lt.2 hge, List.length_map]
    rfl
theorem xr0 (vs : List GVarSort) (s : ByteArray) (i : Nat) (h : i < vs.length) : fvs (vs.drop i) s = if eqS vs[i].na s then some vs[i].so else fvs (vs.drop (i + 1)) s := by
 rw [List.drop_eq_getElem_cons h]; simp only [fvs]
theorem cc0 (vs : List GVarSort) (s : ByteArray) (hl : vs.length < 100000000) : Sat Tryz.prog 174 [slV (vs.map GVarSort.enc), ql0 s] (ql0 ((fvs vs s).getD sE)) := by
 obtain ⟨r, hr⟩ : ∃ r, r = (fvs vs s).getD sE := ⟨_, rfl⟩
 rw [← hr]
 refine soc zE0 zB0 Tryz.func174 ?_
 simp -implicitDefEqProofs (disch := omega) only [go_sem]
 refine zA0 (ι := Nat) (fun i => mk 24 [(0, slV (vs.map GVarSort.enc)), (1, ql0 s), (5, zD0 i)] []) (fun i => i ≤ vs.length ∧ r = (fvs (vs.drop i) s).getD sE) (fun i => vs.length - i) 0 ⟨Nat.zero_le _, by simpa using hr⟩ ?_ zE0 zB0 (by decide +kernel) ?_
 ·exact lek
 ·rintro i ⟨hi, he⟩
  rcases Nat.lt_or_ge i vs.length with hlt | hge
  ·have hg := zC0 (ec := GVarSort.enc) hlt
   rw [xr0 vs s i hlt] at he
   generalize vs[i] = o at hg he
   obtain ⟨ona, oso⟩ := o
   simp only [GVarSort.enc, encS, List.cons_append, List.nil_append] at hg
   simp -implicitDefEqProofs (disch := omega) only [go_sem, hg, hlt, List.length_map]
   refine ⟨fun h2 => ?_, fun h2 => ⟨i + 1, ⟨hlt, ?_⟩, by omega, lek⟩⟩
   ·have he' : eqS ona s = true := by simpa [eqS] using h2
    rw [he', if_pos rfl] at he
    rw [he]; rfl
   ·have he' : eqS ona s = false := h2
    rw [he', if_neg (by simp)] at he
    exact he
  ·have e1 : vs.drop i = [] := List.drop_of_length_le hge
   rw [e1] at he
   have he : r = sE := he
   subst he
   simp -implicitDefEqProofs (disch := omega) only [go_sem, Nat.not_lt.2 hge, List.length_map]
theorem bK0 (sg : GSignature) (vs : List GVarSort) (ts : List Tm) (xs : List ByteArray) (i : Nat) (h : i < ts.length) (h' : i < xs.length) : Tm.sorts sg vs (ts.drop i) (xs.drop i) = ((!eqS (ts[i].sort sg vs) sE && eqS (ts[i].sort sg vs) xs[i]) && Tm.sorts sg vs (ts.drop (i + 1)) (xs.drop (i + 1))) := by
 rw [List.drop_eq_getElem_cons h, List.drop_eq_getElem_cons h']; simp only [Tm.sorts]
theorem zZ1 (P : GOp → Prop) : ∀ (os : List GOp) (s : ByteArray) (o : GOp), (∀ o, o ∈ os → P o) → fop os s = some o → P o
 | [], _, _, _, h => by cases h
 | x :: os, s, o, hp, h => by
  simp only [fop] at h
  split at h
  ·obtain rfl := Option.some.inj h
   exact hp _ (by simp)
  ·exact zZ1 P os s o (fun o ho => hp o (by simp [ho])) h
theorem wd0 (sg : GSignature) (hk : cn0 sg) (s : ByteArray) (o : GOp) (h : zI0 sg s = some o) : o.ar.length < 100000000 := by
 unfold zI0 at h
 split at h
 ·obtain rfl := Option.some.inj h; simp
 ·exact zZ1 _ _ _ _ hk.2 h
theorem do0 (sg : GSignature) (hk : cn0 sg) (vs : List GVarSort) (hv : vs.length < 100000000) (k n : Int) (s : ByteArray) (ts : List Tm) (hl : s.size + Tm.sizes ts < 80000000) (ih : ∀ t, t ∈ ts → Sat Tryz.prog 151 [qA0 sg.enc, tmV t, slV (vs.map GVarSort.enc)] (ql0 (t.sort sg vs))) : Sat Tryz.prog 151 [qA0 sg.enc, tmV (.mk k n s ts), slV (vs.map GVarSort.enc)] (ql0 ((Tm.mk k n s ts).sort sg vs)) := by
 have hts := zH0 ts
 have hf := wD0 sg s hk
 have hfl := wd0 sg hk s
 obtain ⟨r, hr⟩ : ∃ r, r = (Tm.mk k n s ts).sort sg vs := ⟨_, rfl⟩
 rw [← hr]
 simp only [Tm.sort] at hr
 have hse : sg.enc = [.sl (sg.so.map encS), .sl (sg.op.map GOp.enc)] := rfl
 refine soc zE0 zB0 Tryz.func151 ?_
 simp -implicitDefEqProofs (disch := omega) only [go_sem, Tm.enc, hse]
 refine ⟨fun h1 => by rw [hr, h1]; rfl, fun h1 => ⟨fun h2 => ?_, fun h2 => ⟨fun h3 => ?_, fun h3 => by rw [hr, h1, h2, h3]; rfl⟩⟩⟩
 ·have hr : r = (fvs vs s).getD sE := by rw [hr, h2]; rfl
  clear hf hfl ih
  refine zA0 (ι := Nat) (fun i => mk 80 [(4, .one (.ptr 4 0)), (20, slV (vs.map GVarSort.enc)), (21, zD0 vs.length), (22, zD0 i)] [(4, .var [iC k, iC n, sC s, tC ts])]) (fun i => i ≤ vs.length ∧ r = (fvs (vs.drop i) s).getD sE) (fun i => vs.length - i) 0 ⟨Nat.zero_le _, by simpa using hr⟩ ?_ zE0 zB0 (by decide +kernel) ?_
  ·exact lek
  ·rintro i ⟨hi, he⟩
   rcases Nat.lt_or_ge i vs.length with hlt | hge
   ·have hg := zC0 (ec := GVarSort.enc) hlt
    rw [xr0 vs s i hlt] at he
    generalize vs[i] = o at hg he
    obtain ⟨ona, oso⟩ := o
    simp only [GVarSort.enc, encS, List.cons_append, List.nil_append] at hg
    simp -implicitDefEqProofs (disch := omega) only [go_sem, hg, hlt, List.length_map]
    refine ⟨fun h2 => ?_, fun h2 => ⟨i + 1, ⟨hlt, ?_⟩, by omega, lek⟩⟩
    ·have he' : eqS ona s = true := by simpa [eqS] using h2
     rw [he', if_pos rfl] at he
     rw [he]; rfl
    ·have he' : eqS ona s = false := h2
     rw [he', if_neg (by simp)] at he
     exact he
   ·have e1 : vs.drop i = [] := List.drop_of_length_le hge
    rw [e1] at he
    have he : r = sE := he
    subst he
    simp -implicitDefEqProofs (disch := omega) only [go_sem, Nat.not_lt.2 hge, List.length_map]
 ·have hr : r = match zI0 sg s with
     | none => sE
     | some o => if (o.ar.length == ts.length && Tm.sorts sg vs ts o.ar) = true then o.re else sE := by rw [hr, h1, h2, h3]; rfl
  refine CallK.mk hf ?_
  cases hfo : zI0 sg s with
  | none =>
   rw [hfo] at hr
   simp only at hr
   subst hr
   simp -implicitDefEqProofs (disch := omega) only [go_sem, Option.getD_none, Option.isSome_none, opD, GOp.enc, encS, zj0, List.cons_append, List.nil_append]
  | some o =>
   rw [hfo] at hr
   simp only at hr
   have hol := hfl o hfo
   obtain ⟨ona, oar, ore⟩ := o
   simp only at hr hol
   simp -implicitDefEqProofs (disch := omega) only [go_sem, Option.getD_some, Option.isSome_some, GOp.enc, encS, zj0, List.cons_append, List.nil_append]
   refine ⟨fun h4 => by rw [hr, if_neg (by simp; omega)], fun h4 => ?_⟩
   have hll : oar.length = ts.length := by simp at h4; omega
   have hr : r = if Tm.sorts sg vs ts oar = true then ore else sE := by rw [hr, hll]; simp
   refine zA0 (ι := Nat) (fun i => mk 80 [(2, slV (vs.map GVarSort.enc)), (3, .one (.ptr 3 0)), (9, .one (.ptr 9 0)), (55, yM0 ts), (56, zD0 ts.length), (57, zD0 i)] [(3, .var [.c (.sl (sg.so.map encS)), .c (.sl (sg.op.map GOp.enc))]), (9, .var [sC ona, .c (.sl (oar.map encS)), sC ore])])
    (fun i => i ≤ ts.length ∧ Tm.sorts sg vs (ts.drop i) (oar.drop i) = Tm.sorts sg vs ts oar) (fun i => ts.length - i) 0 ⟨Nat.zero_le _, by simp⟩ ?_ zE0 zB0 (by decide +kernel) ?_
   ·exact lek
   ·rintro i ⟨hi, he⟩
    rcases Nat.lt_or_ge i ts.length with hlt | hge
    ·have hlt' : i < oar.length := by omega
     have hg := zF0 ts i hlt
     have hg' := zC0 (ec := encS) hlt'
     rw [bK0 sg vs ts oar i hlt hlt'] at he
     have hih := ih _ (List.getElem_mem hlt)
     generalize ts[i].sort sg vs = q at hih he
     generalize oar[i] = y at hg' he
     simp only [eqS] at he
     simp only [encS] at hg'
     simp -implicitDefEqProofs (disch := omega) only [go_sem, hg, hg', hlt, hlt', enc_len, List.length_map]
     refine CallK.mk hih ?_
     simp -implicitDefEqProofs (disch := omega) only [go_sem, hg, hg', hlt, hlt', enc_len, List.length_map]
     refine ⟨fun h5 => ⟨fun h6 => ?_, fun h6 => ⟨i + 1, ⟨hlt, ?_⟩, by omega, lek⟩⟩, fun h5 => ?_⟩
     ·rw [h6] at he; rw [hr, ← he]; simp
     ·rw [h5] at he; simpa [h6] using he
     ·rw [h5] at he; rw [hr, ← he]; simp
    ·have : i = ts.length := by omega
     subst this
     rw [List.drop_length] at he
     have he : true = Tm.sorts sg vs ts oar := he
     rw [← he, if_pos rfl] at hr
     subst hr
     simp -implicitDefEqProofs (disch := omega) only [go_sem, Nat.lt_irrefl]
theorem wF0 (sg : GSignature) (hk : cn0 sg) (vs : List GVarSort) (hv : vs.length < 100000000) : ∀ (t : Tm), t.size < 80000000 → Sat Tryz.prog 151 [qA0 sg.enc, tmV t, slV (vs.map GVarSort.enc)] (ql0 (t.sort sg vs)) := by
 refine Tm.ind (fun k n s ts ih h => do0 sg hk vs hv k n s ts (by simp only [Tm.size] at h; omega) (fun t ht => ih t ht ?_))
 have := zT0 ts t ht; simp only [Tm.size] at h; omega
theorem gk0 (sg : GSignature) (hk : cn0 sg) (vs : List GVarSort) (hv : vs.length < 100000000) (k n : Int) (s : ByteArray) (ts : List Tm) (hl : s.size + Tm.sizes ts < 80000000) (ih : ∀ t, t ∈ ts → Sat Tryz.prog 108 [qA0 sg.enc, tmV t, slV (vs.map GVarSort.enc)] (ql0 (t.sort sg vs))) : Sat Tryz.prog 108 [qA0 sg.enc, tmV (.mk k n s ts), slV (vs.map GVarSort.enc)] (ql0 ((Tm.mk k n s ts).sort sg vs)) := by
 have hts := zH0 ts
 have hf := wH0 sg s hk
 have hfl := wd0 sg hk s
 have hlv := cc0 vs s hv
 obtain ⟨r, hr⟩ : ∃ r, r = (Tm.mk k n s ts).sort sg vs := ⟨_, rfl⟩
 rw [← hr]
 simp only [Tm.sort] at hr
 have hse : sg.enc = [.sl (sg.so.map encS), .sl (sg.op.map GOp.enc)] := rfl
 refine soc zE0 zB0 Tryz.func108 ?_
 simp -implicitDefEqProofs (disch := omega) only [go_sem, Tm.enc, hse]
 refine ⟨fun h1 => by rw [hr, h1]; rfl, fun h1 => ⟨fun h2 => ?_, fun h2 => ⟨fun h3 => ?_, fun h3 => by rw [hr, h1, h2, h3]; rfl⟩⟩⟩
 ·have hr : r = (fvs vs s).getD sE := by rw [hr, h2]; rfl
  refine CallK.mk hlv ?_
  simp -implicitDefEqProofs (disch := omega) only [go_sem]
  rw [hr]
 ·have hr : r = match zI0 sg s with
     | none => sE
     | some o => if (o.ar.length == ts.length && Tm.sorts sg vs ts o.ar) = true then o.re else sE := by rw [hr, h1, h2, h3]; rfl
  refine CallK.mk hf ?_
  cases hfo : zI0 sg s with
  | none =>
   rw [hfo] at hr
   simp only at hr
   subst hr
   simp -implicitDefEqProofs (disch := omega) only [go_sem, Option.getD_none, Option.isSome_none, opD, GOp.enc, encS, zj0, List.cons_append, List.nil_append]
  | some o =>
   rw [hfo] at hr
   simp only at hr
   have hol := hfl o hfo
   obtain ⟨ona, oar, ore⟩ := o
   simp only at hr hol
   simp -implicitDefEqProofs (disch := omega) only [go_sem, Option.getD_some, Option.isSome_some, GOp.enc, encS, zj0, List.cons_append, List.nil_append]
   refine ⟨fun h4 => by rw [hr, if_neg (by simp; omega)], fun h4 => ?_⟩
   have hll : oar.length = ts.length := by simp at h4; omega
   have hr : r = if Tm.sorts sg vs ts oar = true then ore else sE := by rw [hr, hll]; simp
   refine zA0 (ι := Nat) (fun i => mk 71 [(2, slV (vs.map GVarSort.enc)), (3, .one (.ptr 3 0)), (4, .one (.ptr 4 0)), (7, .one (.ptr 7 0)), (9, zD0 i)] [(3, .var [.c (.sl (sg.so.map encS)), .c (.sl (sg.op.map GOp.enc))]), (4, .var [iC k, iC n, sC s, tC ts]), (7, .var [sC ona, .c (.sl (oar.map encS)), sC ore])])
    (fun i => i ≤ ts.length ∧ Tm.sorts sg vs (ts.drop i) (oar.drop i) = Tm.sorts sg vs ts oar) (fun i => ts.length - i) 0 ⟨Nat.zero_le _, by simp⟩ ?_ zE0 zB0 (by decide +kernel) ?_
   ·exact lek
   ·rintro i ⟨hi, he⟩
    rcases Nat.lt_or_ge i ts.length with hlt | hge
    ·have hlt' : i < oar.length := by omega
     have hg := zF0 ts i hlt
     have hg' := zC0 (ec := encS) hlt'
     rw [bK0 sg vs ts oar i hlt hlt'] at he
     have hih := ih _ (List.getElem_mem hlt)
     generalize ts[i].sort sg vs = q at hih he
     generalize oar[i] = y at hg' he
     simp only [eqS] at he
     simp only [encS] at hg'
     simp -implicitDefEqProofs (disch := omega) only [go_sem, hg, hg', hlt, hlt', enc_len, List.length_map]
     refine CallK.mk hih ?_
     simp -implicitDefEqProofs (disch := omega) only [go_sem, hg, hg', hlt, hlt', enc_len, List.length_map]
     refine ⟨fun h5 => ⟨fun h6 => ?_, fun h6 => ⟨i + 1, ⟨hlt, ?_⟩, by omega, lek⟩⟩, fun h5 => ?_⟩
     ·rw [h5, h6] at he; rw [hr, ← he]; simp
     ·rw [h5] at he
      have h6 : (y.toList == sE.toList) = false := h6
      rw [h6] at he
      simpa using he
     ·rw [h5] at he; rw [hr, ← he]; simp
    ·have : i = ts.length := by omega
     subst this
     rw [List.drop_length] at he
     have he : true = Tm.sorts sg vs ts oar := he
     rw [← he, if_pos rfl] at hr
     subst hr
     simp -implicitDefEqProofs (disch := omega) only [go_sem, Nat.lt_irrefl]
theorem wJ0 (sg : GSignature) (hk : cn0 sg) (vs : List GVarSort) (hv : vs.length < 100000000) : ∀ (t : Tm), t.size < 80000000 → Sat Tryz.prog 108 [qA0 sg.enc, tmV t, slV (vs.map GVarSort.enc)] (ql0 (t.sort sg vs)) := by
 refine Tm.ind (fun k n s ts ih h => gk0 sg hk vs hv k n s ts (by simp only [Tm.size] at h; omega) (fun t ht => ih t ht ?_))
 have := zT0 ts t ht; simp only [Tm.size] at h; omega
mutual
theorem kA0 (sg : GSignature) : ∀ (t : Tm) (so : ByteArray) (vs : List GVarSort), (t.inf sg so vs).1.length ≤ vs.length + t.cnt
 | .mk k n s ts, so, vs => by
  simp only [Tm.inf, Tm.cnt]
  split
  ·split <;> simp <;> omega
  ·have := infs_len sg ts (if (k == 2) = true then ((zI0 sg s).getD opD).ar else []) vs
   omega
theorem infs_len (sg : GSignature) : ∀ (ts : List Tm) (xs : List ByteArray) (vs : List GVarSort), (Tm.infs sg ts xs vs).1.length ≤ vs.length + Tm.cnts ts
 | [], _, vs => by simp [Tm.infs, Tm.cnts]
 | a :: ts, xs, vs => by
  simp only [Tm.infs, Tm.cnts]
  have h1 := kA0 sg a (xs.headD sE) vs
  split
  ·have := infs_len sg ts xs.tail (a.inf sg (xs.headD sE) vs).1
   omega
  ·simp
end
theorem dv0 (sg : GSignature) (ts : List Tm) (xs : List ByteArray) (vs : List GVarSort) (i : Nat) (h : i < ts.length) : Tm.infs sg (ts.drop i) (xs.drop i) vs = if (ts[i].inf sg ((xs.drop i).headD sE) vs).2 then Tm.infs sg (ts.drop (i + 1)) (xs.drop (i + 1)) (ts[i].inf sg ((xs.drop i).headD sE) vs).1 else ([], false) := by
 rw [List.drop_eq_getElem_cons h, Tm.infs, List.tail_drop]
theorem dK0 (ts : List Tm) (i : Nat) (h : i < ts.length) : Tm.cnts (ts.drop i) = ts[i].cnt + Tm.cnts (ts.drop (i + 1)) := by
 rw [List.drop_eq_getElem_cons h]; simp only [Tm.cnts]
theorem ng0 (xs : List ByteArray) (i : Nat) (h : i < xs.length) : (xs.drop i).headD sE = xs[i] := by
 rw [List.drop_eq_getElem_cons h]; rfl
theorem nf0 (xs : List ByteArray) (i : Nat) (h : xs.length ≤ i) : (xs.drop i).headD sE = sE := by
 rw [List.drop_of_length_le h]; rfl
theorem xN0 (vs : List GVarSort) : clR (rowsOf GVarSort.enc vs) := rowsOf_cl
theorem jV0 (vs : List GVarSort) : noD (rowsOf GVarSort.enc vs) = true := rowsOf_noD
abbrev fs0 (f : FuncId) (sg : GSignature) (t : Tm) : Prop := ∀ (so : ByteArray) (vs : List GVarSort), vs.length + t.cnt < 90000000 → ff0 Tryz.prog f [qA0 sg.enc, tmV t, ql0 so] [] 216 2 (rowsOf GVarSort.enc vs) (rowsOf GVarSort.enc (t.inf sg so vs).1) [boolV (t.inf sg so vs).2]
theorem mG0 (sg : GSignature) (hk : cn0 sg) (k n : Int) (s : ByteArray) (ts : List Tm) (hl : s.size + Tm.sizes ts < 80000000) (ih : ∀ t, t ∈ ts → fs0 196 sg t) : fs0 196 sg (.mk k n s ts) := by
 intro so vs hvl
 have hts := zH0 ts
 have hf := wD0 sg s hk
 have hfl := wd0 sg hk s
 simp only [Tm.cnt] at hvl
 obtain ⟨r, hr⟩ : ∃ r, r = (Tm.mk k n s ts).inf sg so vs := ⟨_, rfl⟩
 rw [← hr]
 simp only [Tm.inf] at hr
 have hse : sg.enc = [.sl (sg.so.map encS), .sl (sg.op.map GOp.enc)] := rfl
 refine jS0 zE0 zB0 Tryz.func196 rfl rfl rfl (by decide +kernel) (by decide +kernel) (Nat.le_of_ble_eq_true rfl) (by decide) rfl (xN0 _) (xN0 _) (jV0 _) (jV0 _) ?_
 simp -implicitDefEqProofs (disch := omega) only [go_sem, Tm.enc, hse]
 refine ⟨fun h1 => ?_, fun h1 => ⟨fun h2 => ?_, fun h2 => ?_⟩⟩
 ·have hr : r = match fvs vs s with
   | some x => (vs, eqS x so)
   | none => (vs ++ [⟨s, so⟩], true) := by rw [hr, h1]; rfl
  clear hf hfl ih
  refine zA0 (ι := Nat) (fun i => mk 84 [(2, ql0 so), (3, .one (.own 9001 vs.length)), (5, .one (.ptr 5 0)), (20, .one (.own 9001 vs.length)), (21, zD0 vs.length), (22, zD0 i)] [(5, .var [iC k, iC n, sC s, tC ts]), (9001, .arr 216 2 (rowsOf GVarSort.enc vs) false)]) (fun i => i ≤ vs.length ∧ fvs (vs.drop i) s = fvs vs s) (fun i => vs.length - i) 0 ⟨Nat.zero_le _, by simp⟩ ?_ zE0 zB0 (by decide +kernel) ?_
  ·exact lek
  ·rintro i ⟨hi, he⟩
   rcases Nat.lt_or_ge i vs.length with hlt | hge
   ·have hg := vc0 (ec := GVarSort.enc) hlt
    rw [xr0 vs s i hlt] at he
    generalize vs[i] = o at hg he
    obtain ⟨ona, oso⟩ := o
    simp only [GVarSort.enc, encS, List.cons_append, List.nil_append, List.map_cons, List.map_nil] at hg
    simp -implicitDefEqProofs (disch := omega) only [go_sem, hg, hlt, List.length_map]
    refine ⟨fun h2 => ?_, fun h2 => ⟨i + 1, ⟨hlt, ?_⟩, by omega, lek⟩⟩
    ·have he' : eqS ona s = true := by simpa [eqS] using h2
     rw [he', if_pos rfl] at he
     rw [← he] at hr
     simp only at hr
     subst hr
     exact ⟨rfl, rfl, rfl⟩
    ·have he' : eqS ona s = false := h2
     rw [he', if_neg (by simp)] at he
     exact he
   ·have e1 : vs.drop i = [] := List.drop_of_length_le hge
    rw [e1] at he
    have he : none = fvs vs s := he
    rw [← he] at hr
    simp only at hr
    subst hr
    simp -implicitDefEqProofs (disch := omega) only [go_sem, Nat.not_lt.2 hge, List.length_map]
    exact ⟨⟨by simp, by omega, by omega⟩, fun _ => by rw [← zb0]; rfl⟩
 all_goals
  have key : ∃ ona oar ore, oar.length < 100000000 ∧ r = Tm.infs sg ts oar vs ∧ ((k = 2 ∧ (⟨ona, oar, ore⟩ : GOp) = (zI0 sg s).getD opD) ∨ ((k == 2) = false ∧ ona = sE ∧ oar = [] ∧ ore = sE)) := by
   first
   | (refine ⟨((zI0 sg s).getD opD).na, ((zI0 sg s).getD opD).ar, ((zI0 sg s).getD opD).re, ?_, by rw [hr, h1, h2]; rfl, .inl ⟨h2, rfl⟩⟩
      cases hfo : zI0 sg s with
      | none => simp [opD]
      | some o => exact hfl o hfo)
   | exact ⟨sE, [], sE, by simp, by rw [hr, h1, h2]; rfl, .inr ⟨h2, rfl, rfl, rfl⟩⟩
  clear hr
  obtain ⟨ona, oar, ore, hol, hr, ho⟩ := key
  first | (refine CallK.mk hf ?_; have ho := (ho.resolve_right (fun hq => by simp [h2] at hq)).2; rw [← ho]; simp -implicitDefEqProofs (disch := omega) only [go_sem, GOp.enc, encS, zj0, List.cons_append, List.nil_append]) | skip
  refine zA0 (ι := Nat × List GVarSort) (fun i => mk 84 [(3, .one (.own 9001 i.2.length)), (4, .one (.ptr 4 0)), (12, .one (.ptr 12 0)), (55, yM0 ts), (56, zD0 ts.length), (57, zD0 i.1)] [(4, .var [.c (.sl (sg.so.map encS)), .c (.sl (sg.op.map GOp.enc))]), (12, .var [sC ona, .c (.sl (oar.map encS)), sC ore]), (9001, .arr 216 2 (rowsOf GVarSort.enc i.2) false)])
   (fun i => i.1 ≤ ts.length ∧ Tm.infs sg (ts.drop i.1) (oar.drop i.1) i.2 = r ∧ i.2.length + Tm.cnts (ts.drop i.1) < 90000000) (fun i => ts.length - i.1) (0, vs) ⟨Nat.zero_le _, by simp [hr], by simp; omega⟩ ?_ zE0 zB0 (by decide +kernel) ?_
  rotate_left
  ·rintro ⟨i, vi⟩ ⟨hi, he, hb⟩
   simp only at hi he hb
   rcases Nat.lt_or_ge i ts.length with hlt | hge
   ·have hg := zF0 ts i hlt
    rw [dv0 sg ts oar vi i hlt] at he
    rw [dK0 ts i hlt] at hb
    have hih := ih _ (List.getElem_mem hlt)
    have hil := kA0 sg ts[i]
    generalize ts[i] = a at hg hih he hb hil
    by_cases hx : i < oar.length
    ·rw [ng0 oar i hx] at he
     have hg' := zC0 (ec := encS) hx
     simp only [encS] at hg'
     replace hih := hih oar[i] vi (by omega)
     replace hil := hil oar[i] vi
     generalize oar[i] = y at he hih hg' hil
     generalize a.inf sg y vi = q at he hih hil
     simp -implicitDefEqProofs (disch := omega) only [go_sem, hg, hg', hlt, hx, enc_len, List.length_map]
     refine CallK.acc 3 hih ⟨by simp [go_sem], rfl, by rw [zY0], rfl⟩ rfl ?_
     simp -implicitDefEqProofs (disch := omega) only [go_sem, List.getElem?_cons_succ, List.getElem?_cons_zero]
     refine ⟨fun h => ?_, fun h => ⟨(i + 1, q.1), ⟨by simp only; omega, ?_, by simp only; omega⟩, by simp only; omega, ?_⟩⟩
     ·rw [h, if_neg (by simp)] at he
      subst he
      first | exact ⟨rfl, rfl⟩ | exact ⟨rfl, rfl, rfl⟩
     ·rw [h, if_pos rfl] at he
      exact he
     ·refine (zG0 (L' := [(3, .one (.own 77 (rowsOf GVarSort.enc q.1).length)), (4, .one (.ptr 4 0)), (12, .one (.ptr 12 0)), (55, yM0 ts), (56, zD0 ts.length), (57, zD0 (i + 1 : Nat))]) (B' := [(4, .var [.c (.sl (sg.so.map encS)), .c (.sl (sg.op.map GOp.enc))]), (12, .var [sC ona, .c (.sl (oar.map encS)), sC ore]), (77, .arr 216 2 (rowsOf GVarSort.enc q.1) false)]) (by simp [go_sem]) (by simp [go_sem])).trans ?_
      refine (zu0 (t := 3) (l := 77) (k := (rowsOf GVarSort.enc q.1).length) 9001 rfl rfl rfl (by decide) rfl (xN0 _) (jV0 _)).trans ?_
      exact lek
    ·rw [nf0 oar i (by omega)] at he
     replace hih := hih sE vi (by omega)
     replace hil := hil sE vi
     generalize a.inf sg sE vi = q at he hih hil
     simp -implicitDefEqProofs (disch := omega) only [go_sem, hg, hlt, hx, enc_len, List.length_map]
     refine CallK.acc 3 hih ⟨by simp [go_sem], rfl, by rw [zY0], rfl⟩ rfl ?_
     simp -implicitDefEqProofs (disch := omega) only [go_sem, List.getElem?_cons_succ, List.getElem?_cons_zero]
     refine ⟨fun h => ?_, fun h => ⟨(i + 1, q.1), ⟨by simp only; omega, ?_, by simp only; omega⟩, by simp only; omega, ?_⟩⟩
     ·rw [h, if_neg (by simp)] at he
      subst he
      first | exact ⟨rfl, rfl⟩ | exact ⟨rfl, rfl, rfl⟩
     ·rw [h, if_pos rfl] at he
      exact he
     ·refine (zG0 (L' := [(3, .one (.own 77 (rowsOf GVarSort.enc q.1).length)), (4, .one (.ptr 4 0)), (12, .one (.ptr 12 0)), (55, yM0 ts), (56, zD0 ts.length), (57, zD0 (i + 1 : Nat))]) (B' := [(4, .var [.c (.sl (sg.so.map encS)), .c (.sl (sg.op.map GOp.enc))]), (12, .var [sC ona, .c (.sl (oar.map encS)), sC ore]), (77, .arr 216 2 (rowsOf GVarSort.enc q.1) false)]) (by simp [go_sem]) (by simp [go_sem])).trans ?_
      refine (zu0 (t := 3) (l := 77) (k := (rowsOf GVarSort.enc q.1).length) 9001 rfl rfl rfl (by decide) rfl (xN0 _) (jV0 _)).trans ?_
      exact lek
   ·have e1 : ts.drop i = [] := List.drop_of_length_le hge
    rw [e1] at he
    have he : (vi, true) = r := he
    subst he
    simp -implicitDefEqProofs (disch := omega) only [go_sem, Nat.not_lt.2 hge]
 ·exact lek
 ·obtain ⟨_, rfl, rfl, rfl⟩ := ho.resolve_left (fun hq => by simp [hq.1] at h2)
  refine (fI0 12 1 rfl rfl).trans ?_
  exact lek
theorem bm0 (sg : GSignature) (hk : cn0 sg) : ∀ (t : Tm), t.size < 80000000 → fs0 196 sg t := by
 refine Tm.ind (fun k n s ts ih h => mG0 sg hk k n s ts (by simp only [Tm.size] at h; omega) (fun t ht => ih t ht ?_))
 have := zT0 ts t ht; simp only [Tm.size] at h; omega
theorem mq0 (sg : GSignature) (hk : cn0 sg) (k n : Int) (s : ByteArray) (ts : List Tm) (hl : s.size + Tm.sizes ts < 80000000) (ih : ∀ t, t ∈ ts → fs0 203 sg t) : fs0 203 sg (.mk k n s ts) := by
 intro so vs hvl
 have hts := zH0 ts
 have hf := wH0 sg s hk
 have hfl := wd0 sg hk s
 simp only [Tm.cnt] at hvl
 obtain ⟨r, hr⟩ : ∃ r, r = (Tm.mk k n s ts).inf sg so vs := ⟨_, rfl⟩
 rw [← hr]
 simp only [Tm.inf] at hr
 have hse : sg.enc = [.sl (sg.so.map encS), .sl (sg.op.map GOp.enc)] := rfl
 refine jS0 zE0 zB0 Tryz.func203 rfl rfl rfl (by decide +kernel) (by decide +kernel) (Nat.le_of_ble_eq_true rfl) (by decide) rfl (xN0 _) (xN0 _) (jV0 _) (jV0 _) ?_
 simp -implicitDefEqProofs (disch := omega) only [go_sem, Tm.enc, hse]
 refine ⟨fun h1 => ?_, fun h1 => ⟨fun h2 => ?_, fun h2 => ?_⟩⟩
 ·have hr : r = match fvs vs s with
   | some x => (vs, eqS x so)
   | none => (vs ++ [⟨s, so⟩], true) := by rw [hr, h1]; rfl
  clear hf hfl ih
  refine zA0 (ι := Nat) (fun i => mk 93 [(2, ql0 so), (3, .one (.own 9001 vs.length)), (5, .one (.ptr 5 0)), (10, zD0 i)] [(5, .var [iC k, iC n, sC s, tC ts]), (9001, .arr 216 2 (rowsOf GVarSort.enc vs) false)]) (fun i => i ≤ vs.length ∧ fvs (vs.drop i) s = fvs vs s) (fun i => vs.length - i) 0 ⟨Nat.zero_le _, by simp⟩ ?_ zE0 zB0 (by decide +kernel) ?_
  ·exact lek
  ·rintro i ⟨hi, he⟩
   rcases Nat.lt_or_ge i vs.length with hlt | hge
   ·have hg := vc0 (ec := GVarSort.enc) hlt
    rw [xr0 vs s i hlt] at he
    generalize vs[i] = o at hg he
    obtain ⟨ona, oso⟩ := o
    simp only [GVarSort.enc, encS, List.cons_append, List.nil_append, List.map_cons, List.map_nil] at hg
    simp -implicitDefEqProofs (disch := omega) only [go_sem, hg, hlt, List.length_map]
    refine ⟨fun h2 => ?_, fun h2 => ⟨i + 1, ⟨hlt, ?_⟩, by omega, lek⟩⟩
    ·have he' : eqS ona s = true := by simpa [eqS] using h2
     rw [he', if_pos rfl] at he
     rw [← he] at hr
     simp only at hr
     subst hr
     exact ⟨rfl, rfl, rfl⟩
    ·have he' : eqS ona s = false := h2
     rw [he', if_neg (by simp)] at he
     exact he
   ·have e1 : vs.drop i = [] := List.drop_of_length_le hge
    rw [e1] at he
    have he : none = fvs vs s := he
    rw [← he] at hr
    simp only at hr
    subst hr
    simp -implicitDefEqProofs (disch := omega) only [go_sem, Nat.not_lt.2 hge, List.length_map]
    exact ⟨⟨by simp, by omega, by omega⟩, fun _ => by rw [← zb0]; rfl⟩
 all_goals
  have key : ∃ ona oar ore, oar.length < 100000000 ∧ r = Tm.infs sg ts oar vs ∧ ((k = 2 ∧ (⟨ona, oar, ore⟩ : GOp) = (zI0 sg s).getD opD) ∨ ((k == 2) = false ∧ ona = sE ∧ oar = [] ∧ ore = sE)) := by
   first
   | (refine ⟨((zI0 sg s).getD opD).na, ((zI0 sg s).getD opD).ar, ((zI0 sg s).getD opD).re, ?_, by rw [hr, h1, h2]; rfl, .inl ⟨h2, rfl⟩⟩
      cases hfo : zI0 sg s with
      | none => simp [opD]
      | some o => exact hfl o hfo)
   | exact ⟨sE, [], sE, by simp, by rw [hr, h1, h2]; rfl, .inr ⟨h2, rfl, rfl, rfl⟩⟩
  clear hr
  obtain ⟨ona, oar, ore, hol, hr, ho⟩ := key
  first | (refine CallK.mk hf ?_; have ho := (ho.resolve_right (fun hq => by simp [h2] at hq)).2; rw [← ho]; simp -implicitDefEqProofs (disch := omega) only [go_sem, GOp.enc, encS, zj0, List.cons_append, List.nil_append]) | skip
  refine zA0 (ι := Nat × List GVarSort) (fun i => mk 93 [(3, .one (.own 9001 i.2.length)), (4, .one (.ptr 4 0)), (5, .one (.ptr 5 0)), (11, .one (.ptr 11 0)), (12, zD0 i.1)] [(4, .var [.c (.sl (sg.so.map encS)), .c (.sl (sg.op.map GOp.enc))]), (5, .var [iC k, iC n, sC s, tC ts]), (11, .var [sC ona, .c (.sl (oar.map encS)), sC ore]), (9001, .arr 216 2 (rowsOf GVarSort.enc i.2) false)])
   (fun i => i.1 ≤ ts.length ∧ Tm.infs sg (ts.drop i.1) (oar.drop i.1) i.2 = r ∧ i.2.length + Tm.cnts (ts.drop i.1) < 90000000) (fun i => ts.length - i.1) (0, vs) ⟨Nat.zero_le _, by simp [hr], by simp; omega⟩ ?_ zE0 zB0 (by decide +kernel) ?_
  rotate_left
  ·rintro ⟨i, vi⟩ ⟨hi, he, hb⟩
   simp only at hi he hb
   rcases Nat.lt_or_ge i ts.length with hlt | hge
   ·have hg := zF0 ts i hlt
    rw [dv0 sg ts oar vi i hlt] at he
    rw [dK0 ts i hlt] at hb
    have hih := ih _ (List.getElem_mem hlt)
    have hil := kA0 sg ts[i]
    generalize ts[i] = a at hg hih he hb hil
    by_cases hx : i < oar.length
    ·rw [ng0 oar i hx] at he
     have hg' := zC0 (ec := encS) hx
     simp only [encS] at hg'
     replace hih := hih oar[i] vi (by omega)
     replace hil := hil oar[i] vi
     generalize oar[i] = y at he hih hg' hil
     generalize a.inf sg y vi = q at he hih hil
     simp -implicitDefEqProofs (disch := omega) only [go_sem, hg, hg', hlt, hx, enc_len, List.length_map]
     refine CallK.accD 3 (by decide +kernel) hih ⟨by simp [go_sem], rfl, by rw [zY0], rfl⟩ rfl ?_
     simp -implicitDefEqProofs (disch := omega) only [go_sem, List.getElem?_cons_succ, List.getElem?_cons_zero]
     refine ⟨fun h => ?_, fun h => ⟨(i + 1, q.1), ⟨by simp only; omega, ?_, by simp only; omega⟩, by simp only; omega, ?_⟩⟩
     ·rw [h, if_neg (by simp)] at he
      subst he
      first | exact ⟨rfl, rfl⟩ | exact ⟨rfl, rfl, rfl⟩
     ·rw [h, if_pos rfl] at he
      exact he
     ·refine (zG0 (L' := [(3, .one (.own 85 (rowsOf GVarSort.enc q.1).length)), (4, .one (.ptr 4 0)), (5, .one (.ptr 5 0)), (11, .one (.ptr 11 0)), (12, zD0 (i + 1 : Nat))]) (B' := [(4, .var [.c (.sl (sg.so.map encS)), .c (.sl (sg.op.map GOp.enc))]), (5, .var [iC k, iC n, sC s, tC ts]), (11, .var [sC ona, .c (.sl (oar.map encS)), sC ore]), (85, .arr 216 2 (rowsOf GVarSort.enc q.1) false)]) (by simp [go_sem]) (by simp [go_sem])).trans ?_
      refine (zu0 (t := 3) (l := 85) (k := (rowsOf GVarSort.enc q.1).length) 9001 rfl rfl rfl (by decide) rfl (xN0 _) (jV0 _)).trans ?_
      exact lek
    ·rw [nf0 oar i (by omega)] at he
     replace hih := hih sE vi (by omega)
     replace hil := hil sE vi
     generalize a.inf sg sE vi = q at he hih hil
     simp -implicitDefEqProofs (disch := omega) only [go_sem, hg, hlt, hx, enc_len, List.length_map]
     refine CallK.accD 3 (by decide +kernel) hih ⟨by simp [go_sem], rfl, by rw [zY0], rfl⟩ rfl ?_
     simp -implicitDefEqProofs (disch := omega) only [go_sem, List.getElem?_cons_succ, List.getElem?_cons_zero]
     refine ⟨fun h => ?_, fun h => ⟨(i + 1, q.1), ⟨by simp only; omega, ?_, by simp only; omega⟩, by simp only; omega, ?_⟩⟩
     ·rw [h, if_neg (by simp)] at he
      subst he
      first | exact ⟨rfl, rfl⟩ | exact ⟨rfl, rfl, rfl⟩
     ·rw [h, if_pos rfl] at he
      exact he
     ·refine (zG0 (L' := [(3, .one (.own 85 (rowsOf GVarSort.enc q.1).length)), (4, .one (.ptr 4 0)), (5, .one (.ptr 5 0)), (11, .one (.ptr 11 0)), (12, zD0 (i + 1 : Nat))]) (B' := [(4, .var [.c (.sl (sg.so.map encS)), .c (.sl (sg.op.map GOp.enc))]), (5, .var [iC k, iC n, sC s, tC ts]), (11, .var [sC ona, .c (.sl (oar.map encS)), sC ore]), (85, .arr 216 2 (rowsOf GVarSort.enc q.1) false)]) (by simp [go_sem]) (by simp [go_sem])).trans ?_
      refine (zu0 (t := 3) (l := 85) (k := (rowsOf GVarSort.enc q.1).length) 9001 rfl rfl rfl (by decide) rfl (xN0 _) (jV0 _)).trans ?_
      exact lek
   ·have e1 : ts.drop i = [] := List.drop_of_length_le hge
    rw [e1] at he
    have he : (vi, true) = r := he
    subst he
    simp -implicitDefEqProofs (disch := omega) only [go_sem, Nat.not_lt.2 hge]
 ·exact lek
 ·obtain ⟨_, rfl, rfl, rfl⟩ := ho.resolve_left (fun hq => by simp [hq.1] at h2)
  refine (fI0 11 1 rfl rfl).trans ?_
  exact lek
theorem ca0 (sg : GSignature) (hk : cn0 sg) : ∀ (t : Tm), t.size < 80000000 → fs0 203 sg t := by
 refine Tm.ind (fun k n s ts ih h => mq0 sg hk k n s ts (by simp only [Tm.size] at h; omega) (fun t ht => ih t ht ?_))
 have := zT0 ts t ht; simp only [Tm.size] at h; omega
theorem vQ0 (sg : GSignature) (hk : cn0 sg) (t : Tm) (ht : t.size < 80000000) (so : ByteArray) : Sat Tryz.prog 150 [qA0 sg.enc, tmV t, ql0 so] (.tup [slV ((zd0 sg t so).1.map GVarSort.enc), boolV (zd0 sg t so).2]) := by
 have h1 := kU0 t
 have hi := bm0 sg hk t ht so [] (by simp; omega)
 have hl := kA0 sg t so []
 have hs := wF0 sg hk (t.inf sg so []).1 (by simp at hl; omega) t ht
 obtain ⟨r, hr⟩ : ∃ r, r = zd0 sg t so := ⟨_, rfl⟩
 rw [← hr]
 unfold zd0 at hr
 simp only [List.length_nil, Nat.zero_add] at hl
 generalize t.inf sg so [] = q at hi hl hs hr
 generalize t.sort sg q.1 = y at hs hr
 have hse : sg.enc = [.sl (sg.so.map encS), .sl (sg.op.map GOp.enc)] := rfl
 obtain ⟨k, n, s, ts⟩ := t
 refine soc zE0 zB0 Tryz.func150 ?_
 simp -implicitDefEqProofs only [go_sem, Tm.enc, hse]
 refine CallK.acc 3 hi ⟨by simp [go_sem], rfl, rfl⟩ rfl ?_
 simp -implicitDefEqProofs only [go_sem, List.getElem?_cons_succ, List.getElem?_cons_zero, qL0]
 refine ⟨fun k1 => ⟨fun k2 => CallK.mk hs ?_, fun k2 => ?_⟩, fun k1 => ?_⟩
 ·have k2' : eqS so sE = false := k2
  simp -implicitDefEqProofs only [go_sem, List.getElem?_cons_succ, List.getElem?_cons_zero, qL0]
  refine ⟨fun k3 => ?_, fun k3 => ?_⟩
  ·have k3' : eqS y so = false := k3
   rw [hr, k1, k2', k3']; rfl
  ·have k3' : eqS y so = true := by simpa [eqS] using k3
   rw [hr, k1, k2', k3']; rfl
 ·have k2' : eqS so sE = true := by simpa [eqS] using k2
  rw [hr, k1, k2']; rfl
 ·rw [hr, k1]; rfl
theorem ve0 (sg : GSignature) (hk : cn0 sg) (t : Tm) (ht : t.size < 80000000) (so : ByteArray) : Sat Tryz.prog 162 [qA0 sg.enc, tmV t, ql0 so] (.tup [slV ((zd0 sg t so).1.map GVarSort.enc), boolV (zd0 sg t so).2]) := by
 have h1 := kU0 t
 have hi := ca0 sg hk t ht so [] (by simp; omega)
 have hl := kA0 sg t so []
 have hs := wJ0 sg hk (t.inf sg so []).1 (by simp at hl; omega) t ht
 obtain ⟨r, hr⟩ : ∃ r, r = zd0 sg t so := ⟨_, rfl⟩
 rw [← hr]
 unfold zd0 at hr
 simp only [List.length_nil, Nat.zero_add] at hl
 generalize t.inf sg so [] = q at hi hl hs hr
 generalize t.sort sg q.1 = y at hs hr
 have hse : sg.enc = [.sl (sg.so.map encS), .sl (sg.op.map GOp.enc)] := rfl
 obtain ⟨k, n, s, ts⟩ := t
 refine soc zE0 zB0 Tryz.func162 ?_
 simp -implicitDefEqProofs only [go_sem, Tm.enc, hse]
 refine CallK.acc 3 hi ⟨by simp [go_sem], rfl, rfl, rfl⟩ rfl ?_
 simp -implicitDefEqProofs only [go_sem, List.getElem?_cons_succ, List.getElem?_cons_zero, qL0]
 refine ⟨fun k1 => ⟨fun k2 => CallK.mk hs ?_, fun k2 => ?_⟩, fun k1 => ?_⟩
 ·have k2' : eqS so sE = false := k2
  simp -implicitDefEqProofs only [go_sem, List.getElem?_cons_succ, List.getElem?_cons_zero, qL0]
  refine ⟨fun k3 => ?_, fun k3 => ?_⟩
  ·have k3' : eqS y so = false := k3
   rw [hr, k1, k2', k3']; rfl
  ·have k3' : eqS y so = true := by simpa [eqS] using k3
   rw [hr, k1, k2', k3']; rfl
 ·have k2' : eqS so sE = true := by simpa [eqS] using k2
  rw [hr, k1, k2']; rfl
 ·rw [hr, k1]; rfl
end Go.Ai
