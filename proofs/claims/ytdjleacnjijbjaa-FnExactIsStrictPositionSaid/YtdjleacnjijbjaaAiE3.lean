/- Strict positions: spec, impl, the law. -/
import Derived.Test.YtdjleacnjijbjaaAiE2
namespace Go.Ai
set_option linter.unusedVariables false
set_option linter.unusedSimpArgs false
open Go.Proofs
set_option maxRecDepth 100000

def isSP (st : List GStrict) : Tm → List Int → Bool
  | _, [] => true
  | t, x :: p => if h : 0 ≤ x ∧ x.toNat < t.args.length then (match t with | .mk k _ s _ => k == 2 && hasI (strictOf st s) x) && isSP st (t.args[x.toNat]'h.2) p else false
theorem isSP_in (st : List GStrict) (k n : Int) (s : ByteArray) (ts : List Tm) (x : Int) (p : List Int) (h0 : 0 ≤ x) (h : x.toNat < ts.length) : isSP st (.mk k n s ts) (x :: p) = (k == 2 && hasI (strictOf st s) x && isSP st ts[x.toNat] p) := by
  exact (isSP.eq_2 st (.mk k n s ts) x p).trans (dif_pos (c := 0 ≤ x ∧ x.toNat < ts.length) ⟨h0, h⟩)
theorem isSP_out (st : List GStrict) (k n : Int) (s : ByteArray) (ts : List Tm) (x : Int) (p : List Int) (h : ¬ (0 ≤ x ∧ x.toNat < ts.length)) : isSP st (.mk k n s ts) (x :: p) = false := by
  exact (isSP.eq_2 st (.mk k n s ts) x p).trans (dif_neg (c := 0 ≤ x ∧ x.toNat < ts.length) h)
theorem isSP_nil (st : List GStrict) (t : Tm) : isSP st t [] = true := by unfold isSP; rfl
theorem termAt_append : ∀ (p : List Int) (t : Tm) (q : List Int), termAt t (p ++ q) = (termAt t p).bind (fun u => termAt u q)
  | [], t, q => by simp [termAt_nil]
  | x :: p, .mk k n s ts, q => by
    by_cases h : 0 ≤ x ∧ x.toNat < ts.length
    · rw [List.cons_append, termAt_in k n s ts x _ h.1 h.2, termAt_in k n s ts x _ h.1 h.2]; exact termAt_append p _ q
    · rw [List.cons_append, termAt_out k n s ts x _ h, termAt_out k n s ts x _ h]; rfl
theorem termAt_size : ∀ (p : List Int) (t u : Tm), termAt t p = some u → u.size ≤ t.size
  | [], t, u, h => by rw [termAt_nil] at h; obtain rfl := Option.some.inj h; exact Nat.le_refl _
  | x :: p, .mk k n s ts, u, h => by
    by_cases hh : 0 ≤ x ∧ x.toNat < ts.length
    · rw [termAt_in k n s ts x _ hh.1 hh.2] at h
      have := termAt_size p _ u h
      have := size_mem ts _ (List.getElem_mem hh.2)
      simp only [Tm.size]; omega
    · rw [termAt_out k n s ts x _ hh] at h; cases h

theorem implStrictOf_sat (d : GDefinition) (hs : d.st.length < 1048577) (k n : Int) (s : ByteArray) (ts : List Tm) : Sat Try.prog 94 [aggV d.enc, tmV (.mk k n s ts)] (slV ((if k = 2 then strictOf d.st s else []).map encI)) := by
  obtain ⟨r, hr⟩ : ∃ r, r = (if k = 2 then strictOf d.st s else []) := ⟨_, rfl⟩
  rw [← hr]
  have hlen : d.enc.length = 4 := GDefinition.enc_len d
  refine sat_of_code tbOk mixed Try.func94 rfl rfl rfl (by decide +kernel) (by decide +kernel) (Nat.le_of_ble_eq_true rfl) ?_
  obtain ⟨⟨so, ops⟩, ru, st⟩ := d
  simp -implicitDefEqProofs (disch := omega) only [go_sem, ↓reduceIte, reduceCtorEq, Nat.reduceEqDiff, Nat.reduceLT, Nat.reduceLeDiff, Nat.reduceAdd, Nat.reduceSub, Nat.reduceMul, IntWalk.i64_in, AV.one.injEq, AC.c.injEq, C.v.injEq, Value.int.injEq, Value.bool.injEq, beq_self_eq_true, bne_self_eq_false, GDefinition.enc, GSignature.enc, encL, Tm.enc, List.cons_append, List.nil_append, List.append_nil]
  refine ⟨fun h => ?_, fun h => ?_⟩
  · rw [hr, if_neg h]; rfl
  · have h : k = 2 := by simpa using h
    refine CallK.mk (implStrictArgs_sat ⟨⟨so, ops⟩, ru, st⟩ hs s) ?_
    simp -implicitDefEqProofs (disch := omega) only [go_sem, ↓reduceIte, reduceCtorEq, Nat.reduceEqDiff, Nat.reduceLT, Nat.reduceLeDiff, Nat.reduceAdd, Nat.reduceSub, Nat.reduceMul, IntWalk.i64_in, AV.one.injEq, AC.c.injEq, C.v.injEq, Value.int.injEq, Value.bool.injEq, beq_self_eq_true, bne_self_eq_false]
    rw [hr, if_pos h]

theorem implIsSP_sat (d : GDefinition) (hs : d.st.length < 1048577) (t : Tm) (hw : t.size < 1048577) (p : List Int) (hp : p.length ≤ maxLen) : Sat Try.prog 37 [aggV d.enc, tmV t, slV (p.map encI)] (boolV (isSP d.st t p)) := by
  obtain ⟨r, hr⟩ : ∃ r, r = isSP d.st t p := ⟨_, rfl⟩
  rw [← hr]
  simp only [maxLen] at hp
  obtain ⟨k, n, s, ts⟩ := t
  refine sat_of_code tbOk mixed Try.func37 rfl rfl rfl (by decide +kernel) (by decide +kernel) (Nat.le_of_ble_eq_true rfl) ?_
  simp -implicitDefEqProofs (disch := omega) only [go_sem, ↓reduceIte, reduceCtorEq, Nat.reduceEqDiff, Nat.reduceLT, Nat.reduceLeDiff, Nat.reduceAdd, Nat.reduceSub, Nat.reduceMul, IntWalk.i64_in, AV.one.injEq, AC.c.injEq, C.v.injEq, Value.int.injEq, Value.bool.injEq, beq_self_eq_true, bne_self_eq_false, Tm.enc]
  refine loopA_rule (ι := Nat × Tm) (fun i => mk 38 [(3, .one (.ptr 3 0)), (4, .one (.ptr 4 0)), (9, slV (p.map encI)), (10, intV p.length), (11, intV i.1)] [(3, .var (d.enc.map .c)), (4, .var (i.2.enc.map .c))])
    (fun i => i.1 ≤ p.length ∧ i.2.size < 1048577 ∧ isSP d.st i.2 (p.drop i.1) = r) (fun i => p.length - i.1) (0, .mk k n s ts) ⟨Nat.zero_le _, hw, hr.symm⟩ ?_ tbOk mixed (by decide +kernel) ?_
  · exact le_mk (by simp [go_sem]) (by simp [go_sem, Tm.enc])
  · rintro ⟨i, k, n, s, ts⟩ ⟨hi, hsz, he⟩
    simp only at hi hsz he
    have hlt2 : ts.length < 1048577 := by have := len_sizes ts; simp only [Tm.size] at hsz; omega
    rcases Nat.lt_or_ge i p.length with hlt | hge
    · have hg := map_getD (ec := encI) hlt
      rw [List.drop_eq_getElem_cons hlt] at he
      generalize p[i] = x at hg he
      simp only [encI] at hg
      simp -implicitDefEqProofs (disch := omega) only [go_sem, ↓reduceIte, reduceCtorEq, Nat.reduceEqDiff, Nat.reduceLT, Nat.reduceLeDiff, Nat.reduceAdd, Nat.reduceSub, Nat.reduceMul, IntWalk.i64_in, AV.one.injEq, AC.c.injEq, C.v.injEq, Value.int.injEq, Value.bool.injEq, beq_self_eq_true, bne_self_eq_false, hg, hlt, Tm.enc]
      refine ⟨fun h1 => ⟨fun h2 => ?_, fun h2 => ?_⟩, fun h1 => ?_⟩
      · have hx0 : 0 ≤ x := by omega
        have hx : x.toNat < ts.length := by omega
        rw [isSP_in d.st k n s ts x _ hx0 hx] at he
        refine CallK.mk (implStrictOf_sat d hs k n s ts) ?_
        simp -implicitDefEqProofs (disch := omega) only [go_sem, ↓reduceIte, reduceCtorEq, Nat.reduceEqDiff, Nat.reduceLT, Nat.reduceLeDiff, Nat.reduceAdd, Nat.reduceSub, Nat.reduceMul, IntWalk.i64_in, AV.one.injEq, AC.c.injEq, C.v.injEq, Value.int.injEq, Value.bool.injEq, beq_self_eq_true, bne_self_eq_false]
        refine CallK.mk (slicesContains_sat _ ?_ x) ?_
        · have := strictOf_len d.st s d.st.length
          rw [List.take_length] at this
          simp only [maxLen]
          split
          · omega
          · simp
        simp -implicitDefEqProofs (disch := omega) only [go_sem, ↓reduceIte, reduceCtorEq, Nat.reduceEqDiff, Nat.reduceLT, Nat.reduceLeDiff, Nat.reduceAdd, Nat.reduceSub, Nat.reduceMul, IntWalk.i64_in, AV.one.injEq, AC.c.injEq, C.v.injEq, Value.int.injEq, Value.bool.injEq, beq_self_eq_true, bne_self_eq_false]
        have hq := encs_getD ts x.toNat hx
        have hm := size_mem ts _ (List.getElem_mem hx)
        simp only [Tm.size] at hsz
        generalize ts[x.toNat] = u at he hq hm
        refine ⟨fun h3 => ?_, fun h3 => ?_⟩
        · rw [← he]
          by_cases e : k = 2
          · rw [if_pos e] at h3; simp [h3]
          · simp [e]
        · have hk : k = 2 ∧ hasI (strictOf d.st s) x = true := by
            by_cases e : k = 2
            · rw [if_pos e] at h3; exact ⟨e, h3⟩
            · rw [if_neg e] at h3; simp [hasI] at h3
          rw [hk.1, hk.2] at he
          refine ⟨⟨hx0, by omega, ?_⟩, fun _ => ?_⟩
          · rw [hq]; exact enc_len u
          · simp -implicitDefEqProofs (disch := omega) only [go_sem, ↓reduceIte, reduceCtorEq, Nat.reduceEqDiff, Nat.reduceLT, Nat.reduceLeDiff, Nat.reduceAdd, Nat.reduceSub, Nat.reduceMul, IntWalk.i64_in, AV.one.injEq, AC.c.injEq, C.v.injEq, Value.int.injEq, Value.bool.injEq, beq_self_eq_true, bne_self_eq_false, hq]
            exact ⟨(i + 1, u), ⟨hlt, by simp only; omega, by simpa using he⟩, by simp only; omega, le_mk (by simp [go_sem]) (by simp [go_sem])⟩
      · rw [← he, isSP_out d.st k n s ts x _ (by omega)]
      · rw [← he, isSP_out d.st k n s ts x _ (by omega)]
    · have e1 : p.drop i = [] := List.drop_of_length_le hge
      rw [e1, isSP_nil] at he
      subst he
      simp -implicitDefEqProofs (disch := omega) only [go_sem, ↓reduceIte, reduceCtorEq, Nat.reduceEqDiff, Nat.reduceLT, Nat.reduceLeDiff, Nat.reduceAdd, Nat.reduceSub, Nat.reduceMul, IntWalk.i64_in, AV.one.injEq, AC.c.injEq, C.v.injEq, Value.int.injEq, Value.bool.injEq, beq_self_eq_true, bne_self_eq_false, Nat.not_lt.2 hge, Tm.enc]

theorem specIsSP_sat (d : GDefinition) (hs : d.st.length < 1048577) (t : Tm) (hw : t.size < 1048577) (p : List Int) (hp : p.length ≤ maxLen) : Sat Try.prog 34 [aggV d.enc, tmV t, slV (p.map encI)] (boolV (isSP d.st t p)) := by
  obtain ⟨r, hr⟩ : ∃ r, r = isSP d.st t p := ⟨_, rfl⟩
  rw [← hr]
  have hp' := hp
  simp only [maxLen] at hp
  refine sat_of_code tbOk mixed Try.func34 rfl rfl rfl (by decide +kernel) (by decide +kernel) (Nat.le_of_ble_eq_true rfl) ?_
  simp -implicitDefEqProofs (disch := omega) only [go_sem, ↓reduceIte, reduceCtorEq, Nat.reduceEqDiff, Nat.reduceLT, Nat.reduceLeDiff, Nat.reduceAdd, Nat.reduceSub, Nat.reduceMul, IntWalk.i64_in, AV.one.injEq, AC.c.injEq, C.v.injEq, Value.int.injEq, Value.bool.injEq, beq_self_eq_true, bne_self_eq_false]
  refine loopA_rule (ι := Nat) (fun i => mk 52 [(2, slV (p.map encI)), (3, .one (.ptr 3 0)), (4, .one (.ptr 4 0)), (7, intV i)] [(3, .var (d.enc.map .c)), (4, .var (t.enc.map .c))])
    (fun i => i ≤ p.length ∧ (∀ u, termAt t (p.take i) = some u → isSP d.st u (p.drop i) = r) ∧ (termAt t (p.take i) = none → r = false)) (fun i => p.length - i) 0 ⟨Nat.zero_le _, fun u hu => by rw [List.take_zero, termAt_nil] at hu; obtain rfl := Option.some.inj hu; exact hr.symm, fun hu => by rw [List.take_zero, termAt_nil] at hu; cases hu⟩ ?_ tbOk mixed (by decide +kernel) ?_
  · exact le_mk (by simp [go_sem]) (by simp [go_sem])
  · rintro i ⟨hi, he, hn⟩
    rcases Nat.lt_or_ge i p.length with hlt | hge
    · have hg := map_getD (ec := encI) hlt
      have htk : p.take (i + 1) = p.take i ++ [p[i]] := by rw [List.take_add_one, List.getElem?_eq_getElem hlt]; rfl
      have hlen : (p.take i).length ≤ maxLen := by rw [List.length_take]; omega
      have hdrop := List.drop_eq_getElem_cons hlt
      simp -implicitDefEqProofs (disch := omega) only [go_sem, ↓reduceIte, reduceCtorEq, Nat.reduceEqDiff, Nat.reduceLT, Nat.reduceLeDiff, Nat.reduceAdd, Nat.reduceSub, Nat.reduceMul, IntWalk.i64_in, AV.one.injEq, AC.c.injEq, C.v.injEq, Value.int.injEq, Value.bool.injEq, beq_self_eq_true, bne_self_eq_false, hlt]
      refine ⟨⟨hi, by simp [encI]⟩, fun _ => ?_⟩
      rw [← List.map_take]
      refine CallK.mk (specTermAt_sat t hw (p.take i) hlen) ?_
      generalize p[i] = x at hg htk hdrop
      simp only [encI] at hg
      cases hta : termAt t (p.take i) with
      | none =>
        have := hn hta
        subst this
        simp only [Option.getD_none, Option.isSome_none, noTm, Tm.enc, List.map_cons, List.map_nil]
        simp -implicitDefEqProofs (disch := omega) only [go_sem, ↓reduceIte, reduceCtorEq, Nat.reduceEqDiff, Nat.reduceLT, Nat.reduceLeDiff, Nat.reduceAdd, Nat.reduceSub, Nat.reduceMul, IntWalk.i64_in, AV.one.injEq, AC.c.injEq, C.v.injEq, Value.int.injEq, Value.bool.injEq, beq_self_eq_true, bne_self_eq_false, hg, hlt]
      | some u =>
        have hu := he u hta
        have hus := termAt_size _ _ _ hta
        obtain ⟨k, n, s, ts⟩ := u
        simp only [Option.getD_some, Option.isSome_some]
        simp -implicitDefEqProofs (disch := omega) only [go_sem, ↓reduceIte, reduceCtorEq, Nat.reduceEqDiff, Nat.reduceLT, Nat.reduceLeDiff, Nat.reduceAdd, Nat.reduceSub, Nat.reduceMul, IntWalk.i64_in, AV.one.injEq, AC.c.injEq, C.v.injEq, Value.int.injEq, Value.bool.injEq, beq_self_eq_true, bne_self_eq_false, hg, hlt, Tm.enc]
        rw [hdrop] at hu
        refine ⟨fun h1 => ?_, fun h1 => ?_⟩
        · have hk : k = 2 := by simpa using h1
          refine CallK.mk (specStrictArgs_sat d hs s) ?_
          simp -implicitDefEqProofs (disch := omega) only [go_sem, ↓reduceIte, reduceCtorEq, Nat.reduceEqDiff, Nat.reduceLT, Nat.reduceLeDiff, Nat.reduceAdd, Nat.reduceSub, Nat.reduceMul, IntWalk.i64_in, AV.one.injEq, AC.c.injEq, C.v.injEq, Value.int.injEq, Value.bool.injEq, beq_self_eq_true, bne_self_eq_false, hg, hlt]
          have hsl := strictOf_len d.st s d.st.length
          rw [List.take_length] at hsl
          refine CallK.mk (l1HasInt_sat _ (by simp only [maxLen]; omega) x) ?_
          simp -implicitDefEqProofs (disch := omega) only [go_sem, ↓reduceIte, reduceCtorEq, Nat.reduceEqDiff, Nat.reduceLT, Nat.reduceLeDiff, Nat.reduceAdd, Nat.reduceSub, Nat.reduceMul, IntWalk.i64_in, AV.one.injEq, AC.c.injEq, C.v.injEq, Value.int.injEq, Value.bool.injEq, beq_self_eq_true, bne_self_eq_false]
          refine ⟨fun h2 => ?_, fun h2 => ⟨i + 1, ⟨hlt, fun u hq => ?_, fun hq => ?_⟩, by omega, le_mk (by simp [go_sem]) (by simp [go_sem])⟩⟩
          · rw [← hu]
            by_cases hx : 0 ≤ x ∧ x.toNat < ts.length
            · rw [isSP_in d.st k n s ts x _ hx.1 hx.2, h2]; simp
            · rw [isSP_out d.st k n s ts x _ hx]
          · rw [htk, termAt_append, hta, Option.bind_some] at hq
            by_cases hx : 0 ≤ x ∧ x.toNat < ts.length
            · rw [termAt_in k n s ts x _ hx.1 hx.2, termAt_nil] at hq
              obtain rfl := Option.some.inj hq
              rw [← hu, isSP_in d.st k n s ts x _ hx.1 hx.2, h2, hk]; simp
            · rw [termAt_out k n s ts x _ hx] at hq; cases hq
          · rw [htk, termAt_append, hta, Option.bind_some] at hq
            by_cases hx : 0 ≤ x ∧ x.toNat < ts.length
            · rw [termAt_in k n s ts x _ hx.1 hx.2, termAt_nil] at hq; cases hq
            · rw [← hu, isSP_out d.st k n s ts x _ hx]
        · rw [← hu]
          by_cases hx : 0 ≤ x ∧ x.toNat < ts.length
          · rw [isSP_in d.st k n s ts x _ hx.1 hx.2]; simp [h1]
          · rw [isSP_out d.st k n s ts x _ hx]
    · have : i = p.length := by omega
      subst this
      rw [List.take_length] at he hn
      simp -implicitDefEqProofs (disch := omega) only [go_sem, ↓reduceIte, reduceCtorEq, Nat.reduceEqDiff, Nat.reduceLT, Nat.reduceLeDiff, Nat.reduceAdd, Nat.reduceSub, Nat.reduceMul, IntWalk.i64_in, AV.one.injEq, AC.c.injEq, C.v.injEq, Value.int.injEq, Value.bool.injEq, beq_self_eq_true, bne_self_eq_false, Nat.lt_irrefl]
      refine CallK.mk (specTermAt_sat t hw p hp') ?_
      simp -implicitDefEqProofs (disch := omega) only [go_sem, ↓reduceIte, reduceCtorEq, Nat.reduceEqDiff, Nat.reduceLT, Nat.reduceLeDiff, Nat.reduceAdd, Nat.reduceSub, Nat.reduceMul, IntWalk.i64_in, AV.one.injEq, AC.c.injEq, C.v.injEq, Value.int.injEq, Value.bool.injEq, beq_self_eq_true, bne_self_eq_false]
      cases hta : termAt t p with
      | none => rw [hn hta]; rfl
      | some u =>
        have := he u hta
        rw [List.drop_length, isSP_nil] at this
        rw [← this]; rfl

theorem lawIsSP_sat (x : GDefinition) (t : Tm) (p : List Int) (hx : x.wf) (ht : t.wf) (hp : wfL wfI p) : Sat Try.prog 6 [aggV x.enc, tmV t, slV (p.map encI)] (boolV true) := by
  have hp1 := hp.1
  have hp2 := hp.1
  simp only [maxLen] at hp2
  refine sat_of_code tbOk mixed Try.func6 rfl rfl rfl (by decide +kernel) (by decide +kernel) (Nat.le_of_ble_eq_true rfl) ?_
  simp -implicitDefEqProofs (disch := omega) only [go_sem, ↓reduceIte, reduceCtorEq, Nat.reduceEqDiff, Nat.reduceLT, Nat.reduceLeDiff, Nat.reduceAdd, Nat.reduceSub, Nat.reduceMul, IntWalk.i64_in, AV.one.injEq, AC.c.injEq, C.v.injEq, Value.int.injEq, Value.bool.injEq, beq_self_eq_true, bne_self_eq_false]
  intro hb
  refine CallK.mk (szDefinition_sat x hx 1048576 (by omega) (by omega)) ?_
  simp -implicitDefEqProofs (disch := omega) only [go_sem, ↓reduceIte, reduceCtorEq, Nat.reduceEqDiff, Nat.reduceLT, Nat.reduceLeDiff, Nat.reduceAdd, Nat.reduceSub, Nat.reduceMul, IntWalk.i64_in, AV.one.injEq, AC.c.injEq, C.v.injEq, Value.int.injEq, Value.bool.injEq, beq_self_eq_true, bne_self_eq_false]
  intro h
  have hs : x.size < 1048577 := by grind [szR]
  refine CallK.mk (szTerm_sat t ht _ (by grind [szR]) (by grind [szR])) ?_
  simp -implicitDefEqProofs (disch := omega) only [go_sem, ↓reduceIte, reduceCtorEq, Nat.reduceEqDiff, Nat.reduceLT, Nat.reduceLeDiff, Nat.reduceAdd, Nat.reduceSub, Nat.reduceMul, IntWalk.i64_in, AV.one.injEq, AC.c.injEq, C.v.injEq, Value.int.injEq, Value.bool.injEq, beq_self_eq_true, bne_self_eq_false]
  intro h2
  have hs2 : t.size < 1048577 := by grind [szR]
  have hst : x.st.length < 1048577 := by
    have := len_szL GStrict.size x.st
    simp only [GDefinition.size] at hs; omega
  have hpl : szL szI p < 1048577 := by rw [szL_int]; omega
  refine CallK.mk (toDefinition_sat x hs) ?_
  simp -implicitDefEqProofs (disch := omega) only [go_sem, ↓reduceIte, reduceCtorEq, Nat.reduceEqDiff, Nat.reduceLT, Nat.reduceLeDiff, Nat.reduceAdd, Nat.reduceSub, Nat.reduceMul, IntWalk.i64_in, AV.one.injEq, AC.c.injEq, C.v.injEq, Value.int.injEq, Value.bool.injEq, beq_self_eq_true, bne_self_eq_false]
  refine CallK.mk (toTerm_sat t hs2) ?_
  simp -implicitDefEqProofs (disch := omega) only [go_sem, ↓reduceIte, reduceCtorEq, Nat.reduceEqDiff, Nat.reduceLT, Nat.reduceLeDiff, Nat.reduceAdd, Nat.reduceSub, Nat.reduceMul, IntWalk.i64_in, AV.one.injEq, AC.c.injEq, C.v.injEq, Value.int.injEq, Value.bool.injEq, beq_self_eq_true, bne_self_eq_false]
  refine CallK.mk (toIntS_sat p hpl) ?_
  simp -implicitDefEqProofs (disch := omega) only [go_sem, ↓reduceIte, reduceCtorEq, Nat.reduceEqDiff, Nat.reduceLT, Nat.reduceLeDiff, Nat.reduceAdd, Nat.reduceSub, Nat.reduceMul, IntWalk.i64_in, AV.one.injEq, AC.c.injEq, C.v.injEq, Value.int.injEq, Value.bool.injEq, beq_self_eq_true, bne_self_eq_false]
  refine CallK.mk (specIsSP_sat x hst t hs2 p hp1) ?_
  simp -implicitDefEqProofs (disch := omega) only [go_sem, ↓reduceIte, reduceCtorEq, Nat.reduceEqDiff, Nat.reduceLT, Nat.reduceLeDiff, Nat.reduceAdd, Nat.reduceSub, Nat.reduceMul, IntWalk.i64_in, AV.one.injEq, AC.c.injEq, C.v.injEq, Value.int.injEq, Value.bool.injEq, beq_self_eq_true, bne_self_eq_false]
  refine CallK.mk (toDefinition_sat x hs) ?_
  simp -implicitDefEqProofs (disch := omega) only [go_sem, ↓reduceIte, reduceCtorEq, Nat.reduceEqDiff, Nat.reduceLT, Nat.reduceLeDiff, Nat.reduceAdd, Nat.reduceSub, Nat.reduceMul, IntWalk.i64_in, AV.one.injEq, AC.c.injEq, C.v.injEq, Value.int.injEq, Value.bool.injEq, beq_self_eq_true, bne_self_eq_false]
  refine CallK.mk (toTerm_sat t hs2) ?_
  simp -implicitDefEqProofs (disch := omega) only [go_sem, ↓reduceIte, reduceCtorEq, Nat.reduceEqDiff, Nat.reduceLT, Nat.reduceLeDiff, Nat.reduceAdd, Nat.reduceSub, Nat.reduceMul, IntWalk.i64_in, AV.one.injEq, AC.c.injEq, C.v.injEq, Value.int.injEq, Value.bool.injEq, beq_self_eq_true, bne_self_eq_false]
  refine CallK.mk (toIntS_sat p hpl) ?_
  simp -implicitDefEqProofs (disch := omega) only [go_sem, ↓reduceIte, reduceCtorEq, Nat.reduceEqDiff, Nat.reduceLT, Nat.reduceLeDiff, Nat.reduceAdd, Nat.reduceSub, Nat.reduceMul, IntWalk.i64_in, AV.one.injEq, AC.c.injEq, C.v.injEq, Value.int.injEq, Value.bool.injEq, beq_self_eq_true, bne_self_eq_false]
  refine CallK.mk (implIsSP_sat x hst t hs2 p hp1) ?_
  simp -implicitDefEqProofs (disch := omega) only [go_sem, ↓reduceIte, reduceCtorEq, Nat.reduceEqDiff, Nat.reduceLT, Nat.reduceLeDiff, Nat.reduceAdd, Nat.reduceSub, Nat.reduceMul, IntWalk.i64_in, AV.one.injEq, AC.c.injEq, C.v.injEq, Value.int.injEq, Value.bool.injEq, beq_self_eq_true, bne_self_eq_false]
  refine CallK.mk (toDefinition_sat x hs) ?_
  simp -implicitDefEqProofs (disch := omega) only [go_sem, ↓reduceIte, reduceCtorEq, Nat.reduceEqDiff, Nat.reduceLT, Nat.reduceLeDiff, Nat.reduceAdd, Nat.reduceSub, Nat.reduceMul, IntWalk.i64_in, AV.one.injEq, AC.c.injEq, C.v.injEq, Value.int.injEq, Value.bool.injEq, beq_self_eq_true, bne_self_eq_false]
  refine CallK.mk (eqDefinition_sat x hx x) ?_
  simp -implicitDefEqProofs (disch := omega) only [go_sem, ↓reduceIte, reduceCtorEq, Nat.reduceEqDiff, Nat.reduceLT, Nat.reduceLeDiff, Nat.reduceAdd, Nat.reduceSub, Nat.reduceMul, IntWalk.i64_in, AV.one.injEq, AC.c.injEq, C.v.injEq, Value.int.injEq, Value.bool.injEq, beq_self_eq_true, bne_self_eq_false, GDefinition.eqb_refl]
  refine CallK.mk (toTerm_sat t hs2) ?_
  simp -implicitDefEqProofs (disch := omega) only [go_sem, ↓reduceIte, reduceCtorEq, Nat.reduceEqDiff, Nat.reduceLT, Nat.reduceLeDiff, Nat.reduceAdd, Nat.reduceSub, Nat.reduceMul, IntWalk.i64_in, AV.one.injEq, AC.c.injEq, C.v.injEq, Value.int.injEq, Value.bool.injEq, beq_self_eq_true, bne_self_eq_false]
  refine CallK.mk (eqTerm_sat t ht t) ?_
  simp -implicitDefEqProofs (disch := omega) only [go_sem, ↓reduceIte, reduceCtorEq, Nat.reduceEqDiff, Nat.reduceLT, Nat.reduceLeDiff, Nat.reduceAdd, Nat.reduceSub, Nat.reduceMul, IntWalk.i64_in, AV.one.injEq, AC.c.injEq, C.v.injEq, Value.int.injEq, Value.bool.injEq, beq_self_eq_true, bne_self_eq_false, Tm.eqb_refl]
  refine CallK.mk (toIntS_sat p hpl) ?_
  simp -implicitDefEqProofs (disch := omega) only [go_sem, ↓reduceIte, reduceCtorEq, Nat.reduceEqDiff, Nat.reduceLT, Nat.reduceLeDiff, Nat.reduceAdd, Nat.reduceSub, Nat.reduceMul, IntWalk.i64_in, AV.one.injEq, AC.c.injEq, C.v.injEq, Value.int.injEq, Value.bool.injEq, beq_self_eq_true, bne_self_eq_false]
  refine CallK.mk (eqIntS_sat p hp p) ?_
  simp -implicitDefEqProofs (disch := omega) only [go_sem, ↓reduceIte, reduceCtorEq, Nat.reduceEqDiff, Nat.reduceLT, Nat.reduceLeDiff, Nat.reduceAdd, Nat.reduceSub, Nat.reduceMul, IntWalk.i64_in, AV.one.injEq, AC.c.injEq, C.v.injEq, Value.int.injEq, Value.bool.injEq, beq_self_eq_true, bne_self_eq_false, eqL_refl eqI_refl]
end Go.Ai
