/- The term of a machine, on both sides. -/
import Derived.Test.YtofbieojmaobfaaAiZ1
import Derived.Test.YtofbieojmaobfaaAiE3
import Derived.Test.YtofbieojmaobfaaAiY1
import Derived.Test.YtofbieojmaobfaaAiG1
import Derived.Test.YtofbieojmaobfaaAiI5
import Derived.Test.YtofbieojmaobfaaAiMoves4
namespace Go.Ai
set_option linter.unusedVariables false
set_option linter.unusedSimpArgs false
open Go.Proofs
set_option maxRecDepth 100000

/-- The argument that a frame waits for: of the strict ones 'xs', under the term's arguments. -/
def holeX (xs : List Int) (nx : Int) (l : Nat) : Int :=
  if decide (0 ≤ nx) && decide (nx < (xs.length : Int)) then (if decide (0 ≤ xs.getD nx.toNat 0) && decide (xs.getD nx.toNat 0 < (l : Int)) then xs.getD nx.toNat 0 else -1) else -1
def holeB (d : GDefinition) (f : GFrame) : Int := match f with
  | ⟨.mk k _ s ts, nx⟩ => holeX (if k = 2 then strictOf d.st s else []) nx ts.length
theorem holeX_in (xs : List Int) (nx : Int) (l : Nat) : holeX xs nx l = -1 ∨ ∃ (i j : Nat), nx = (i : Int) ∧ i < xs.length ∧ xs.getD i 0 = (j : Int) ∧ j < l ∧ holeX xs nx l = (j : Int) := by
  unfold holeX
  split
  · rename_i h
    simp only [Bool.and_eq_true, decide_eq_true_eq] at h
    split
    · rename_i h2
      simp only [Bool.and_eq_true, decide_eq_true_eq] at h2
      exact .inr ⟨nx.toNat, (xs.getD nx.toNat 0).toNat, by omega, by omega, by omega, by omega, by omega⟩
    · exact .inl rfl
  · exact .inl rfl
theorem frameEnc (k n : Int) (s : ByteArray) (ts : List Tm) (nx : Int) : (GFrame.mk (.mk k n s ts) nx).enc = [.v (.int .i64 k), .v (.int .i64 n), .v (.string s), .sl (Tm.encs ts), .v (.int .i64 nx)] := rfl
theorem specHole_sat (d : GDefinition) (hs : d.st.length < 1048577) (f : GFrame) (hz : f.t.size < 1048577) : Sat Try.prog 23 [aggV d.enc, aggV f.enc] (intV (holeB d f)) := by
  obtain ⟨⟨k, n, s, ts⟩, nx⟩ := f
  have hsa := specStrictArgs_sat d hs s
  have hxl := strictOf_len d.st s d.st.length
  rw [List.take_length] at hxl
  have hln := len_sizes ts
  simp only [Tm.size] at hz
  rw [frameEnc]
  obtain ⟨r, hr⟩ : ∃ r, r = holeB d ⟨.mk k n s ts, nx⟩ := ⟨_, rfl⟩
  rw [← hr]
  simp only [holeB] at hr
  generalize strictOf d.st s = xs at hsa hxl hr
  have hde : d.enc = [.sl (d.si.so.map encS), .sl (d.si.op.map GOp.enc), .sl (d.ru.map GRule.enc), .sl (d.st.map GStrict.enc)] := rfl
  have hlm : (xs.map encI).length < 2000000 := by rw [List.length_map]; omega
  have hin := l1In_sat nx 0 ((xs.length : Int) - 1)
  have e0 : (decide (0 ≤ nx) && decide (nx < (xs.length : Int))) = (decide (0 ≤ nx) && decide (nx ≤ (xs.length : Int) - 1)) := by
    congr 1; exact decide_eq_decide.2 (by omega)
  refine sat_of_code tbOk mixed Try.func23 rfl rfl rfl (by decide +kernel) (by decide +kernel) (Nat.le_of_ble_eq_true rfl) ?_
  simp -implicitDefEqProofs (disch := omega) only [go_sem, ↓reduceIte, reduceCtorEq, Nat.reduceEqDiff, Nat.reduceLT, Nat.reduceLeDiff, Nat.reduceAdd, Nat.reduceSub, Nat.reduceMul, hde]
  refine CallK.mk hsa ?_
  by_cases hk : k = 2
  · rw [if_pos hk] at hr
    subst hk
    unfold holeX at hr
    rw [e0] at hr
    simp -implicitDefEqProofs (disch := omega) only [go_sem, ↓reduceIte, reduceCtorEq, Nat.reduceEqDiff, Nat.reduceLT, Nat.reduceLeDiff, Nat.reduceAdd, Nat.reduceSub, Nat.reduceMul, List.length_map]
    refine CallK.mk hin ?_
    by_cases hc : (decide (0 ≤ nx) && decide (nx ≤ (xs.length : Int) - 1)) = true
    · rw [if_pos hc] at hr
      rw [hc]
      simp only [Bool.and_eq_true, decide_eq_true_eq] at hc
      obtain ⟨i, rfl⟩ : ∃ i : Nat, nx = (i : Int) := ⟨nx.toNat, by omega⟩
      have hi : i < xs.length := by omega
      have hg := map_getD (ec := encI) hi
      have e1 : xs.getD ((i : Int)).toNat 0 = xs[i] := by rw [Int.toNat_natCast, List.getD_eq_getElem?_getD, List.getElem?_eq_getElem hi, Option.getD_some]
      rw [e1] at hr
      simp only [encI] at hg
      generalize xs[i] = x at hg hr
      have hin2 := l1In_sat x 0 ((ts.length : Int) - 1)
      have e2 : (decide (0 ≤ x) && decide (x < (ts.length : Int))) = (decide (0 ≤ x) && decide (x ≤ (ts.length : Int) - 1)) := by
        congr 1; exact decide_eq_decide.2 (by omega)
      rw [e2] at hr
      generalize (decide (0 ≤ x) && decide (x ≤ (ts.length : Int) - 1)) = b at hin2 hr
      simp -implicitDefEqProofs (disch := omega) only [go_sem, ↓reduceIte, reduceCtorEq, Nat.reduceEqDiff, Nat.reduceLT, Nat.reduceLeDiff, Nat.reduceAdd, Nat.reduceSub, Nat.reduceMul, List.length_map, hg, hi, enc_len]
      refine CallK.mk hin2 ?_
      simp -implicitDefEqProofs (disch := omega) only [go_sem, ↓reduceIte, reduceCtorEq, Nat.reduceEqDiff, Nat.reduceLT, Nat.reduceLeDiff, Nat.reduceAdd, Nat.reduceSub, Nat.reduceMul, List.length_map, hg, hi, enc_len]
      exact ⟨fun h => by rw [hr, h]; rfl, fun h => by rw [hr, h]; rfl⟩
    · rw [if_neg hc] at hr
      have hc : (decide (0 ≤ nx) && decide (nx ≤ (xs.length : Int) - 1)) = false := by simpa using hc
      rw [hc]
      simp -implicitDefEqProofs (disch := omega) only [go_sem, ↓reduceIte, reduceCtorEq, Nat.reduceEqDiff, Nat.reduceLT, Nat.reduceLeDiff, Nat.reduceAdd, Nat.reduceSub, Nat.reduceMul]
      exact hr.symm
  · have hkb : (k == 2) = false := by simpa using hk
    rw [if_neg hk] at hr
    have hr : r = -1 := by
      rw [hr]; unfold holeX; rw [if_neg (by simp)]
    simp -implicitDefEqProofs (disch := omega) only [go_sem, ↓reduceIte, reduceCtorEq, Nat.reduceEqDiff, Nat.reduceLT, Nat.reduceLeDiff, Nat.reduceAdd, Nat.reduceSub, Nat.reduceMul, hkb, hk]
    exact ⟨fun h => (by rw [bne, hkb] at h; cases h), hr.symm⟩
def withA (j : Nat) (v : Tm) : Tm → Tm
  | .mk k n s ts => .mk k n s (ts.set j v)
def fillH (h : Int) (u t : Tm) : Option Tm := if h < 0 then none else some (withA h.toNat t u)
def fillB (d : GDefinition) (f : GFrame) (t : Tm) : Option Tm := fillH (holeB d f) f.t t
theorem implFilled_sat (d : GDefinition) (hs : d.st.length < 1048577) (f : GFrame) (hz : f.t.size < 1048577) (t : Tm) : Sat Try.prog 56 [aggV d.enc, aggV f.enc, tmV t] (.tup [tmV ((fillB d f t).getD zeroT), boolV (fillB d f t).isSome]) := by
  obtain ⟨⟨k, n, s, ts⟩, nx⟩ := f
  have hso := implStrictOf_sat d hs k n s ts
  have hwa := fun j (hj : j < ts.length) => implWithArg_sat k n s ts hz t j hj
  have hxl : (if k = 2 then strictOf d.st s else []).length < 1048577 := by
    split
    · have := strictOf_len d.st s d.st.length
      rw [List.take_length] at this
      omega
    · simp
  have hln := len_sizes ts
  simp only [Tm.size] at hz
  rw [frameEnc]
  obtain ⟨r, hr⟩ : ∃ r, r = fillB d ⟨.mk k n s ts, nx⟩ t := ⟨_, rfl⟩
  rw [← hr]
  simp only [fillB, holeB] at hr
  generalize (if k = 2 then strictOf d.st s else []) = xs at hso hxl hr
  have hde : d.enc = [.sl (d.si.so.map encS), .sl (d.si.op.map GOp.enc), .sl (d.ru.map GRule.enc), .sl (d.st.map GStrict.enc)] := rfl
  have hlm : (xs.map encI).length < 2000000 := by rw [List.length_map]; omega
  obtain ⟨vk, vn, vs, vt⟩ := t
  unfold holeX at hr
  refine sat_of_code tbOk mixed Try.func56 rfl rfl rfl (by decide +kernel) (by decide +kernel) (Nat.le_of_ble_eq_true rfl) ?_
  simp -implicitDefEqProofs (disch := omega) only [go_sem, ↓reduceIte, reduceCtorEq, Nat.reduceEqDiff, Nat.reduceLT, Nat.reduceLeDiff, Nat.reduceAdd, Nat.reduceSub, Nat.reduceMul, hde, Tm.enc]
  refine CallK.mk hso ?_
  by_cases hc : (decide (0 ≤ nx) && decide (nx < (xs.length : Int))) = true
  · rw [if_pos hc] at hr
    simp only [Bool.and_eq_true, decide_eq_true_eq] at hc
    obtain ⟨i, rfl⟩ : ∃ i : Nat, nx = (i : Int) := ⟨nx.toNat, by omega⟩
    have hi : i < xs.length := by omega
    have hin : ¬ xs.length ≤ i := by omega
    have hg := map_getD (ec := encI) hi
    have e1 : xs.getD ((i : Int)).toNat 0 = xs[i] := by rw [Int.toNat_natCast, List.getD_eq_getElem?_getD, List.getElem?_eq_getElem hi, Option.getD_some]
    rw [e1] at hr
    simp only [encI] at hg
    generalize xs[i] = x at hg hr
    by_cases hc2 : (decide (0 ≤ x) && decide (x < (ts.length : Int))) = true
    · rw [if_pos hc2] at hr
      simp only [Bool.and_eq_true, decide_eq_true_eq] at hc2
      obtain ⟨j, rfl⟩ : ∃ j : Nat, x = (j : Int) := ⟨x.toNat, by omega⟩
      have hj : j < ts.length := by omega
      have hjn : ¬ ts.length ≤ j := by omega
      unfold fillH at hr
      rw [if_neg (by omega)] at hr
      simp only [withA] at hr
      have hwa := hwa j hj
      simp only [Int.toNat_natCast] at hr
      generalize ts.set j (.mk vk vn vs vt) = ts' at hwa hr
      subst hr
      simp -implicitDefEqProofs (disch := omega) only [go_sem, ↓reduceIte, reduceCtorEq, Nat.reduceEqDiff, Nat.reduceLT, Nat.reduceLeDiff, Nat.reduceAdd, Nat.reduceSub, Nat.reduceMul, List.length_map, hg, hi, hin, hj, hjn, enc_len]
      refine CallK.mk hwa ?_
      simp -implicitDefEqProofs (disch := omega) only [go_sem, ↓reduceIte, reduceCtorEq, Nat.reduceEqDiff, Nat.reduceLT, Nat.reduceLeDiff, Nat.reduceAdd, Nat.reduceSub, Nat.reduceMul, Tm.enc]
      rfl
    · rw [if_neg hc2] at hr
      unfold fillH at hr
      rw [if_pos (by omega)] at hr
      subst hr
      simp only [Bool.and_eq_true, decide_eq_true_eq] at hc2
      simp -implicitDefEqProofs (disch := omega) only [go_sem, ↓reduceIte, reduceCtorEq, Nat.reduceEqDiff, Nat.reduceLT, Nat.reduceLeDiff, Nat.reduceAdd, Nat.reduceSub, Nat.reduceMul, List.length_map, hg, hi, hin, enc_len, zeroT, Tm.enc, Tm.encs]
      exact ⟨fun h => ⟨fun _ => rfl, fun h2 => (hc2 ⟨by omega, by omega⟩).elim⟩, fun _ => rfl⟩
  · rw [if_neg hc] at hr
    unfold fillH at hr
    rw [if_pos (by omega)] at hr
    subst hr
    simp only [Bool.and_eq_true, decide_eq_true_eq] at hc
    simp -implicitDefEqProofs (disch := omega) only [go_sem, ↓reduceIte, reduceCtorEq, Nat.reduceEqDiff, Nat.reduceLT, Nat.reduceLeDiff, Nat.reduceAdd, Nat.reduceSub, Nat.reduceMul, List.length_map, zeroT, Tm.enc, Tm.encs]
    exact ⟨fun h => ⟨fun h2 => (hc ⟨by omega, by omega⟩).elim, fun h2 => rfl⟩, fun h => rfl⟩
def mterm (d : GDefinition) : Tm → List GFrame → Option Tm
  | t, [] => some t
  | t, f :: fs => match fillB d f t with
    | some u => mterm d u fs
    | none => none
def machB (d : GDefinition) (m : GMachine) : Option Tm := mterm d m.fo m.st.reverse
theorem take_rev (fs : List GFrame) (c : Nat) (h : c < fs.length) : (fs.take (c + 1)).reverse = fs[c] :: (fs.take c).reverse := by
  rw [List.take_succ_eq_append_getElem h, List.reverse_append]; rfl
theorem implmachineTerm_sat (d : GDefinition) (hs : d.st.length < 1048577) (m : GMachine) (hz : m.size < 1048577) : Sat Try.prog 29 [aggV d.enc, aggV m.enc] (.tup [tmV ((machB d m).getD zeroT), boolV (machB d m).isSome]) := by
  have hfi := fun f (hf : f ∈ m.st) t => implFilled_sat d hs f (by have := szL_mem GFrame.size m.st f hf; simp only [GMachine.size, GFrame.size] at *; omega) t
  have hl : m.st.length < 1048577 := by have := len_szL GFrame.size m.st; simp only [GMachine.size] at hz; omega
  obtain ⟨r, hr⟩ : ∃ r, r = machB d m := ⟨_, rfl⟩
  rw [← hr]
  unfold machB at hr
  obtain ⟨⟨k, n, s, ts⟩, nx, fs, rw_⟩ := m
  simp only at hfi hl hr
  clear hz
  have hde : d.enc = [.sl (d.si.so.map encS), .sl (d.si.op.map GOp.enc), .sl (d.ru.map GRule.enc), .sl (d.st.map GStrict.enc)] := rfl
  have hme : (GMachine.mk (.mk k n s ts) nx fs rw_).enc = [.v (.int .i64 k), .v (.int .i64 n), .v (.string s), .sl (Tm.encs ts), .v (.int .i64 nx), .sl (fs.map GFrame.enc), .v (.int .i64 rw_)] := rfl
  rw [hme, hde] at *
  refine sat_of_code tbOk mixed Try.func29 rfl rfl rfl (by decide +kernel) (by decide +kernel) (Nat.le_of_ble_eq_true rfl) ?_
  simp -implicitDefEqProofs (disch := omega) only [go_sem, ↓reduceIte, reduceCtorEq, Nat.reduceEqDiff, Nat.reduceLT, Nat.reduceLeDiff, Nat.reduceAdd, Nat.reduceSub, Nat.reduceMul, List.length_map]
  refine loopA_rule (ι := Nat × Int × Int × ByteArray × List Tm) (fun i => mk 36 [(2, .one (.ptr 2 0)), (3, .one (.ptr 3 0)), (4, .one (.ptr 4 0)), (6, .one (.ptr 6 0)), (7, intV ((i.1 : Int) - 1))] [(2, .var [.c (.sl (d.si.so.map encS)), .c (.sl (d.si.op.map GOp.enc)), .c (.sl (d.ru.map GRule.enc)), .c (.sl (d.st.map GStrict.enc))]), (3, .var [iC k, iC n, sC s, tC ts, iC nx, .c (.sl (fs.map GFrame.enc)), iC rw_]), (4, .var zT), (6, .var [iC i.2.1, iC i.2.2.1, sC i.2.2.2.1, tC i.2.2.2.2])])
    (fun i => i.1 ≤ fs.length ∧ r = mterm d (.mk i.2.1 i.2.2.1 i.2.2.2.1 i.2.2.2.2) (fs.take i.1).reverse) (fun i => i.1) (fs.length, k, n, s, ts) ⟨Nat.le_refl _, by rw [hr, List.take_length]⟩ ?_ tbOk mixed (by decide +kernel) ?_
  · exact le_mk (by simp [go_sem]) (by simp [go_sem, zT])
  · rintro ⟨c, k1, n1, s1, ts1⟩ ⟨hc, he⟩
    simp only at hc he
    cases c with
    | zero =>
      have he : r = some (.mk k1 n1 s1 ts1) := he
      subst he
      simp -implicitDefEqProofs (disch := omega) only [go_sem, ↓reduceIte, reduceCtorEq, Nat.reduceEqDiff, Nat.reduceLT, Nat.reduceLeDiff, Nat.reduceAdd, Nat.reduceSub, Nat.reduceMul]
      exact ⟨fun h => absurd h (by omega), fun _ => rfl⟩
    | succ c =>
      have hlt : c < fs.length := by omega
      rw [take_rev fs c hlt] at he
      simp only [mterm] at he
      have hg := map_getD (ec := GFrame.enc) hlt
      have hf := hfi fs[c] (List.getElem_mem hlt) (.mk k1 n1 s1 ts1)
      generalize fs[c] = f at hg hf he
      generalize fillB d f (.mk k1 n1 s1 ts1) = q at hf he
      obtain ⟨⟨fk, fn, fss, ft⟩, fx⟩ := f
      rw [frameEnc] at hg hf
      have ei : ((c + 1 : Nat) : Int) - 1 = (c : Int) := by omega
      simp -implicitDefEqProofs (disch := omega) only [go_sem, ↓reduceIte, reduceCtorEq, Nat.reduceEqDiff, Nat.reduceLT, Nat.reduceLeDiff, Nat.reduceAdd, Nat.reduceSub, Nat.reduceMul, ei, hg, hlt, List.length_map]
      have hge : ((c : Int) ≥ 0) = True := eq_true (by omega)
      cases q with
      | none =>
        have he : r = none := he
        subst he
        refine CallK.mk hf ?_
        simp -implicitDefEqProofs (disch := omega) only [go_sem, ↓reduceIte, reduceCtorEq, Nat.reduceEqDiff, Nat.reduceLT, Nat.reduceLeDiff, Nat.reduceAdd, Nat.reduceSub, Nat.reduceMul, Option.getD_none, Option.isSome_none, zeroT, Tm.enc, Tm.encs]
        rfl
      | some u =>
        obtain ⟨uk, un, us, ut⟩ := u
        refine CallK.mk hf ?_
        simp -implicitDefEqProofs (disch := omega) only [go_sem, ↓reduceIte, reduceCtorEq, Nat.reduceEqDiff, Nat.reduceLT, Nat.reduceLeDiff, Nat.reduceAdd, Nat.reduceSub, Nat.reduceMul, Option.getD_some, Option.isSome_some, Tm.enc]
        exact ⟨(c, uk, un, us, ut), ⟨by omega, he⟩, by simp only; omega, le_mk (by simp [go_sem]) (by simp [go_sem])⟩
theorem fillB_size (d : GDefinition) (f : GFrame) (t u : Tm) (h : fillB d f t = some u) : u.size ≤ f.t.size + t.size := by
  obtain ⟨⟨k, n, s, ts⟩, nx⟩ := f
  unfold fillB fillH at h
  split at h
  · cases h
  · cases h
    rename_i hn
    simp only [holeB] at hn ⊢
    rcases holeX_in (if k = 2 then strictOf d.st s else []) nx ts.length with h | ⟨i, j, _, _, _, hj, h⟩
    · rw [h] at hn; omega
    · rw [h]
      simp only [withA, Int.toNat_natCast, Tm.size]
      have := sizes_set ts j hj t
      omega
theorem fillB_wf (d : GDefinition) (f : GFrame) (t u : Tm) (hf : f.t.wf) (ht : t.wf) (h : fillB d f t = some u) : u.wf := by
  obtain ⟨⟨k, n, s, ts⟩, nx⟩ := f
  unfold fillB fillH at h
  split at h
  · cases h
  · cases h
    obtain ⟨w1, w2, w3, w4, w5⟩ := hf
    have hm := (wfs_iff ts).1 w5
    simp only [withA]
    refine ⟨w1, w2, w3, by simpa using w4, (wfs_iff _).2 (fun a ha => ?_)⟩
    rcases List.mem_or_eq_of_mem_set ha with ha | rfl
    · exact hm a ha
    · exact ht
theorem mterm_ok (d : GDefinition) : ∀ (fs : List GFrame) (t u : Tm), mterm d t fs = some u → t.wf → (∀ f, f ∈ fs → f.t.wf) → u.size ≤ t.size + szL GFrame.size fs ∧ u.wf
  | [], t, u, h, hw, _ => by cases h; exact ⟨by simp [szL], hw⟩
  | f :: fs, t, u, h, hw, hf => by
    simp only [mterm] at h
    cases hq : fillB d f t with
    | none => rw [hq] at h; cases h
    | some v =>
      rw [hq] at h
      have h1 := fillB_size d f t v hq
      have h2 := fillB_wf d f t v (hf f (by simp)) hw hq
      have := mterm_ok d fs v u h h2 (fun g hg => hf g (by simp [hg]))
      refine ⟨?_, this.2⟩
      have h3 := this.1
      simp only [szL, GFrame.size]; omega
theorem szL_app {α : Type} (sz : α → Nat) (xs ys : List α) : szL sz (xs ++ ys) = szL sz xs + szL sz ys := by
  induction xs with
  | nil => simp [szL]
  | cons a xs ih => simp only [List.cons_append, szL, ih]; omega
theorem szL_rev {α : Type} (sz : α → Nat) (xs : List α) : szL sz xs.reverse = szL sz xs := by
  induction xs with
  | nil => rfl
  | cons a xs ih => rw [List.reverse_cons, szL_app, ih]; simp only [szL]; omega
theorem machB_some (d : GDefinition) (m : GMachine) (hw : m.wf) (u : Tm) (h : machB d m = some u) : u.size ≤ m.size ∧ u.wf := by
  have := mterm_ok d m.st.reverse m.fo u h hw.1 (fun f hf => (hw.2.2.1.2 f (List.mem_reverse.1 hf)).1)
  rw [szL_rev] at this
  refine ⟨?_, this.2⟩
  have h1 := this.1
  simp only [GMachine.size]; omega
theorem machB_ok (d : GDefinition) (m : GMachine) (hw : m.wf) : ((machB d m).getD zeroT).size ≤ m.size ∧ ((machB d m).getD zeroT).wf := by
  cases h : machB d m with
  | none => exact ⟨by simp [zeroT, Tm.size, Tm.sizes], zeroT_wf⟩
  | some u => exact machB_some d m hw u h
theorem implMachineTermF_sat (d : GDefinition) (hs : d.st.length < 1048577) (m : GMachine) (hw : m.wf) (hz : m.size < 1048577) : SatF Try.prog 9 [aggV d.enc, aggV m.enc] (.tup [tmV ((machB d m).getD zeroT), boolV (machB d m).isSome]) := by
  have h1 := implmachineTerm_sat d hs m hz
  have h2 := copyTermF_sat ((machB d m).getD zeroT) (by have := (machB_ok d m hw).1; omega)
  obtain ⟨r1, r2, hr1, hr2⟩ : ∃ r1 r2, r1 = (machB d m).getD zeroT ∧ r2 = (machB d m).isSome := ⟨_, _, rfl, rfl⟩
  rw [← hr1] at h2
  rw [← hr1, ← hr2] at h1 ⊢
  clear hr1 hr2 hw hz
  obtain ⟨rk, rn, rs, rt⟩ := r1
  obtain ⟨⟨k, n, s, ts⟩, nx, fs, rw_⟩ := m
  have hde : d.enc = [.sl (d.si.so.map encS), .sl (d.si.op.map GOp.enc), .sl (d.ru.map GRule.enc), .sl (d.st.map GStrict.enc)] := rfl
  have hme : (GMachine.mk (.mk k n s ts) nx fs rw_).enc = [.v (.int .i64 k), .v (.int .i64 n), .v (.string s), .sl (Tm.encs ts), .v (.int .i64 nx), .sl (fs.map GFrame.enc), .v (.int .i64 rw_)] := rfl
  refine satF_of_code [tmV (.mk rk rn rs rt), boolV r2] rfl (fun _ h => by cases h; rfl) tbOk mixed Try.func9 rfl rfl rfl (by decide +kernel) (by decide +kernel) (Nat.le_of_ble_eq_true rfl) ?_
  simp -implicitDefEqProofs (disch := omega) only [go_sem, ↓reduceIte, reduceCtorEq, Nat.reduceEqDiff, Nat.reduceLT, Nat.reduceLeDiff, Nat.reduceAdd, Nat.reduceSub, Nat.reduceMul, hde, hme]
  refine CallK.mk h1 ?_
  simp -implicitDefEqProofs (disch := omega) only [go_sem, ↓reduceIte, reduceCtorEq, Nat.reduceEqDiff, Nat.reduceLT, Nat.reduceLeDiff, Nat.reduceAdd, Nat.reduceSub, Nat.reduceMul, Tm.enc]
  refine CallK.own h2 rfl ?_
  simp -implicitDefEqProofs (disch := omega) only [go_sem, ↓reduceIte, reduceCtorEq, Nat.reduceEqDiff, Nat.reduceLT, Nat.reduceLeDiff, Nat.reduceAdd, Nat.reduceSub, Nat.reduceMul, Tm.enc]
theorem specMachineTerm_sat (d : GDefinition) (hs : d.st.length < 1048577) (m : GMachine) (hz : m.size < 1048577) : Sat Try.prog 6 [aggV d.enc, aggV m.enc] (.tup [tmV ((machB d m).getD zeroT), boolV (machB d m).isSome]) := by
  have hfz : ∀ f, f ∈ m.st → f.t.size < 1048577 := fun f hf => by have := szL_mem GFrame.size m.st f hf; simp only [GMachine.size, GFrame.size] at *; omega
  have hho := fun f (hf : f ∈ m.st) => specHole_sat d hs f (hfz f hf)
  have hcp := fun f (hf : f ∈ m.st) k n s ts (e : f.t = .mk k n s ts) => l3CopyO_sat k n s ts (by rw [← e]; exact hfz f hf)
  have hcf := l3Copy_sat m.fo (by simp only [GMachine.size] at hz; omega)
  have hl : m.st.length < 1048577 := by have := len_szL GFrame.size m.st; simp only [GMachine.size] at hz; omega
  obtain ⟨r, hr⟩ : ∃ r, r = machB d m := ⟨_, rfl⟩
  rw [← hr]
  unfold machB at hr
  obtain ⟨⟨k, n, s, ts⟩, nx, fs, rw_⟩ := m
  simp only at hho hcp hl hr hcf
  clear hz hfz
  have hde : d.enc = [.sl (d.si.so.map encS), .sl (d.si.op.map GOp.enc), .sl (d.ru.map GRule.enc), .sl (d.st.map GStrict.enc)] := rfl
  have hme : (GMachine.mk (.mk k n s ts) nx fs rw_).enc = [.v (.int .i64 k), .v (.int .i64 n), .v (.string s), .sl (Tm.encs ts), .v (.int .i64 nx), .sl (fs.map GFrame.enc), .v (.int .i64 rw_)] := rfl
  rw [hme, hde] at *
  refine sat_of_code tbOk mixed Try.func6 rfl rfl rfl (by decide +kernel) (by decide +kernel) (Nat.le_of_ble_eq_true rfl) ?_
  simp -implicitDefEqProofs (disch := omega) only [go_sem, ↓reduceIte, reduceCtorEq, Nat.reduceEqDiff, Nat.reduceLT, Nat.reduceLeDiff, Nat.reduceAdd, Nat.reduceSub, Nat.reduceMul, List.length_map]
  refine CallK.mk hcf ?_
  simp -implicitDefEqProofs (disch := omega) only [go_sem, ↓reduceIte, reduceCtorEq, Nat.reduceEqDiff, Nat.reduceLT, Nat.reduceLeDiff, Nat.reduceAdd, Nat.reduceSub, Nat.reduceMul, List.length_map, Tm.enc]
  refine loopA_rule (ι := Nat × Int × Int × ByteArray × List Tm) (fun i => mk 45 [(2, .one (.ptr 2 0)), (3, .one (.ptr 3 0)), (4, .one (.ptr 4 0)), (6, .one (.ptr 6 0)), (7, intV ((i.1 : Int) - 1))] [(2, .var [.c (.sl (d.si.so.map encS)), .c (.sl (d.si.op.map GOp.enc)), .c (.sl (d.ru.map GRule.enc)), .c (.sl (d.st.map GStrict.enc))]), (3, .var [iC k, iC n, sC s, tC ts, iC nx, .c (.sl (fs.map GFrame.enc)), iC rw_]), (4, .var zT), (6, .var [iC i.2.1, iC i.2.2.1, sC i.2.2.2.1, tC i.2.2.2.2])])
    (fun i => i.1 ≤ fs.length ∧ r = mterm d (.mk i.2.1 i.2.2.1 i.2.2.2.1 i.2.2.2.2) (fs.take i.1).reverse) (fun i => i.1) (fs.length, k, n, s, ts) ⟨Nat.le_refl _, by rw [hr, List.take_length]⟩ ?_ tbOk mixed (by decide +kernel) ?_
  · exact le_mk (by simp [go_sem]) (by simp [go_sem, zT])
  · rintro ⟨c, k1, n1, s1, ts1⟩ ⟨hc, he⟩
    simp only at hc he
    cases c with
    | zero =>
      have he : r = some (.mk k1 n1 s1 ts1) := he
      subst he
      simp -implicitDefEqProofs (disch := omega) only [go_sem, ↓reduceIte, reduceCtorEq, Nat.reduceEqDiff, Nat.reduceLT, Nat.reduceLeDiff, Nat.reduceAdd, Nat.reduceSub, Nat.reduceMul]
      exact ⟨fun h => absurd h (by omega), fun _ => rfl⟩
    | succ c =>
      have hlt : c < fs.length := by omega
      rw [take_rev fs c hlt] at he
      simp only [mterm] at he
      have hg := map_getD (ec := GFrame.enc) hlt
      have hm := List.getElem_mem hlt
      generalize fs[c] = f at hg hm he
      have hf := hho f hm
      have hcp := fun k n s ts e => hcp f hm k n s ts e
      obtain ⟨⟨fk, fn, fss, ft⟩, fx⟩ := f
      have hcp := hcp fk fn fss ft rfl
      have hfb : fillB d ⟨.mk fk fn fss ft, fx⟩ (.mk k1 n1 s1 ts1) = fillH (holeB d ⟨.mk fk fn fss ft, fx⟩) (.mk fk fn fss ft) (.mk k1 n1 s1 ts1) := rfl
      rw [hfb] at he
      have hhx : holeB d ⟨.mk fk fn fss ft, fx⟩ = -1 ∨ ∃ (j : Nat), j < ft.length ∧ holeB d ⟨.mk fk fn fss ft, fx⟩ = (j : Int) := by
        rcases holeX_in (if fk = 2 then strictOf d.st fss else []) fx ft.length with h | ⟨i, j, _, _, _, hj, h⟩
        · exact .inl h
        · exact .inr ⟨j, hj, h⟩
      generalize holeB d ⟨.mk fk fn fss ft, fx⟩ = h at hf he hhx
      rw [frameEnc] at hg hf
      have ei : ((c + 1 : Nat) : Int) - 1 = (c : Int) := by omega
      simp -implicitDefEqProofs (disch := omega) only [go_sem, ↓reduceIte, reduceCtorEq, Nat.reduceEqDiff, Nat.reduceLT, Nat.reduceLeDiff, Nat.reduceAdd, Nat.reduceSub, Nat.reduceMul, ei, hg, hlt, List.length_map]
      refine CallK.mk hf ?_
      rcases hhx with rfl | ⟨j, hj, rfl⟩
      · have he : r = none := he
        subst he
        simp -implicitDefEqProofs (disch := omega) only [go_sem, ↓reduceIte, reduceCtorEq, Nat.reduceEqDiff, Nat.reduceLT, Nat.reduceLeDiff, Nat.reduceAdd, Nat.reduceSub, Nat.reduceMul, zeroT, Tm.enc, Tm.encs]
        exact ⟨fun _ => rfl, fun h => (h (by decide)).elim⟩
      · have he : r = mterm d (.mk fk fn fss (ft.set j (.mk k1 n1 s1 ts1))) (fs.take c).reverse := he
        have hgr := rowsOf_get (ec := Tm.enc) hj
        generalize ft[j] = a at hgr
        obtain ⟨ak, an, as', at_⟩ := a
        simp only [Tm.enc, List.map_cons, List.map_nil] at hgr
        have hst := rowsOf_set ft j k1 n1 s1 ts1
        simp -implicitDefEqProofs (disch := omega) only [go_sem, ↓reduceIte, reduceCtorEq, Nat.reduceEqDiff, Nat.reduceLT, Nat.reduceLeDiff, Nat.reduceAdd, Nat.reduceSub, Nat.reduceMul, ei, hg, hlt, List.length_map]
        refine CallK.out hcp rfl ?_
        simp -implicitDefEqProofs (disch := omega) only [go_sem, ↓reduceIte, reduceCtorEq, Nat.reduceEqDiff, Nat.reduceLT, Nat.reduceLeDiff, Nat.reduceAdd, Nat.reduceSub, Nat.reduceMul, hgr, hj, hst, rowsOf_len]
        refine ⟨by simp, fun _ => ⟨(c, fk, fn, fss, ft.set j (.mk k1 n1 s1 ts1)), ⟨by omega, he⟩, by simp only; omega, (wk_varOwn 6 3 37 (rows' := (ft.set j (.mk k1 n1 s1 ts1)).map Tm.enc) rfl rfl rfl (by simp [rowsOf_len]) rowsOf_unN).trans ?_⟩⟩
        exact le_mk (by simp [go_sem]) (by simp [go_sem, encs_map, frzB, zT])
end Go.Ai
