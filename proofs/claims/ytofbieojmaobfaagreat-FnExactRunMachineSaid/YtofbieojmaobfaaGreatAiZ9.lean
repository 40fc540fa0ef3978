/- The term of a machine, on both sides. -/
import Derived.Test.YtofbieojmaobfaaGreatAiZ2
import Derived.Test.YtofbieojmaobfaaGreatAiE3
import Derived.Test.YtofbieojmaobfaaGreatAiY2
import Derived.Test.YtofbieojmaobfaaGreatAiG1
import Derived.Test.YtofbieojmaobfaaGreatAiI5
import Derived.Test.YtofbieojmaobfaaGreatAiRow2
namespace Go.Ai
set_option linter.unusedVariables false
set_option linter.unusedSimpArgs false
open Go.Proofs
set_option maxRecDepth 100000

/-- The argument that a frame waits for: of the strict ones 'xs', under the term's arguments. -/
def holeX (xs : List Int) (nx : Int) (l : Nat) : Int :=
  if decide (0 ≤ nx) && decide (nx < (xs.length : Int)) then (if decide (0 ≤ xs.getD nx.toNat 0) && decide (xs.getD nx.toNat 0 < (l : Int)) then xs.getD nx.toNat 0 else -1) else -1
def holeB (d : GDefinition) (f : GFrame) : Int := match f with
  | ⟨.mk k _ s ts, nx⟩ => holeX (if k = 2 then strictOf d.st s else []) nx ts.length
theorem holeX_in (xs : List Int) (nx : Int) (l : Nat) : holeX xs nx l = -1 ∨ ∃ (i j : Nat), nx = (i : Int) ∧ i < xs.length ∧ xs.getD i 0 = (j : Int) ∧ j < l ∧ holeX xs nx l = (j : Int) := by
  unfold holeX
  split
  · rename_i h
    simp only [Bool.and_eq_true, decide_eq_true_eq] at h
    split
    · rename_i h2
      simp only [Bool.and_eq_true, decide_eq_true_eq] at h2
      exact .inr ⟨nx.toNat, (xs.getD nx.toNat 0).toNat, by omega, by omega, by omega, by omega, by omega⟩
    · exact .inl rfl
  · exact .inl rfl
theorem frameEnc (k n : Int) (s : ByteArray) (ts : List Tm) (nx : Int) : (GFrame.mk (.mk k n s ts) nx).enc = [.v (.int .i64 k), .v (.int .i64 n), .v (.string s), .sl (Tm.encs ts), .v (.int .i64 nx)] := rfl
theorem specHole_sat (d : GDefinition) (hs : d.st.length < 1048577) (f : GFrame) (hz : f.t.size < 1048577) : Sat Tryz.prog 153 [aggV d.enc, aggV f.enc] (intV (holeB d f)) := by
  obtain ⟨⟨k, n, s, ts⟩, nx⟩ := f
  have hsa := specStrictArgs_sat d hs s
  have hxl := strictOf_len d.st s d.st.length
  rw [List.take_length] at hxl
  have hln := len_sizes ts
  simp only [Tm.size] at hz
  rw [frameEnc]
  obtain ⟨r, hr⟩ : ∃ r, r = holeB d ⟨.mk k n s ts, nx⟩ := ⟨_, rfl⟩
  rw [← hr]
  simp only [holeB] at hr
  generalize strictOf d.st s = xs at hsa hxl hr
  have hde : d.enc = [.sl (d.si.so.map encS), .sl (d.si.op.map GOp.enc), .sl (d.ru.map GRule.enc), .sl (d.st.map GStrict.enc)] := rfl
  have hlm : (xs.map encI).length < 2000000 := by rw [List.length_map]; omega
  have hin := l1In_sat nx 0 ((xs.length : Int) - 1)
  have e0 : (decide (0 ≤ nx) && decide (nx < (xs.length : Int))) = (decide (0 ≤ nx) && decide (nx ≤ (xs.length : Int) - 1)) := by
    congr 1; exact decide_eq_decide.2 (by omega)
  refine sat_of_code tbOk mixed Tryz.func153 rfl rfl rfl (by decide +kernel) (by decide +kernel) (Nat.le_of_ble_eq_true rfl) ?_
  simp -implicitDefEqProofs (disch := omega) only [go_sem, hde]
  refine CallK.mk hsa ?_
  by_cases hk : k = 2
  · rw [if_pos hk] at hr
    subst hk
    unfold holeX at hr
    rw [e0] at hr
    simp -implicitDefEqProofs (disch := omega) only [go_sem, List.length_map]
    refine CallK.mk hin ?_
    by_cases hc : (decide (0 ≤ nx) && decide (nx ≤ (xs.length : Int) - 1)) = true
    · rw [if_pos hc] at hr
      rw [hc]
      simp only [Bool.and_eq_true, decide_eq_true_eq] at hc
      obtain ⟨i, rfl⟩ : ∃ i : Nat, nx = (i : Int) := ⟨nx.toNat, by omega⟩
      have hi : i < xs.length := by omega
      have hg := map_getD (ec := encI) hi
      have e1 : xs.getD ((i : Int)).toNat 0 = xs[i] := by rw [Int.toNat_natCast, List.getD_eq_getElem?_getD, List.getElem?_eq_getElem hi, Option.getD_some]
      rw [e1] at hr
      simp only [encI] at hg
      generalize xs[i] = x at hg hr
      have hin2 := l1In_sat x 0 ((ts.length : Int) - 1)
      have e2 : (decide (0 ≤ x) && decide (x < (ts.length : Int))) = (decide (0 ≤ x) && decide (x ≤ (ts.length : Int) - 1)) := by
        congr 1; exact decide_eq_decide.2 (by omega)
      rw [e2] at hr
      generalize (decide (0 ≤ x) && decide (x ≤ (ts.length : Int) - 1)) = b at hin2 hr
      simp -implicitDefEqProofs (disch := omega) only [go_sem, List.length_map, hg, hi, enc_len]
      refine CallK.mk hin2 ?_
      simp -implicitDefEqProofs (disch := omega) only [go_sem, List.length_map, hg, hi, enc_len]
      exact ⟨fun h => by rw [hr, h]; rfl, fun h => by rw [hr, h]; rfl⟩
    · rw [if_neg hc] at hr
      have hc : (decide (0 ≤ nx) && decide (nx ≤ (xs.length : Int) - 1)) = false := by simpa using hc
      rw [hc]
      simp -implicitDefEqProofs (disch := omega) only [go_sem]
      exact hr.symm
  · have hkb : (k == 2) = false := by simpa using hk
    rw [if_neg hk] at hr
    have hr : r = -1 := by
      rw [hr]; unfold holeX; rw [if_neg (by simp)]
    simp -implicitDefEqProofs (disch := omega) only [go_sem, hkb, hk]
    exact ⟨fun h => (by rw [bne, hkb] at h; cases h), hr.symm⟩
def withA (j : Nat) (v : Tm) : Tm → Tm
  | .mk k n s ts => .mk k n s (ts.set j v)
def fillH (h : Int) (u t : Tm) : Option Tm := if h < 0 then none else some (withA h.toNat t u)
def fillB (d : GDefinition) (f : GFrame) (t : Tm) : Option Tm := fillH (holeB d f) f.t t
theorem implFilled_sat (d : GDefinition) (hs : d.st.length < 1048577) (f : GFrame) (hz : f.t.size < 1048577) (t : Tm) : Sat Tryz.prog 159 [aggV d.enc, aggV f.enc, tmV t] (.tup [tmV ((fillB d f t).getD zeroT), boolV (fillB d f t).isSome]) := by
  obtain ⟨⟨k, n, s, ts⟩, nx⟩ := f
  have hso := implStrictOf_sat d hs k n s ts
  have hwa := fun j (hj : j < ts.length) => implWithArg_sat k n s ts hz t j hj
  have hxl : (if k = 2 then strictOf d.st s else []).length < 1048577 := by
    split
    · have := strictOf_len d.st s d.st.length
      rw [List.take_length] at this
      omega
    · simp
  have hln := len_sizes ts
  simp only [Tm.size] at hz
  rw [frameEnc]
  obtain ⟨r, hr⟩ : ∃ r, r = fillB d ⟨.mk k n s ts, nx⟩ t := ⟨_, rfl⟩
  rw [← hr]
  simp only [fillB, holeB] at hr
  generalize (if k = 2 then strictOf d.st s else []) = xs at hso hxl hr
  have hde : d.enc = [.sl (d.si.so.map encS), .sl (d.si.op.map GOp.enc), .sl (d.ru.map GRule.enc), .sl (d.st.map GStrict.enc)] := rfl
  have hlm : (xs.map encI).length < 2000000 := by rw [List.length_map]; omega
  obtain ⟨vk, vn, vs, vt⟩ := t
  unfold holeX at hr
  refine sat_of_code tbOk mixed Tryz.func159 rfl rfl rfl (by decide +kernel) (by decide +kernel) (Nat.le_of_ble_eq_true rfl) ?_
  simp -implicitDefEqProofs (disch := omega) only [go_sem, hde, Tm.enc]
  refine CallK.mk hso ?_
  by_cases hc : (decide (0 ≤ nx) && decide (nx < (xs.length : Int))) = true
  · rw [if_pos hc] at hr
    simp only [Bool.and_eq_true, decide_eq_true_eq] at hc
    obtain ⟨i, rfl⟩ : ∃ i : Nat, nx = (i : Int) := ⟨nx.toNat, by omega⟩
    have hi : i < xs.length := by omega
    have hin : ¬ xs.length ≤ i := by omega
    have hg := map_getD (ec := encI) hi
    have e1 : xs.getD ((i : Int)).toNat 0 = xs[i] := by rw [Int.toNat_natCast, List.getD_eq_getElem?_getD, List.getElem?_eq_getElem hi, Option.getD_some]
    rw [e1] at hr
    simp only [encI] at hg
    generalize xs[i] = x at hg hr
    by_cases hc2 : (decide (0 ≤ x) && decide (x < (ts.length : Int))) = true
    · rw [if_pos hc2] at hr
      simp only [Bool.and_eq_true, decide_eq_true_eq] at hc2
      obtain ⟨j, rfl⟩ : ∃ j : Nat, x = (j : Int) := ⟨x.toNat, by omega⟩
      have hj : j < ts.length := by omega
      have hjn : ¬ ts.length ≤ j := by omega
      unfold fillH at hr
      rw [if_neg (by omega)] at hr
      simp only [withA] at hr
      have hwa := hwa j hj
      simp only [Int.toNat_natCast] at hr
      generalize ts.set j (.mk vk vn vs vt) = ts' at hwa hr
      subst hr
      simp -implicitDefEqProofs (disch := omega) only [go_sem, List.length_map, hg, hi, hin, hj, hjn, enc_len]
      refine CallK.mk hwa ?_
      simp -implicitDefEqProofs (disch := omega) only [go_sem, Tm.enc]
      rfl
    · rw [if_neg hc2] at hr
      unfold fillH at hr
      rw [if_pos (by omega)] at hr
      subst hr
      simp only [Bool.and_eq_true, decide_eq_true_eq] at hc2
      simp -implicitDefEqProofs (disch := omega) only [go_sem, List.length_map, hg, hi, hin, enc_len, zeroT, Tm.enc, Tm.encs]
      exact ⟨fun h => ⟨fun _ => rfl, fun h2 => (hc2 ⟨by omega, by omega⟩).elim⟩, fun _ => rfl⟩
  · rw [if_neg hc] at hr
    unfold fillH at hr
    rw [if_pos (by omega)] at hr
    subst hr
    simp only [Bool.and_eq_true, decide_eq_true_eq] at hc
    simp -implicitDefEqProofs (disch := omega) only [go_sem, List.length_map, zeroT, Tm.enc, Tm.encs]
    exact ⟨fun h => ⟨fun h2 => (hc ⟨by omega, by omega⟩).elim, fun h2 => rfl⟩, fun h => rfl⟩
def mterm (d : GDefinition) : Tm → List GFrame → Option Tm
  | t, [] => some t
  | t, f :: fs => match fillB d f t with
    | some u => mterm d u fs
    | none => none
def machB (d : GDefinition) (m : GMachine) : Option Tm := mterm d m.fo m.st.reverse
theorem take_rev (fs : List GFrame) (c : Nat) (h : c < fs.length) : (fs.take (c + 1)).reverse = fs[c] :: (fs.take c).reverse := by
  rw [List.take_succ_eq_append_getElem h, List.reverse_append]; rfl
theorem implmachineTermG_sat (d : GDefinition) (hs : d.st.length < 1048577) (m : GMachine) (hfz : ∀ f, f ∈ m.st → f.t.size < 1048577) (hl : m.st.length < 2000000) : Sat Tryz.prog 100 [aggV d.enc, aggV m.enc] (.tup [tmV ((machB d m).getD zeroT), boolV (machB d m).isSome]) := by
  have hfi := fun f (hf : f ∈ m.st) t => implFilled_sat d hs f (hfz f hf) t
  obtain ⟨r, hr⟩ : ∃ r, r = machB d m := ⟨_, rfl⟩
  rw [← hr]
  unfold machB at hr
  obtain ⟨⟨k, n, s, ts⟩, nx, fs, rw_⟩ := m
  simp only at hfi hl hr
  clear hfz
  have hde : d.enc = [.sl (d.si.so.map encS), .sl (d.si.op.map GOp.enc), .sl (d.ru.map GRule.enc), .sl (d.st.map GStrict.enc)] := rfl
  have hme : (GMachine.mk (.mk k n s ts) nx fs rw_).enc = [.v (.int .i64 k), .v (.int .i64 n), .v (.string s), .sl (Tm.encs ts), .v (.int .i64 nx), .sl (fs.map GFrame.enc), .v (.int .i64 rw_)] := rfl
  rw [hme, hde] at *
  refine sat_of_code tbOk mixed Tryz.func100 rfl rfl rfl (by decide +kernel) (by decide +kernel) (Nat.le_of_ble_eq_true rfl) ?_
  simp -implicitDefEqProofs (disch := omega) only [go_sem, List.length_map]
  refine loopA_rule (ι := Nat × Int × Int × ByteArray × List Tm) (fun i => mk 36 [(2, .one (.ptr 2 0)), (3, .one (.ptr 3 0)), (4, .one (.ptr 4 0)), (6, .one (.ptr 6 0)), (7, intV ((i.1 : Int) - 1))] [(2, .var [.c (.sl (d.si.so.map encS)), .c (.sl (d.si.op.map GOp.enc)), .c (.sl (d.ru.map GRule.enc)), .c (.sl (d.st.map GStrict.enc))]), (3, .var [iC k, iC n, sC s, tC ts, iC nx, .c (.sl (fs.map GFrame.enc)), iC rw_]), (4, .var zT), (6, .var [iC i.2.1, iC i.2.2.1, sC i.2.2.2.1, tC i.2.2.2.2])])
    (fun i => i.1 ≤ fs.length ∧ r = mterm d (.mk i.2.1 i.2.2.1 i.2.2.2.1 i.2.2.2.2) (fs.take i.1).reverse) (fun i => i.1) (fs.length, k, n, s, ts) ⟨Nat.le_refl _, by rw [hr, List.take_length]⟩ ?_ tbOk mixed (by decide +kernel) ?_
  · exact le_mk (by simp [go_sem]) (by simp [go_sem, zT])
  · rintro ⟨c, k1, n1, s1, ts1⟩ ⟨hc, he⟩
    simp only at hc he
    cases c with
    | zero =>
      have he : r = some (.mk k1 n1 s1 ts1) := he
      subst he
      simp -implicitDefEqProofs (disch := omega) only [go_sem]
      exact ⟨fun h => absurd h (by omega), fun _ => rfl⟩
    | succ c =>
      have hlt : c < fs.length := by omega
      rw [take_rev fs c hlt] at he
      simp only [mterm] at he
      have hg := map_getD (ec := GFrame.enc) hlt
      have hf := hfi fs[c] (List.getElem_mem hlt) (.mk k1 n1 s1 ts1)
      generalize fs[c] = f at hg hf he
      generalize fillB d f (.mk k1 n1 s1 ts1) = q at hf he
      obtain ⟨⟨fk, fn, fss, ft⟩, fx⟩ := f
      rw [frameEnc] at hg hf
      have ei : ((c + 1 : Nat) : Int) - 1 = (c : Int) := by omega
      simp -implicitDefEqProofs (disch := omega) only [go_sem, ei, hg, hlt, List.length_map]
      have hge : ((c : Int) ≥ 0) = True := eq_true (by omega)
      cases q with
      | none =>
        have he : r = none := he
        subst he
        refine CallK.mk hf ?_
        simp -implicitDefEqProofs (disch := omega) only [go_sem, Option.getD_none, Option.isSome_none, zeroT, Tm.enc, Tm.encs]
        rfl
      | some u =>
        obtain ⟨uk, un, us, ut⟩ := u
        refine CallK.mk hf ?_
        simp -implicitDefEqProofs (disch := omega) only [go_sem, Option.getD_some, Option.isSome_some, Tm.enc]
        exact ⟨(c, uk, un, us, ut), ⟨by omega, he⟩, by simp only; omega, le_mk (by simp [go_sem]) (by simp [go_sem])⟩
theorem mach_fz (m : GMachine) (hz : m.size < 1048577) : (∀ f, f ∈ m.st → f.t.size < 1048577) ∧ m.st.length < 1048577 := by
  refine ⟨fun f hf => by have := szL_mem GFrame.size m.st f hf; simp only [GMachine.size, GFrame.size] at *; omega, ?_⟩
  have := len_szL GFrame.size m.st
  simp only [GMachine.size] at hz
  omega
theorem implmachineTerm_sat (d : GDefinition) (hs : d.st.length < 1048577) (m : GMachine) (hz : m.size < 1048577) : Sat Tryz.prog 100 [aggV d.enc, aggV m.enc] (.tup [tmV ((machB d m).getD zeroT), boolV (machB d m).isSome]) :=
  implmachineTermG_sat d hs m (mach_fz m hz).1 (by have := (mach_fz m hz).2; omega)
theorem fillB_size (d : GDefinition) (f : GFrame) (t u : Tm) (h : fillB d f t = some u) : u.size ≤ f.t.size + t.size := by
  obtain ⟨⟨k, n, s, ts⟩, nx⟩ := f
  unfold fillB fillH at h
  split at h
  · cases h
  · cases h
    rename_i hn
    simp only [holeB] at hn ⊢
    rcases holeX_in (if k = 2 then strictOf d.st s else []) nx ts.length with h | ⟨i, j, _, _, _, hj, h⟩
    · rw [h] at hn; omega
    · rw [h]
      simp only [withA, Int.toNat_natCast, Tm.size]
      have := sizes_set ts j hj t
      omega
theorem fillB_wf (d : GDefinition) (f : GFrame) (t u : Tm) (hf : f.t.wf) (ht : t.wf) (h : fillB d f t = some u) : u.wf := by
  obtain ⟨⟨k, n, s, ts⟩, nx⟩ := f
  unfold fillB fillH at h
  split at h
  · cases h
  · cases h
    obtain ⟨w1, w2, w3, w4, w5⟩ := hf
    have hm := (wfs_iff ts).1 w5
    simp only [withA]
    refine ⟨w1, w2, w3, by simpa using w4, (wfs_iff _).2 (fun a ha => ?_)⟩
    rcases List.mem_or_eq_of_mem_set ha with ha | rfl
    · exact hm a ha
    · exact ht
theorem mterm_ok (d : GDefinition) : ∀ (fs : List GFrame) (t u : Tm), mterm d t fs = some u → t.wf → (∀ f, f ∈ fs → f.t.wf) → u.size ≤ t.size + szL GFrame.size fs ∧ u.wf
  | [], t, u, h, hw, _ => by cases h; exact ⟨by simp [szL], hw⟩
  | f :: fs, t, u, h, hw, hf => by
    simp only [mterm] at h
    cases hq : fillB d f t with
    | none => rw [hq] at h; cases h
    | some v =>
      rw [hq] at h
      have h1 := fillB_size d f t v hq
      have h2 := fillB_wf d f t v (hf f (by simp)) hw hq
      have := mterm_ok d fs v u h h2 (fun g hg => hf g (by simp [hg]))
      refine ⟨?_, this.2⟩
      have h3 := this.1
      simp only [szL, GFrame.size]; omega
theorem szL_app {α : Type} (sz : α → Nat) (xs ys : List α) : szL sz (xs ++ ys) = szL sz xs + szL sz ys := by
  induction xs with
  | nil => simp [szL]
  | cons a xs ih => simp only [List.cons_append, szL, ih]; omega
theorem szL_rev {α : Type} (sz : α → Nat) (xs : List α) : szL sz xs.reverse = szL sz xs := by
  induction xs with
  | nil => rfl
  | cons a xs ih => rw [List.reverse_cons, szL_app, ih]; simp only [szL]; omega
theorem machB_some (d : GDefinition) (m : GMachine) (hw : m.wf) (u : Tm) (h : machB d m = some u) : u.size ≤ m.size ∧ u.wf := by
  have := mterm_ok d m.st.reverse m.fo u h hw.1 (fun f hf => (hw.2.2.1.2 f (List.mem_reverse.1 hf)).1)
  rw [szL_rev] at this
  refine ⟨?_, this.2⟩
  have h1 := this.1
  simp only [GMachine.size]; omega
theorem machB_ok (d : GDefinition) (m : GMachine) (hw : m.wf) : ((machB d m).getD zeroT).size ≤ m.size ∧ ((machB d m).getD zeroT).wf := by
  cases h : machB d m with
  | none => exact ⟨by simp [zeroT, Tm.size, Tm.sizes], zeroT_wf⟩
  | some u => exact machB_some d m hw u h
theorem l3CopyB_1 (k n : Int) (s : ByteArray) (ts : List Tm) (hl : ts.length < 4000000) (ih : ∀ t, t ∈ ts → Sat Tryz.prog 71 [tmV t] (tmV t)) : Sat Tryz.prog 71 [tmV (.mk k n s ts)] (tmV (.mk k n s ts)) := by
  refine sat_of_code tbOk mixed Tryz.func71 rfl rfl rfl (by decide +kernel) (by decide +kernel) (Nat.le_of_ble_eq_true rfl) ?_
  simp -implicitDefEqProofs (disch := omega) only [go_sem, Tm.enc]
  refine loopA_rule (ι := Nat) (fun i => mk 25 [(1, .one (.ptr 1 0)), (2, .one (.ptr 2 0)), (3, .one (.own 5 (ts.take i).length)), (4, intV i)] [(1, .var [iC k, iC n, sC s, tC ts]), (2, .var zT), (5, .arr 65 4 (rowsOf Tm.enc (ts.take i)) false)])
    (fun i => i ≤ ts.length) (fun i => ts.length - i) 0 (Nat.zero_le _) ?_ tbOk mixed (by decide +kernel) ?_
  · exact le_mk (by simp [go_sem]) (by simp [go_sem, rowsOf])
  · intro i hi
    have hln : (ts.take i).length ≤ ts.length := by rw [List.length_take]; omega
    rcases Nat.lt_or_ge i ts.length with hlt | hge
    · have hg := encs_getD ts i hlt
      have ht : ts.take (i + 1) = ts.take i ++ [ts[i]] := by rw [List.take_add_one, List.getElem?_eq_getElem hlt]; rfl
      simp -implicitDefEqProofs (disch := omega) only [go_sem, hg, hlt]
      refine CallK.mk (ih _ (List.getElem_mem hlt)) ?_
      simp -implicitDefEqProofs (disch := omega) only [go_sem]
      refine ⟨⟨by simp [enc_len], by omega, by omega⟩, fun _ => ⟨i + 1, hlt, by omega, ?_⟩⟩
      rw [ht]
      generalize ts.take i = acc
      generalize ts[i] = a
      exact le_mk (by simp [go_sem]) (by simp [go_sem, zT]; exact rowsOf_snoc a)
    · have : i = ts.length := by omega
      subst this
      simp -implicitDefEqProofs (disch := omega) only [go_sem, Nat.lt_irrefl, List.take_length]
      rw [← encs_map]; rfl
theorem l3CopyB_sat : ∀ (t : Tm), t.size < 4000000 → Sat Tryz.prog 71 [tmV t] (tmV t) := by
  refine Tm.ind (fun k n s ts ih h => l3CopyB_1 k n s ts ?_ (fun t ht => ih t ht ?_))
  · have := len_sizes ts; simp only [Tm.size] at h; omega
  · have := size_mem ts t ht; simp only [Tm.size] at h; omega
theorem specMachineTermG_sat (d : GDefinition) (hs : d.st.length < 1048577) (m : GMachine) (hfo : m.fo.size < 4000000) (hfz : ∀ f, f ∈ m.st → f.t.size < 1048577) (hl : m.st.length < 2000000) : Sat Tryz.prog 95 [aggV d.enc, aggV m.enc] (.tup [tmV ((machB d m).getD zeroT), boolV (machB d m).isSome]) := by
  have hho := fun f (hf : f ∈ m.st) => specHole_sat d hs f (hfz f hf)
  have hcp := fun f (hf : f ∈ m.st) k n s ts (e : f.t = .mk k n s ts) => l3CopyO_sat k n s ts (by rw [← e]; exact hfz f hf)
  have hcf := l3CopyB_sat m.fo hfo
  obtain ⟨r, hr⟩ : ∃ r, r = machB d m := ⟨_, rfl⟩
  rw [← hr]
  unfold machB at hr
  obtain ⟨⟨k, n, s, ts⟩, nx, fs, rw_⟩ := m
  simp only at hho hcp hl hr hcf
  clear hfo hfz
  have hde : d.enc = [.sl (d.si.so.map encS), .sl (d.si.op.map GOp.enc), .sl (d.ru.map GRule.enc), .sl (d.st.map GStrict.enc)] := rfl
  have hme : (GMachine.mk (.mk k n s ts) nx fs rw_).enc = [.v (.int .i64 k), .v (.int .i64 n), .v (.string s), .sl (Tm.encs ts), .v (.int .i64 nx), .sl (fs.map GFrame.enc), .v (.int .i64 rw_)] := rfl
  rw [hme, hde] at *
  refine sat_of_code tbOk mixed Tryz.func95 rfl rfl rfl (by decide +kernel) (by decide +kernel) (Nat.le_of_ble_eq_true rfl) ?_
  simp -implicitDefEqProofs (disch := omega) only [go_sem, List.length_map]
  refine CallK.mk hcf ?_
  simp -implicitDefEqProofs (disch := omega) only [go_sem, List.length_map, Tm.enc]
  refine loopA_rule (ι := Nat × Int × Int × ByteArray × List Tm) (fun i => mk 45 [(2, .one (.ptr 2 0)), (3, .one (.ptr 3 0)), (4, .one (.ptr 4 0)), (6, .one (.ptr 6 0)), (7, intV ((i.1 : Int) - 1))] [(2, .var [.c (.sl (d.si.so.map encS)), .c (.sl (d.si.op.map GOp.enc)), .c (.sl (d.ru.map GRule.enc)), .c (.sl (d.st.map GStrict.enc))]), (3, .var [iC k, iC n, sC s, tC ts, iC nx, .c (.sl (fs.map GFrame.enc)), iC rw_]), (4, .var zT), (6, .var [iC i.2.1, iC i.2.2.1, sC i.2.2.2.1, tC i.2.2.2.2])])
    (fun i => i.1 ≤ fs.length ∧ r = mterm d (.mk i.2.1 i.2.2.1 i.2.2.2.1 i.2.2.2.2) (fs.take i.1).reverse) (fun i => i.1) (fs.length, k, n, s, ts) ⟨Nat.le_refl _, by rw [hr, List.take_length]⟩ ?_ tbOk mixed (by decide +kernel) ?_
  · exact le_mk (by simp [go_sem]) (by simp [go_sem, zT])
  · rintro ⟨c, k1, n1, s1, ts1⟩ ⟨hc, he⟩
    simp only at hc he
    cases c with
    | zero =>
      have he : r = some (.mk k1 n1 s1 ts1) := he
      subst he
      simp -implicitDefEqProofs (disch := omega) only [go_sem]
      exact ⟨fun h => absurd h (by omega), fun _ => rfl⟩
    | succ c =>
      have hlt : c < fs.length := by omega
      rw [take_rev fs c hlt] at he
      simp only [mterm] at he
      have hg := map_getD (ec := GFrame.enc) hlt
      have hm := List.getElem_mem hlt
      generalize fs[c] = f at hg hm he
      have hf := hho f hm
      have hcp := fun k n s ts e => hcp f hm k n s ts e
      obtain ⟨⟨fk, fn, fss, ft⟩, fx⟩ := f
      have hcp := hcp fk fn fss ft rfl
      have hfb : fillB d ⟨.mk fk fn fss ft, fx⟩ (.mk k1 n1 s1 ts1) = fillH (holeB d ⟨.mk fk fn fss ft, fx⟩) (.mk fk fn fss ft) (.mk k1 n1 s1 ts1) := rfl
      rw [hfb] at he
      have hhx : holeB d ⟨.mk fk fn fss ft, fx⟩ = -1 ∨ ∃ (j : Nat), j < ft.length ∧ holeB d ⟨.mk fk fn fss ft, fx⟩ = (j : Int) := by
        rcases holeX_in (if fk = 2 then strictOf d.st fss else []) fx ft.length with h | ⟨i, j, _, _, _, hj, h⟩
        · exact .inl h
        · exact .inr ⟨j, hj, h⟩
      generalize holeB d ⟨.mk fk fn fss ft, fx⟩ = h at hf he hhx
      rw [frameEnc] at hg hf
      have ei : ((c + 1 : Nat) : Int) - 1 = (c : Int) := by omega
      simp -implicitDefEqProofs (disch := omega) only [go_sem, ei, hg, hlt, List.length_map]
      refine CallK.mk hf ?_
      rcases hhx with rfl | ⟨j, hj, rfl⟩
      · have he : r = none := he
        subst he
        simp -implicitDefEqProofs (disch := omega) only [go_sem, zeroT, Tm.enc, Tm.encs]
        exact ⟨fun _ => rfl, fun h => (h (by decide)).elim⟩
      · have he : r = mterm d (.mk fk fn fss (ft.set j (.mk k1 n1 s1 ts1))) (fs.take c).reverse := he
        have hgr := rowsOf_get (ec := Tm.enc) hj
        generalize ft[j] = a at hgr
        obtain ⟨ak, an, as', at_⟩ := a
        simp only [Tm.enc, List.map_cons, List.map_nil] at hgr
        have hst := rowsOf_set ft j k1 n1 s1 ts1
        simp -implicitDefEqProofs (disch := omega) only [go_sem, ei, hg, hlt, List.length_map]
        refine CallK.out hcp rfl ?_
        simp -implicitDefEqProofs (disch := omega) only [go_sem, hgr, hj, hst, rowsOf_len]
        refine ⟨by simp, fun _ => ⟨(c, fk, fn, fss, ft.set j (.mk k1 n1 s1 ts1)), ⟨by omega, he⟩, by simp only; omega, (wk_varOwn 6 3 37 (rows' := (ft.set j (.mk k1 n1 s1 ts1)).map Tm.enc) rfl rfl rfl (by simp [rowsOf_len]) rowsOf_unN).trans ?_⟩⟩
        exact le_mk (by simp [go_sem]) (by simp [go_sem, encs_map, frzB, zT])
theorem specMachineTerm_sat (d : GDefinition) (hs : d.st.length < 1048577) (m : GMachine) (hz : m.size < 1048577) : Sat Tryz.prog 95 [aggV d.enc, aggV m.enc] (.tup [tmV ((machB d m).getD zeroT), boolV (machB d m).isSome]) :=
  specMachineTermG_sat d hs m (by simp only [GMachine.size] at hz; omega) (mach_fz m hz).1 (by have := (mach_fz m hz).2; omega)
end Go.Ai
/- Copies of machines. -/
namespace Go.Ai
set_option linter.unusedVariables false
set_option linter.unusedSimpArgs false
open Go.Proofs
set_option maxRecDepth 100000

theorem machEnc (k n : Int) (s : ByteArray) (ts : List Tm) (nx : Int) (fs : List GFrame) (rw_ : Int) : (GMachine.mk (.mk k n s ts) nx fs rw_).enc = [.v (.int .i64 k), .v (.int .i64 n), .v (.string s), .sl (Tm.encs ts), .v (.int .i64 nx), .sl (fs.map GFrame.enc), .v (.int .i64 rw_)] := rfl
theorem frame_len (f : GFrame) : f.enc.length = 5 := by
  obtain ⟨⟨k, n, s, ts⟩, nx⟩ := f; rfl
theorem rowsOf_takeF {α : Type} {ec : α → List C} (xs : List α) (i : Nat) (h : i < xs.length) : rowsOf ec (xs.take (i + 1)) = rowsOf ec (xs.take i) ++ [(ec xs[i]).map .c] := by
  unfold rowsOf
  rw [List.take_succ_eq_append_getElem h, List.map_append]; rfl
/-- The program's copy: a machine whose stack is a row of one's own. -/
theorem implCopyMO_sat (k n : Int) (s : ByteArray) (ts : List Tm) (nx : Int) (fs : List GFrame) (rw_ : Int) (hfo : (Tm.mk k n s ts).size < 100000000) (hfz : ∀ f, f ∈ fs → f.t.size < 100000000) (hl : fs.length < 2000000) : SatO Tryz.prog 101 [aggV (GMachine.mk (.mk k n s ts) nx fs rw_).enc] 191 5 (rowsOf GFrame.enc fs) (.agg [iC k, iC n, sC s, tC ts, iC nx, .own 0 fs.length, iC rw_]) := by
  have hcf := (copyTermF_sat (.mk k n s ts) hfo).sat
  have hcp := fun f hf => (copyTermF_sat f.t (hfz f hf)).sat
  rw [machEnc]
  refine satO_of_code [.agg [iC k, iC n, sC s, tC ts, iC nx, .own 0 fs.length, iC rw_]] rfl (by simp) tbOk mixed Tryz.func101 rfl rfl rfl (by decide +kernel) (by decide +kernel) (Nat.le_of_ble_eq_true rfl) (by decide) rowsOf_cl rowsOf_noD rfl ?_
  simp -implicitDefEqProofs (disch := omega) only [go_sem]
  refine CallK.mk hcf ?_
  simp -implicitDefEqProofs (disch := omega) only [go_sem, Tm.enc, List.length_map]
  refine loopA_rule (ι := Nat) (fun i => match i with
      | 0 => mk 34 [(2, .one (.ptr 2 0)), (3, .one (.ptr 3 0)), (15, slV (fs.map GFrame.enc)), (16, intV fs.length), (17, intV (0 : Nat))] [(2, .var [iC 0, iC 0, sC ByteArray.empty, .nil, iC 0, .nil, iC 0]), (3, .var [iC k, iC n, sC s, tC ts, iC nx, .nil, iC rw_])]
      | i + 1 => mk 34 [(2, .one (.ptr 2 0)), (3, .one (.ptr 3 0)), (15, slV (fs.map GFrame.enc)), (16, intV fs.length), (17, intV (i + 1 : Nat))] [(2, .var [iC 0, iC 0, sC ByteArray.empty, .nil, iC 0, .nil, iC 0]), (3, .var [iC k, iC n, sC s, tC ts, iC nx, .own 30 (i + 1), iC rw_]), (30, .arr 191 5 (rowsOf GFrame.enc (fs.take (i + 1))) false)])
    (fun i => i ≤ fs.length) (fun i => fs.length - i) 0 (Nat.zero_le _) ?_ tbOk mixed (by decide +kernel) ?_
  · exact le_mk (by simp [go_sem]) (by simp [go_sem]; rfl)
  · intro i hi
    rcases Nat.lt_or_ge i fs.length with hlt | hge
    · have hg := map_getD (ec := GFrame.enc) hlt
      have hcf := hcp _ (List.getElem_mem hlt)
      have ht := rowsOf_takeF (ec := GFrame.enc) fs i hlt
      have hln : (rowsOf GFrame.enc (fs.take i)).length = i := by rw [rowsOf_len, List.length_take]; omega
      generalize fs[i] = f at hg hcf ht
      obtain ⟨⟨fk, fn, fss, ft⟩, fx⟩ := f
      rw [frameEnc] at hg ht
      simp only [List.map_cons, List.map_nil] at ht
      cases i with
      | zero =>
        have ht0 := ht.trans (congrArg (· ++ _) (show rowsOf GFrame.enc (List.take 0 fs) = [] from rfl))
        simp only [List.nil_append, Nat.zero_add] at ht0
        simp -implicitDefEqProofs (disch := omega) only [go_sem, hg, hlt]
        refine CallK.mk hcf ?_
        simp -implicitDefEqProofs (disch := omega) only [go_sem, Tm.enc, hg, hlt]
        refine ⟨by simp, fun _ => ⟨1, by omega, by omega, ?_⟩⟩
        exact le_mk (by simp [go_sem]) (by simp only [Nat.zero_add, ht0]; simp [go_sem])
      | succ i =>
        simp -implicitDefEqProofs (disch := omega) only [go_sem, hg, hlt]
        refine CallK.mk hcf ?_
        simp -implicitDefEqProofs (disch := omega) only [go_sem, Tm.enc, hg, hlt, hln]
        refine ⟨⟨by simp, by omega, by omega⟩, fun _ => ⟨i + 2, by omega, by omega, ?_⟩⟩
        exact le_mk (by simp [go_sem]) (by simp [go_sem, ht])
    · have : i = fs.length := by omega
      subst this
      cases fs with
      | nil =>
        simp -implicitDefEqProofs (disch := omega) only [go_sem, Nat.lt_irrefl]
        rfl
      | cons f rest =>
        simp -implicitDefEqProofs (disch := omega) only [go_sem, Nat.lt_irrefl, List.take_length]
theorem implCopyM_sat (m : GMachine) (hfo : m.fo.size < 100000000) (hfz : ∀ f, f ∈ m.st → f.t.size < 100000000) (hl : m.st.length < 2000000) : Sat Tryz.prog 101 [aggV m.enc] (aggV m.enc) := by
  obtain ⟨⟨k, n, s, ts⟩, nx, fs, rw_⟩ := m
  exact (implCopyMO_sat k n s ts nx fs rw_ hfo hfz hl).sat (by simp [fullV, fullC, rowsOf_len]) rowsOf_unN rfl
/-- The program's copy, owned. -/
theorem implCopyMF_sat (k n : Int) (s : ByteArray) (ts : List Tm) (nx : Int) (fs : List GFrame) (rw_ : Int) (hfo : (Tm.mk k n s ts).size < 100000000) (hfz : ∀ f, f ∈ fs → f.t.size < 100000000) (hl : fs.length < 2000000) : SatF Tryz.prog 101 [aggV (GMachine.mk (.mk k n s ts) nx fs rw_).enc] (aggV (GMachine.mk (.mk k n s ts) nx fs rw_).enc) := by
  have hcf := copyTermF_sat (.mk k n s ts) hfo
  have hcp := fun f hf => copyTermF_sat f.t (hfz f hf)
  rw [machEnc]
  refine satF_of_code [aggV [.v (.int .i64 k), .v (.int .i64 n), .v (.string s), .sl (Tm.encs ts), .v (.int .i64 nx), .sl (fs.map GFrame.enc), .v (.int .i64 rw_)]] rfl (fun _ h => by cases h) tbOk mixed Tryz.func101 rfl rfl rfl (by decide +kernel) (by decide +kernel) (Nat.le_of_ble_eq_true rfl) ?_
  simp -implicitDefEqProofs (disch := omega) only [go_sem]
  refine CallK.own hcf rfl ?_
  simp -implicitDefEqProofs (disch := omega) only [go_sem, Tm.enc, List.length_map]
  refine loopA_rule (ι := Nat) (fun i => match i with
      | 0 => mk 34 [(2, .one (.ptr 2 0)), (3, .one (.ptr 3 0)), (15, slV (fs.map GFrame.enc)), (16, intV fs.length), (17, intV (0 : Nat))] [(2, .var [iC 0, iC 0, sC ByteArray.empty, .nil, iC 0, .nil, iC 0]), (3, .var [iC k, iC n, sC s, .tk 8 3, iC nx, .nil, iC rw_]), (8, .tok [some (.v (.int .i64 k)), some (.v (.int .i64 n)), some (.v (.string s)), some (.sl (Tm.encs ts))])]
      | i + 1 => mk 34 [(2, .one (.ptr 2 0)), (3, .one (.ptr 3 0)), (15, slV (fs.map GFrame.enc)), (16, intV fs.length), (17, intV (i + 1 : Nat))] [(2, .var [iC 0, iC 0, sC ByteArray.empty, .nil, iC 0, .nil, iC 0]), (3, .var [iC k, iC n, sC s, .tk 8 3, iC nx, .own 30 (i + 1), iC rw_]), (8, .tok [some (.v (.int .i64 k)), some (.v (.int .i64 n)), some (.v (.string s)), some (.sl (Tm.encs ts))]), (30, .arr 191 5 (drowsOf GFrame.enc (fs.take (i + 1))) false)])
    (fun i => i ≤ fs.length) (fun i => fs.length - i) 0 (Nat.zero_le _) ?_ tbOk mixed (by decide +kernel) ?_
  · exact le_mk (by simp [go_sem]) (by simp [go_sem]; rfl)
  · intro i hi
    rcases Nat.lt_or_ge i fs.length with hlt | hge
    · have hg := map_getD (ec := GFrame.enc) hlt
      have hcf := hcp _ (List.getElem_mem hlt)
      have ht := drowsOf_take GFrame.enc fs i hlt
      have hln : (drowsOf GFrame.enc (fs.take i)).length = i := by rw [drowsOf_len, List.length_take]; omega
      generalize fs[i] = f at hg hcf ht
      obtain ⟨⟨fk, fn, fss, ft⟩, fx⟩ := f
      rw [frameEnc] at hg ht
      simp only [List.map_cons, List.map_nil, dC] at ht
      cases i with
      | zero =>
        have ht0 := ht.trans (congrArg (· ++ _) (show drowsOf GFrame.enc (List.take 0 fs) = [] from rfl))
        simp only [List.nil_append, Nat.zero_add] at ht0
        simp -implicitDefEqProofs (disch := omega) only [go_sem, hg, hlt]
        refine CallK.own hcf rfl ?_
        simp -implicitDefEqProofs (disch := omega) only [go_sem, Tm.enc, hg, hlt]
        refine ⟨by simp, fun _ => ⟨1, by omega, by omega, (wk_moveLast (l := 30) (c := 3) (rows := []) rfl rfl rfl rfl).trans ?_⟩⟩
        exact le_mk (by simp [go_sem]) (by simp only [Nat.zero_add, ht0]; simp [go_sem])
      | succ i =>
        simp -implicitDefEqProofs (disch := omega) only [go_sem, hg, hlt]
        refine CallK.own hcf rfl ?_
        simp -implicitDefEqProofs (disch := omega) only [go_sem, Tm.enc, hg, hlt, hln]
        refine ⟨⟨by simp, by omega, by omega⟩, fun _ => ⟨i + 2, by omega, by omega, (wk_moveLast (l := 30) (c := 3) rfl rfl rfl rfl).trans ?_⟩⟩
        exact le_mk (by simp [go_sem]) (by simp [go_sem, ht])
    · have : i = fs.length := by omega
      subst this
      cases fs with
      | nil =>
        simp -implicitDefEqProofs (disch := omega) only [go_sem, Nat.lt_irrefl]
      | cons f rest =>
        simp -implicitDefEqProofs (disch := omega) only [go_sem, Nat.lt_irrefl, List.take_length]
        simp [drowsOf]
/-- The reference's copy: a machine whose stack is a row of one's own. -/
theorem specCopyMO_sat (k n : Int) (s : ByteArray) (ts : List Tm) (nx : Int) (fs : List GFrame) (rw_ : Int) (hfo : (Tm.mk k n s ts).size < 4000000) (hfz : ∀ f, f ∈ fs → f.t.size < 4000000) (hl : fs.length < 2000000) : SatO Tryz.prog 96 [aggV (GMachine.mk (.mk k n s ts) nx fs rw_).enc] 191 5 (rowsOf GFrame.enc fs) (.agg [iC k, iC n, sC s, tC ts, iC nx, .own 0 fs.length, iC rw_]) := by
  have hcf := l3CopyB_sat (.mk k n s ts) hfo
  have hcp := fun f hf => l3CopyB_sat f.t (hfz f hf)
  rw [machEnc]
  refine satO_of_code [.agg [iC k, iC n, sC s, tC ts, iC nx, .own 0 fs.length, iC rw_]] rfl (by simp) tbOk mixed Tryz.func96 rfl rfl rfl (by decide +kernel) (by decide +kernel) (Nat.le_of_ble_eq_true rfl) (by decide) rowsOf_cl rowsOf_noD rfl ?_
  simp -implicitDefEqProofs (disch := omega) only [go_sem]
  refine CallK.mk hcf ?_
  simp -implicitDefEqProofs (disch := omega) only [go_sem, Tm.enc, List.length_map]
  refine loopA_rule (ι := Nat) (fun i => match i with
      | 0 => mk 40 [(2, .one (.ptr 2 0)), (1, .one (.ptr 1 0)), (3, .one (.ptr 3 0)), (4, intV (0 : Nat))] [(1, .var [iC k, iC n, sC s, tC ts, iC nx, .c (.sl (fs.map GFrame.enc)), iC rw_]), (2, .var [iC 0, iC 0, sC ByteArray.empty, .nil, iC 0, .nil, iC 0]), (3, .var [iC k, iC n, sC s, tC ts, iC nx, .nil, iC rw_])]
      | i + 1 => mk 40 [(2, .one (.ptr 2 0)), (1, .one (.ptr 1 0)), (3, .one (.ptr 3 0)), (4, intV (i + 1 : Nat))] [(1, .var [iC k, iC n, sC s, tC ts, iC nx, .c (.sl (fs.map GFrame.enc)), iC rw_]), (2, .var [iC 0, iC 0, sC ByteArray.empty, .nil, iC 0, .nil, iC 0]), (3, .var [iC k, iC n, sC s, tC ts, iC nx, .own 37 (i + 1), iC rw_]), (37, .arr 191 5 (rowsOf GFrame.enc (fs.take (i + 1))) false)])
    (fun i => i ≤ fs.length) (fun i => fs.length - i) 0 (Nat.zero_le _) ?_ tbOk mixed (by decide +kernel) ?_
  · exact le_mk (by simp [go_sem]) (by simp [go_sem]; rfl)
  · intro i hi
    rcases Nat.lt_or_ge i fs.length with hlt | hge
    · have hg := map_getD (ec := GFrame.enc) hlt
      have hcf := hcp _ (List.getElem_mem hlt)
      have ht := rowsOf_takeF (ec := GFrame.enc) fs i hlt
      have hln : (rowsOf GFrame.enc (fs.take i)).length = i := by rw [rowsOf_len, List.length_take]; omega
      generalize fs[i] = f at hg hcf ht
      obtain ⟨⟨fk, fn, fss, ft⟩, fx⟩ := f
      rw [frameEnc] at hg ht
      simp only [List.map_cons, List.map_nil] at ht
      cases i with
      | zero =>
        have ht0 := ht.trans (congrArg (· ++ _) (show rowsOf GFrame.enc (List.take 0 fs) = [] from rfl))
        simp only [List.nil_append, Nat.zero_add] at ht0
        simp -implicitDefEqProofs (disch := omega) only [go_sem, hg, hlt, List.length_map]
        refine CallK.mk hcf ?_
        simp -implicitDefEqProofs (disch := omega) only [go_sem, Tm.enc, hg, hlt, List.length_map]
        refine ⟨by simp, fun _ => ⟨1, by omega, by omega, ?_⟩⟩
        exact le_mk (by simp [go_sem]) (by simp only [Nat.zero_add, ht0]; simp [go_sem])
      | succ i =>
        simp -implicitDefEqProofs (disch := omega) only [go_sem, hg, hlt, List.length_map]
        refine CallK.mk hcf ?_
        simp -implicitDefEqProofs (disch := omega) only [go_sem, Tm.enc, hg, hlt, hln, List.length_map]
        refine ⟨⟨by simp, by omega, by omega⟩, fun _ => ⟨i + 2, by omega, by omega, ?_⟩⟩
        exact le_mk (by simp [go_sem]) (by simp [go_sem, ht])
    · have : i = fs.length := by omega
      subst this
      cases fs with
      | nil =>
        simp -implicitDefEqProofs (disch := omega) only [go_sem, Nat.lt_irrefl, List.length_map, List.length_nil, List.map_nil]
        rfl
      | cons f rest =>
        simp -implicitDefEqProofs (disch := omega) only [go_sem, Nat.lt_irrefl, List.take_length, List.length_map]
theorem specCopyM_sat (m : GMachine) (hfo : m.fo.size < 4000000) (hfz : ∀ f, f ∈ m.st → f.t.size < 4000000) (hl : m.st.length < 2000000) : Sat Tryz.prog 96 [aggV m.enc] (aggV m.enc) := by
  obtain ⟨⟨k, n, s, ts⟩, nx, fs, rw_⟩ := m
  exact (specCopyMO_sat k n s ts nx fs rw_ hfo hfz hl).sat (by simp [fullV, fullC, rowsOf_len]) rowsOf_unN rfl
end Go.Ai
/- A step of a machine: what it is. -/
namespace Go.Ai
set_option linter.unusedVariables false
set_option linter.unusedSimpArgs false
open Go.Proofs
set_option maxRecDepth 100000

def ruleAt (d : GDefinition) (k : Int) : GRule := d.ru.getD k.toNat ⟨sE, zeroT, zeroT, []⟩
/-- The step of a machine whose focus is a configuration. -/
def moveM (d : GDefinition) (m : GMachine) : Option GMachine :=
  if 0 ≤ holeB d ⟨m.fo, m.nx⟩ then some ⟨m.fo.args.getD (holeB d ⟨m.fo, m.nx⟩).toNat zeroT, 0, m.st ++ [⟨m.fo, m.nx⟩], m.rw⟩
  else if 0 ≤ rootF d m.fo then some ⟨fireT (ruleAt d (rootF d m.fo)) m.fo, 0, m.st, IntKind.i64.wrap (m.rw + 1)⟩
  else match m.st.getLast? with
    | none => none
    | some f => (fillB d f m.fo).map fun u => ⟨u, f.nx + 1, m.st.dropLast, m.rw⟩
theorem hole_over (d : GDefinition) (k n : Int) (s : ByteArray) (ts : List Tm) (nx : Int) (hr : rng d.st (.mk k n s ts)) (h0 : 0 ≤ nx) (hh : holeB d ⟨.mk k n s ts, nx⟩ = -1) : ((if k = 2 then strictOf d.st s else []).length : Int) ≤ nx := by
  simp only [holeB] at hh
  rcases Int.lt_or_le nx ((if k = 2 then strictOf d.st s else []).length : Int) with hlt | hge
  · exfalso
    unfold holeX at hh
    rw [if_pos (by simp; omega)] at hh
    obtain ⟨i, rfl⟩ : ∃ i : Nat, nx = (i : Int) := ⟨nx.toNat, by omega⟩
    have hi : i < (if k = 2 then strictOf d.st s else []).length := by omega
    have hx : 0 ≤ (if k = 2 then strictOf d.st s else [])[i] ∧ (if k = 2 then strictOf d.st s else [])[i].toNat < ts.length := by
      by_cases hk : k = 2
      · have hm := List.getElem_mem hi
        have : ∀ x, x ∈ (if k = 2 then strictOf d.st s else []) → 0 ≤ x ∧ x.toNat < ts.length := by
          rw [if_pos hk]; exact hr.1 hk
        exact this _ hm
      · rw [if_neg hk] at hi; simp at hi
    rw [Int.toNat_natCast, List.getD_eq_getElem?_getD, List.getElem?_eq_getElem hi, Option.getD_some] at hh
    rw [if_pos (by simp; omega)] at hh
    omega
  · exact hge
theorem root_at (d : GDefinition) (t : Tm) (h : 0 ≤ rootF d t) : ∃ (j : Nat) (hj : j < d.ru.length), rootF d t = (j : Int) ∧ (fireI d.ru[j] t).isSome = true ∧ ruleAt d (rootF d t) = d.ru[j] := by
  obtain ⟨j, hj, e1, e2⟩ := rootI_some (fun x => (fireI x t).isSome) d.ru 0 (by omega) h
  have e1 : rootF d t = (j : Int) := e1.trans (by omega)
  refine ⟨j, hj, e1, e2, ?_⟩
  unfold ruleAt
  rw [e1, Int.toNat_natCast, List.getD_eq_getElem?_getD, List.getElem?_eq_getElem hj, Option.getD_some]
end Go.Ai
/- A step of a machine, in the program. -/
namespace Go.Ai
set_option linter.unusedVariables false
set_option linter.unusedSimpArgs false
open Go.Proofs
set_option maxRecDepth 100000

abbrev implMoveS (d : GDefinition) (m : GMachine) : Prop := Sat Tryz.prog 102 [aggV d.enc, aggV m.enc] (.tup [aggV ((moveM d m).getD m).enc, boolV (moveM d m).isSome])
abbrev DΔ : List (Nat × List Pr) := [(10, [⟨0, 4, [3], [66]⟩, ⟨1, 4, [63], [66]⟩]), (16, [⟨1, 9, [10], [96, 88]⟩, ⟨2, 9, [89], [96, 88]⟩, ⟨7, 9, [93, 94], [96, 88]⟩, ⟨7, 11, [93, 94], [97, 91]⟩])]
theorem implMove_A (d : GDefinition) (hls : d.st.length < 1048577) (k n : Int) (s : ByteArray) (ts : List Tm) (nx : Int) (fs : List GFrame) (rw_ : Int) (hz : (Tm.mk k n s ts).size < 1048577) (hfz : ∀ f, f ∈ fs → f.t.size < 1048577) (hl : fs.length < 1048577) (hh : 0 ≤ holeB d ⟨.mk k n s ts, nx⟩) : implMoveS d ⟨.mk k n s ts, nx, fs, rw_⟩ := by
  unfold implMoveS
  have hcp := implCopyMO_sat k n s ts nx fs rw_ (by omega) (fun f hf => by have := hfz f hf; omega) (by omega)
  have hso := implStrictOf_sat d hls k n s ts
  obtain ⟨r, hr⟩ : ∃ r, r = moveM d ⟨.mk k n s ts, nx, fs, rw_⟩ := ⟨_, rfl⟩
  rw [← hr]
  unfold moveM at hr
  simp only [if_pos hh] at hr
  simp only [holeB] at hh hr
  obtain ⟨xs, hxs⟩ : ∃ xs, xs = (if k = 2 then strictOf d.st s else []) := ⟨_, rfl⟩
  rw [← hxs] at hso hh hr
  rcases holeX_in xs nx ts.length with h | ⟨i, j, rfl, hi, hij, hj, h⟩
  · omega
  rw [h] at hr
  have e1 : ts.getD j zeroT = ts[j] := by rw [List.getD_eq_getElem?_getD, List.getElem?_eq_getElem hj, Option.getD_some]
  simp only [Tm.args, Int.toNat_natCast] at hr
  rw [e1] at hr
  have hct := (copyTermF_sat ts[j] (by have := tsize_lt k n s ts j hj; omega)).sat
  have hgt := encs_getD ts j hj
  have hg := map_getD (ec := encI) hi
  have hxi : xs[i] = (j : Int) := by rw [← hij, List.getD_eq_getElem?_getD, List.getElem?_eq_getElem hi, Option.getD_some]
  simp only [encI] at hg
  rw [hxi] at hg
  have hsn := rowsOf_snoc (ec := GFrame.enc) (xs := fs) ⟨.mk k n s ts, (i : Int)⟩
  rw [frameEnc] at hsn
  simp only [List.map_cons, List.map_nil] at hsn
  generalize ts[j] = a at hr hct hgt
  obtain ⟨ak, an, as', at_⟩ := a
  simp only [Tm.enc] at hgt
  subst hr
  have hln := len_sizes ts
  have hxl : xs.length < 1048577 := by
    rw [hxs]
    split
    · have := strictOf_len d.st s d.st.length
      rw [List.take_length] at this
      omega
    · simp
  have hde : d.enc = [.sl (d.si.so.map encS), .sl (d.si.op.map GOp.enc), .sl (d.ru.map GRule.enc), .sl (d.st.map GStrict.enc)] := rfl
  simp only [Option.getD_some, Option.isSome_some, machEnc]
  rw [machEnc] at hcp
  refine sat_of_codeD DΔ tbOk mixed Tryz.func102 rfl rfl rfl (by decide +kernel) (by decide +kernel) (Nat.le_of_ble_eq_true rfl) ?_
  simp -implicitDefEqProofs (disch := omega) only [go_sem, hde]
  refine CallK.out hcp rfl ?_
  simp -implicitDefEqProofs (disch := omega) only [go_sem]
  refine CallK.mk hso ?_
  simp -implicitDefEqProofs (disch := omega) only [go_sem, List.length_map, hi, hg, hgt, hj, enc_len]
  refine ⟨⟨by simp, by omega, by omega⟩, fun _ => CallK.mk hct ?_⟩
  simp -implicitDefEqProofs (disch := omega) only [go_sem, hsn, rowsOf_toC, Tm.enc, rowsOf_len]
  rfl
theorem implMove_B1 (d : GDefinition) (hls : d.st.length < 1048577) (hlr : d.ru.length < 100000000) (hd : ∀ x, x ∈ d.ru → ruleOk x) (k n : Int) (s : ByteArray) (ts : List Tm) (nx : Int) (fs : List GFrame) (rw_ : Int) (ht : tmOk (.mk k n s ts)) (hrg : rng d.st (.mk k n s ts)) (h0 : 0 ≤ nx) (hfz : ∀ f, f ∈ fs → f.t.size < 1048577) (hl : fs.length < 1048577) (hh : ¬ 0 ≤ holeB d ⟨.mk k n s ts, nx⟩) (hro : 0 ≤ rootF d (.mk k n s ts)) : implMoveS d ⟨.mk k n s ts, nx, fs, rw_⟩ := by
  unfold implMoveS
  have hcp := implCopyM_sat ⟨.mk k n s ts, nx, fs, rw_⟩ (by have := ht.1; simp only; omega) (fun f hf => by have := hfz f hf; omega) (by simp only; omega)
  have hso := implStrictOf_sat d hls k n s ts
  have hrt := implRootRule_sat d hlr hd (.mk k n s ts) ht
  change Sat Tryz.prog 160 [aggV d.enc, tmV (.mk k n s ts)] (intV (rootF d (.mk k n s ts))) at hrt
  obtain ⟨r, hr⟩ : ∃ r, r = moveM d ⟨.mk k n s ts, nx, fs, rw_⟩ := ⟨_, rfl⟩
  rw [← hr]
  unfold moveM at hr
  simp only [if_neg hh, if_pos hro] at hr
  have hov := hole_over d k n s ts nx hrg h0 (by
    rcases holeX_in (if k = 2 then strictOf d.st s else []) nx ts.length with h | ⟨i, j, _, _, _, _, h⟩
    · exact h
    · exact absurd (show 0 ≤ holeB d ⟨.mk k n s ts, nx⟩ by simp only [holeB]; omega) hh)
  obtain ⟨j, hj, e1, e2, e3⟩ := root_at d (.mk k n s ts) hro
  have hfi := implFire_sat d hlr j hj (hd _ (List.getElem_mem hj)) (.mk k n s ts) ht
  rw [e3] at hr
  rw [e1] at hrt
  rw [e2] at hfi
  generalize (if k = 2 then strictOf d.st s else []) = xs at hso hov
  generalize fireT d.ru[j] (.mk k n s ts) = v at hr hfi
  obtain ⟨vk, vn, vs, vt⟩ := v
  subst hr
  have hnx : ¬ nx < (xs.length : Int) := by omega
  have hde : d.enc = [.sl (d.si.so.map encS), .sl (d.si.op.map GOp.enc), .sl (d.ru.map GRule.enc), .sl (d.st.map GStrict.enc)] := rfl
  simp only [Option.getD_some, Option.isSome_some, machEnc]
  rw [machEnc] at hcp
  refine sat_of_codeD DΔ tbOk mixed Tryz.func102 rfl rfl rfl (by decide +kernel) (by decide +kernel) (Nat.le_of_ble_eq_true rfl) ?_
  simp -implicitDefEqProofs (disch := omega) only [go_sem, hde]
  refine CallK.mk hcp ?_
  simp -implicitDefEqProofs (disch := omega) only [go_sem]
  refine CallK.mk hso ?_
  simp -implicitDefEqProofs (disch := omega) only [go_sem, List.length_map, hnx]
  refine CallK.mk hrt ?_
  simp -implicitDefEqProofs (disch := omega) only [go_sem]
  refine CallK.mk hfi ?_
  simp -implicitDefEqProofs (disch := omega) only [go_sem, Tm.enc]
  rfl
theorem implMove_B2 (d : GDefinition) (hls : d.st.length < 1048577) (hlr : d.ru.length < 100000000) (hd : ∀ x, x ∈ d.ru → ruleOk x) (k n : Int) (s : ByteArray) (ts : List Tm) (nx : Int) (fs : List GFrame) (rw_ : Int) (ht : tmOk (.mk k n s ts)) (hrg : rng d.st (.mk k n s ts)) (h0 : 0 ≤ nx) (f : GFrame) (hfz : ∀ g, g ∈ fs ++ [f] → g.t.size < 1048577) (hl : (fs ++ [f]).length < 1048577) (hh : ¬ 0 ≤ holeB d ⟨.mk k n s ts, nx⟩) (hro : ¬ 0 ≤ rootF d (.mk k n s ts)) (hho : 0 ≤ holeB d f) : implMoveS d ⟨.mk k n s ts, nx, fs ++ [f], rw_⟩ := by
  unfold implMoveS
  have hcp := implCopyM_sat ⟨.mk k n s ts, nx, fs ++ [f], rw_⟩ (by have := ht.1; simp only; omega) (fun f hf => by have := hfz f hf; omega) (by simp only; omega)
  have hso := implStrictOf_sat d hls k n s ts
  have hrt := implRootRule_sat d hlr hd (.mk k n s ts) ht
  change Sat Tryz.prog 160 [aggV d.enc, tmV (.mk k n s ts)] (intV (rootF d (.mk k n s ts))) at hrt
  obtain ⟨r, hr⟩ : ∃ r, r = moveM d ⟨.mk k n s ts, nx, fs ++ [f], rw_⟩ := ⟨_, rfl⟩
  rw [← hr]
  unfold moveM at hr
  simp only [if_neg hh, if_neg hro, List.getLast?_append, List.getLast?_singleton, Option.some_or, List.dropLast_concat] at hr
  have hov := hole_over d k n s ts nx hrg h0 (by
    rcases holeX_in (if k = 2 then strictOf d.st s else []) nx ts.length with h | ⟨i, j, _, _, _, _, h⟩
    · exact h
    · exact absurd (show 0 ≤ holeB d ⟨.mk k n s ts, nx⟩ by simp only [holeB]; omega) hh)
  have hfi := implFilled_sat d hls f (hfz f (by simp)) (.mk k n s ts)
  have hfr : ∃ u, fillB d f (.mk k n s ts) = some u := by
    unfold fillB fillH
    rw [if_neg (by omega)]
    exact ⟨_, rfl⟩
  obtain ⟨u, hu⟩ := hfr
  have hfx : 0 ≤ f.nx ∧ f.nx < 1048577 := by
    obtain ⟨⟨fk, fn, fss, ft⟩, fx⟩ := f
    rcases holeX_in (if fk = 2 then strictOf d.st fss else []) fx ft.length with h | ⟨i, j, e, hi, _, _, h⟩
    · simp only [holeB] at hho; omega
    · have : (if fk = 2 then strictOf d.st fss else []).length ≤ d.st.length := by
        split
        · have := strictOf_len d.st fss d.st.length
          rwa [List.take_length] at this
        · simp
      simp only; omega
  rw [hu] at hr hfi
  have hrl : ¬ 0 ≤ rootF d (.mk k n s ts) := hro
  generalize (if k = 2 then strictOf d.st s else []) = xs at hso hov
  generalize rootF d (.mk k n s ts) = ro at hrt hrl
  obtain ⟨uk, un, us, ut⟩ := u
  obtain ⟨⟨fk, fn, fss, ft⟩, fx⟩ := f
  simp only [Option.map_some] at hr
  subst hr
  have hnx : ¬ nx < (xs.length : Int) := by omega
  have hrn : (ro ≥ 0) = False := eq_false (by omega)
  have hg := map_getD (ec := GFrame.enc) (xs := fs ++ [⟨.mk fk fn fss ft, fx⟩]) (i := fs.length) (by simp)
  rw [List.getElem_append_right (Nat.le_refl _)] at hg
  simp only [Nat.sub_self, List.getElem_cons_zero] at hg
  rw [frameEnc] at hg hfi
  have hde : d.enc = [.sl (d.si.so.map encS), .sl (d.si.op.map GOp.enc), .sl (d.ru.map GRule.enc), .sl (d.st.map GStrict.enc)] := rfl
  have hll : (fs ++ [(⟨.mk fk fn fss ft, fx⟩ : GFrame)]).length = fs.length + 1 := by simp
  rw [hll] at hl
  have ei : ((fs.length + 1 : Nat) : Int) - 1 = (fs.length : Int) := by omega
  have htk : ((fs ++ [(⟨.mk fk fn fss ft, fx⟩ : GFrame)]).map GFrame.enc).take fs.length = fs.map GFrame.enc := by
    rw [List.map_append, List.take_left' (by simp)]
  simp only [Option.getD_some, Option.isSome_some, machEnc]
  rw [machEnc] at hcp
  refine sat_of_codeD DΔ tbOk mixed Tryz.func102 rfl rfl rfl (by decide +kernel) (by decide +kernel) (Nat.le_of_ble_eq_true rfl) ?_
  simp -implicitDefEqProofs (disch := omega) only [go_sem, hde]
  refine CallK.mk hcp ?_
  simp -implicitDefEqProofs (disch := omega) only [go_sem]
  refine CallK.mk hso ?_
  simp -implicitDefEqProofs (disch := omega) only [go_sem, List.length_map, hnx]
  refine CallK.mk hrt ?_
  simp -implicitDefEqProofs (disch := omega) only [go_sem, hrn, List.length_map, hll, ei, hg]
  refine ⟨by omega, fun _ => CallK.mk hfi ?_⟩
  simp -implicitDefEqProofs (disch := omega) only [go_sem, Tm.enc, Option.getD_some, Option.isSome_some, List.length_map, hll, htk]
  simp only at hfx
  refine ⟨⟨by omega, fun r hr => ?_⟩, fun _ => by rw [IntWalk.i64_in _ (by omega)]; rfl⟩
  obtain ⟨g, _, rfl⟩ := List.mem_map.1 hr
  exact frame_len g
theorem implMove_B3 (d : GDefinition) (hls : d.st.length < 1048577) (hlr : d.ru.length < 100000000) (hd : ∀ x, x ∈ d.ru → ruleOk x) (k n : Int) (s : ByteArray) (ts : List Tm) (nx : Int) (rw_ : Int) (ht : tmOk (.mk k n s ts)) (hrg : rng d.st (.mk k n s ts)) (h0 : 0 ≤ nx) (hh : ¬ 0 ≤ holeB d ⟨.mk k n s ts, nx⟩) (hro : ¬ 0 ≤ rootF d (.mk k n s ts)) : implMoveS d ⟨.mk k n s ts, nx, [], rw_⟩ := by
  unfold implMoveS
  have hcp := implCopyM_sat ⟨.mk k n s ts, nx, [], rw_⟩ (by have := ht.1; simp only; omega) (fun f hf => by cases hf) (by simp)
  have hso := implStrictOf_sat d hls k n s ts
  have hrt := implRootRule_sat d hlr hd (.mk k n s ts) ht
  change Sat Tryz.prog 160 [aggV d.enc, tmV (.mk k n s ts)] (intV (rootF d (.mk k n s ts))) at hrt
  obtain ⟨r, hr⟩ : ∃ r, r = moveM d ⟨.mk k n s ts, nx, [], rw_⟩ := ⟨_, rfl⟩
  rw [← hr]
  unfold moveM at hr
  simp only [if_neg hh, if_neg hro, List.getLast?_nil] at hr
  have hov := hole_over d k n s ts nx hrg h0 (by
    rcases holeX_in (if k = 2 then strictOf d.st s else []) nx ts.length with h | ⟨i, j, _, _, _, _, h⟩
    · exact h
    · exact absurd (show 0 ≤ holeB d ⟨.mk k n s ts, nx⟩ by simp only [holeB]; omega) hh)
  have hrl : ¬ 0 ≤ rootF d (.mk k n s ts) := hro
  generalize (if k = 2 then strictOf d.st s else []) = xs at hso hov
  generalize rootF d (.mk k n s ts) = ro at hrt hrl
  subst hr
  have hnx : ¬ nx < (xs.length : Int) := by omega
  have hrn : (ro ≥ 0) = False := eq_false (by omega)
  have hde : d.enc = [.sl (d.si.so.map encS), .sl (d.si.op.map GOp.enc), .sl (d.ru.map GRule.enc), .sl (d.st.map GStrict.enc)] := rfl
  simp only [Option.getD_none, Option.isSome_none, machEnc]
  rw [machEnc] at hcp
  refine sat_of_codeD DΔ tbOk mixed Tryz.func102 rfl rfl rfl (by decide +kernel) (by decide +kernel) (Nat.le_of_ble_eq_true rfl) ?_
  simp -implicitDefEqProofs (disch := omega) only [go_sem, hde]
  refine CallK.mk hcp ?_
  simp -implicitDefEqProofs (disch := omega) only [go_sem]
  refine CallK.mk hso ?_
  simp -implicitDefEqProofs (disch := omega) only [go_sem, List.length_map, hnx]
  refine CallK.mk hrt ?_
  simp -implicitDefEqProofs (disch := omega) only [go_sem, hrn, List.length_map, List.map_nil, List.length_nil]
  exact ⟨fun h => absurd h (by omega), fun _ => rfl⟩
/-- The stack's last frame waits for an argument. -/
def lastOk (d : GDefinition) (fs : List GFrame) : Prop := ∀ f, fs.getLast? = some f → 0 ≤ holeB d f
theorem implMove_sat (d : GDefinition) (hls : d.st.length < 1048577) (hlr : d.ru.length < 100000000) (hd : ∀ x, x ∈ d.ru → ruleOk x) (m : GMachine) (ht : tmOk m.fo) (hrg : rng d.st m.fo) (h0 : 0 ≤ m.nx) (hfz : ∀ f, f ∈ m.st → f.t.size < 1048577) (hl : m.st.length < 1048577) (hlast : lastOk d m.st) : implMoveS d m := by
  obtain ⟨⟨k, n, s, ts⟩, nx, fs, rw_⟩ := m
  simp only at ht hrg h0 hfz hl hlast
  by_cases hh : 0 ≤ holeB d ⟨.mk k n s ts, nx⟩
  · exact implMove_A d hls k n s ts nx fs rw_ (by have := ht.1; omega) hfz hl hh
  · by_cases hro : 0 ≤ rootF d (.mk k n s ts)
    · exact implMove_B1 d hls hlr hd k n s ts nx fs rw_ ht hrg h0 hfz hl hh hro
    · rcases List.eq_nil_or_concat fs with rfl | ⟨gs, f, rfl⟩
      · exact implMove_B3 d hls hlr hd k n s ts nx rw_ ht hrg h0 hh hro
      · rw [List.concat_eq_append] at hfz hl hlast ⊢
        exact implMove_B2 d hls hlr hd k n s ts nx gs rw_ ht hrg h0 f hfz hl hh hro (hlast f (by simp))
end Go.Ai
/- A step of a machine, in the reference. -/
namespace Go.Ai
set_option linter.unusedVariables false
set_option linter.unusedSimpArgs false
open Go.Proofs
set_option maxRecDepth 100000

abbrev specMoveS (d : GDefinition) (m : GMachine) : Prop := Sat Tryz.prog 97 [aggV d.enc, aggV m.enc] (.tup [aggV ((moveM d m).getD m).enc, boolV (moveM d m).isSome])
theorem specMove_A (d : GDefinition) (hls : d.st.length < 1048577) (k n : Int) (s : ByteArray) (ts : List Tm) (nx : Int) (fs : List GFrame) (rw_ : Int) (hz : (Tm.mk k n s ts).size < 1048577) (hfz : ∀ f, f ∈ fs → f.t.size < 1048577) (hl : fs.length < 1048577) (hh : 0 ≤ holeB d ⟨.mk k n s ts, nx⟩) : specMoveS d ⟨.mk k n s ts, nx, fs, rw_⟩ := by
  unfold specMoveS
  have hcp := specCopyMO_sat k n s ts nx fs rw_ (by omega) (fun f hf => by have := hfz f hf; omega) (by omega)
  have hho := specHole_sat d hls ⟨.mk k n s ts, nx⟩ hz
  have hcf := l3Copy_sat (.mk k n s ts) hz
  obtain ⟨r, hr⟩ : ∃ r, r = moveM d ⟨.mk k n s ts, nx, fs, rw_⟩ := ⟨_, rfl⟩
  rw [← hr]
  unfold moveM at hr
  simp only [if_pos hh] at hr
  have hhx : ∃ (j : Nat), j < ts.length ∧ holeB d ⟨.mk k n s ts, nx⟩ = (j : Int) := by
    rcases holeX_in (if k = 2 then strictOf d.st s else []) nx ts.length with h | ⟨i, j, _, _, _, hj, h⟩
    · simp only [holeB] at hh; omega
    · exact ⟨j, hj, h⟩
  obtain ⟨j, hj, h⟩ := hhx
  rw [h] at hr hho
  have e1 : ts.getD j zeroT = ts[j] := by rw [List.getD_eq_getElem?_getD, List.getElem?_eq_getElem hj, Option.getD_some]
  simp only [Tm.args, Int.toNat_natCast] at hr
  rw [e1] at hr
  have hct := l3Copy_sat ts[j] (by have := tsize_lt k n s ts j hj; omega)
  have hgt := encs_getD ts j hj
  have hsn := rowsOf_snoc (ec := GFrame.enc) (xs := fs) ⟨.mk k n s ts, nx⟩
  rw [frameEnc] at hsn hho
  simp only [List.map_cons, List.map_nil] at hsn
  generalize ts[j] = a at hr hct hgt
  obtain ⟨ak, an, as', at_⟩ := a
  simp only [Tm.enc] at hgt
  subst hr
  have hln := len_sizes ts
  have hjp : ((j : Int) ≥ 0) = True := eq_true (by omega)
  have hde : d.enc = [.sl (d.si.so.map encS), .sl (d.si.op.map GOp.enc), .sl (d.ru.map GRule.enc), .sl (d.st.map GStrict.enc)] := rfl
  simp only [Option.getD_some, Option.isSome_some, machEnc]
  rw [machEnc] at hcp
  refine sat_of_code tbOk mixed Tryz.func97 rfl rfl rfl (by decide +kernel) (by decide +kernel) (Nat.le_of_ble_eq_true rfl) ?_
  simp -implicitDefEqProofs (disch := omega) only [go_sem, hde]
  refine CallK.out hcp rfl ?_
  simp -implicitDefEqProofs (disch := omega) only [go_sem]
  refine CallK.mk hho ?_
  simp -implicitDefEqProofs (disch := omega) only [go_sem, List.length_map, hgt, hj, enc_len]
  refine CallK.mk hcf ?_
  simp -implicitDefEqProofs (disch := omega) only [go_sem, Tm.enc]
  refine ⟨⟨by simp, by omega, by omega⟩, fun _ => ?_⟩
  simp -implicitDefEqProofs (disch := omega) only [go_sem, hgt, hj, enc_len]
  refine CallK.mk hct ?_
  simp -implicitDefEqProofs (disch := omega) only [go_sem, hsn, rowsOf_toC, Tm.enc, rowsOf_len]
  rfl
theorem specMove_B1 (d : GDefinition) (hls : d.st.length < 1048577) (hlr : d.ru.length < 100000000) (hd : ∀ x, x ∈ d.ru → ruleOk x ∧ ruleB d.si x = true) (k n : Int) (s : ByteArray) (ts : List Tm) (nx : Int) (fs : List GFrame) (rw_ : Int) (ht : tmOk (.mk k n s ts)) (hfz : ∀ f, f ∈ fs → f.t.size < 1048577) (hl : fs.length < 1048577) (hh : ¬ 0 ≤ holeB d ⟨.mk k n s ts, nx⟩) (hro : 0 ≤ rootF d (.mk k n s ts)) : specMoveS d ⟨.mk k n s ts, nx, fs, rw_⟩ := by
  unfold specMoveS
  have hcp := specCopyM_sat ⟨.mk k n s ts, nx, fs, rw_⟩ (by have := ht.1; simp only; omega) (fun f hf => by have := hfz f hf; omega) (by simp only; omega)
  have hho := specHole_sat d hls ⟨.mk k n s ts, nx⟩ (by have := ht.1; simp only; omega)
  have hrt := specRoot_sat d hlr (fun x hx => (hd x hx).1) (.mk k n s ts) ht
  have hre : rootI (fun x => (fireS x (.mk k n s ts)).2) d.ru 0 = rootF d (.mk k n s ts) := rootI_congr _ _ _ _ (fun x hx => fire_same d.si x _ (hd x hx).2)
  rw [hre] at hrt
  obtain ⟨r, hr⟩ : ∃ r, r = moveM d ⟨.mk k n s ts, nx, fs, rw_⟩ := ⟨_, rfl⟩
  rw [← hr]
  unfold moveM at hr
  simp only [if_neg hh, if_pos hro] at hr
  obtain ⟨j, hj, e1, e2, e3⟩ := root_at d (.mk k n s ts) hro
  have hdo := specDo_sat d hlr hd (.mk k n s ts) (by have := ht.1; omega) ((j : Int), []) ⟨by simp, j, hj, .mk k n s ts, rfl, rfl, ht, e2⟩
  have hdv : doB d (.mk k n s ts) ((j : Int), []) = fireT d.ru[j] (.mk k n s ts) := by
    unfold doB
    simp [putp, atp, List.getD, hj]
  rw [hdv] at hdo
  rw [e3] at hr
  rw [e1] at hrt
  generalize fireT d.ru[j] (.mk k n s ts) = v at hr hdo
  generalize v.valid = vb at hdo
  obtain ⟨vk, vn, vs, vt⟩ := v
  subst hr
  rw [frameEnc] at hho
  have hjp : ((j : Int) ≥ 0) = True := eq_true (by omega)
  generalize holeB d ⟨.mk k n s ts, nx⟩ = h at hho hh
  have hhp : (h ≥ 0) = False := eq_false (by omega)
  have hde : d.enc = [.sl (d.si.so.map encS), .sl (d.si.op.map GOp.enc), .sl (d.ru.map GRule.enc), .sl (d.st.map GStrict.enc)] := rfl
  simp only [Option.getD_some, Option.isSome_some, machEnc]
  rw [machEnc] at hcp
  refine sat_of_code tbOk mixed Tryz.func97 rfl rfl rfl (by decide +kernel) (by decide +kernel) (Nat.le_of_ble_eq_true rfl) ?_
  simp -implicitDefEqProofs (disch := omega) only [go_sem, hde]
  refine CallK.mk hcp ?_
  simp -implicitDefEqProofs (disch := omega) only [go_sem]
  refine CallK.mk hho ?_
  simp -implicitDefEqProofs (disch := omega) only [go_sem, List.length_map, hhp]
  refine CallK.mk hrt ?_
  simp -implicitDefEqProofs (disch := omega) only [go_sem, List.length_map]
  refine CallK.mk hdo ?_
  simp -implicitDefEqProofs (disch := omega) only [go_sem, Tm.enc]
  rfl
theorem specMove_B3 (d : GDefinition) (hls : d.st.length < 1048577) (hlr : d.ru.length < 100000000) (hd : ∀ x, x ∈ d.ru → ruleOk x ∧ ruleB d.si x = true) (k n : Int) (s : ByteArray) (ts : List Tm) (nx : Int) (rw_ : Int) (ht : tmOk (.mk k n s ts)) (hh : ¬ 0 ≤ holeB d ⟨.mk k n s ts, nx⟩) (hro : ¬ 0 ≤ rootF d (.mk k n s ts)) : specMoveS d ⟨.mk k n s ts, nx, [], rw_⟩ := by
  unfold specMoveS
  have hcp := specCopyM_sat ⟨.mk k n s ts, nx, [], rw_⟩ (by have := ht.1; simp only; omega) (fun f hf => by cases hf) (by simp)
  have hho := specHole_sat d hls ⟨.mk k n s ts, nx⟩ (by have := ht.1; simp only; omega)
  have hrt := specRoot_sat d hlr (fun x hx => (hd x hx).1) (.mk k n s ts) ht
  have hre : rootI (fun x => (fireS x (.mk k n s ts)).2) d.ru 0 = rootF d (.mk k n s ts) := rootI_congr _ _ _ _ (fun x hx => fire_same d.si x _ (hd x hx).2)
  rw [hre] at hrt
  obtain ⟨r, hr⟩ : ∃ r, r = moveM d ⟨.mk k n s ts, nx, [], rw_⟩ := ⟨_, rfl⟩
  rw [← hr]
  unfold moveM at hr
  simp only [if_neg hh, if_neg hro, List.getLast?_nil] at hr
  subst hr
  rw [frameEnc] at hho
  generalize holeB d ⟨.mk k n s ts, nx⟩ = h at hho hh
  generalize rootF d (.mk k n s ts) = ro at hrt hro
  have hhp : (h ≥ 0) = False := eq_false (by omega)
  have hrn : (ro ≥ 0) = False := eq_false (by omega)
  have hde : d.enc = [.sl (d.si.so.map encS), .sl (d.si.op.map GOp.enc), .sl (d.ru.map GRule.enc), .sl (d.st.map GStrict.enc)] := rfl
  simp only [Option.getD_none, Option.isSome_none, machEnc]
  rw [machEnc] at hcp
  refine sat_of_code tbOk mixed Tryz.func97 rfl rfl rfl (by decide +kernel) (by decide +kernel) (Nat.le_of_ble_eq_true rfl) ?_
  simp -implicitDefEqProofs (disch := omega) only [go_sem, hde]
  refine CallK.mk hcp ?_
  simp -implicitDefEqProofs (disch := omega) only [go_sem]
  refine CallK.mk hho ?_
  simp -implicitDefEqProofs (disch := omega) only [go_sem, List.length_map, hhp]
  refine CallK.mk hrt ?_
  simp -implicitDefEqProofs (disch := omega) only [go_sem, hrn, List.length_map, List.map_nil, List.length_nil]
  exact ⟨fun _ => rfl, fun h => by simp at h⟩
theorem specMove_B2 (d : GDefinition) (hls : d.st.length < 1048577) (hlr : d.ru.length < 100000000) (hd : ∀ x, x ∈ d.ru → ruleOk x ∧ ruleB d.si x = true) (k n : Int) (s : ByteArray) (ts : List Tm) (nx : Int) (fs : List GFrame) (rw_ : Int) (ht : tmOk (.mk k n s ts)) (f : GFrame) (hfz : ∀ g, g ∈ fs ++ [f] → g.t.size < 1048577) (hl : (fs ++ [f]).length < 1048577) (hh : ¬ 0 ≤ holeB d ⟨.mk k n s ts, nx⟩) (hro : ¬ 0 ≤ rootF d (.mk k n s ts)) (hhf : 0 ≤ holeB d f) : specMoveS d ⟨.mk k n s ts, nx, fs ++ [f], rw_⟩ := by
  unfold specMoveS
  have hcp := specCopyM_sat ⟨.mk k n s ts, nx, fs ++ [f], rw_⟩ (by have := ht.1; simp only; omega) (fun f hf => by have := hfz f hf; omega) (by simp only; omega)
  have hho := specHole_sat d hls ⟨.mk k n s ts, nx⟩ (by have := ht.1; simp only; omega)
  have hrt := specRoot_sat d hlr (fun x hx => (hd x hx).1) (.mk k n s ts) ht
  have hre : rootI (fun x => (fireS x (.mk k n s ts)).2) d.ru 0 = rootF d (.mk k n s ts) := rootI_congr _ _ _ _ (fun x hx => fire_same d.si x _ (hd x hx).2)
  rw [hre] at hrt
  have hcf := l3Copy_sat (.mk k n s ts) (by have := ht.1; omega)
  obtain ⟨r, hr⟩ : ∃ r, r = moveM d ⟨.mk k n s ts, nx, fs ++ [f], rw_⟩ := ⟨_, rfl⟩
  rw [← hr]
  unfold moveM at hr
  simp only [if_neg hh, if_neg hro, List.getLast?_append, List.getLast?_singleton, Option.some_or, List.dropLast_concat] at hr
  have hzf := hfz f (by simp)
  have hf2 := specHole_sat d hls f hzf
  obtain ⟨⟨fk, fn, fss, ft⟩, fx⟩ := f
  have hco := l3CopyO_sat fk fn fss ft hzf
  have hhx : ∃ (j : Nat), j < ft.length ∧ holeB d ⟨.mk fk fn fss ft, fx⟩ = (j : Int) ∧ 0 ≤ fx ∧ fx < 1048577 := by
    rcases holeX_in (if fk = 2 then strictOf d.st fss else []) fx ft.length with h | ⟨i, j, e, hi, _, hj, h⟩
    · simp only [holeB] at hhf; omega
    · have : (if fk = 2 then strictOf d.st fss else []).length ≤ d.st.length := by
        split
        · have := strictOf_len d.st fss d.st.length
          rwa [List.take_length] at this
        · simp
      exact ⟨j, hj, h, by omega, by omega⟩
  obtain ⟨j, hj, hjh, hfx0, hfx1⟩ := hhx
  have hfb : fillB d ⟨.mk fk fn fss ft, fx⟩ (.mk k n s ts) = some (.mk fk fn fss (ft.set j (.mk k n s ts))) := by
    unfold fillB fillH
    rw [hjh, if_neg (by omega)]
    rfl
  rw [hjh] at hf2
  rw [hfb] at hr
  simp only [Option.map_some] at hr
  subst hr
  rw [frameEnc] at hho hf2
  generalize holeB d ⟨.mk k n s ts, nx⟩ = h at hho hh
  generalize rootF d (.mk k n s ts) = ro at hrt hro
  have hhp : (h ≥ 0) = False := eq_false (by omega)
  have hrn : (ro ≥ 0) = False := eq_false (by omega)
  have hg := map_getD (ec := GFrame.enc) (xs := fs ++ [⟨.mk fk fn fss ft, fx⟩]) (i := fs.length) (by simp)
  rw [List.getElem_append_right (Nat.le_refl _)] at hg
  simp only [Nat.sub_self, List.getElem_cons_zero] at hg
  rw [frameEnc] at hg
  have hgr := rowsOf_get (ec := Tm.enc) hj
  generalize ft[j] = a at hgr
  obtain ⟨ak, an, as', at_⟩ := a
  simp only [Tm.enc, List.map_cons, List.map_nil] at hgr
  have hst := rowsOf_set ft j k n s ts
  have hde : d.enc = [.sl (d.si.so.map encS), .sl (d.si.op.map GOp.enc), .sl (d.ru.map GRule.enc), .sl (d.st.map GStrict.enc)] := rfl
  have hll : (fs ++ [(⟨.mk fk fn fss ft, fx⟩ : GFrame)]).length = fs.length + 1 := by simp
  rw [hll] at hl
  have ei : ((fs.length + 1 : Nat) : Int) - 1 = (fs.length : Int) := by omega
  have hne : (((fs.length + 1 : Nat) : Int) == 0) = false := by simp; omega
  have htk : ((fs ++ [(⟨.mk fk fn fss ft, fx⟩ : GFrame)]).map GFrame.enc).take fs.length = fs.map GFrame.enc := by
    rw [List.map_append, List.take_left' (by simp)]
  simp only [Option.getD_some, Option.isSome_some, machEnc]
  rw [machEnc] at hcp
  refine sat_of_code tbOk mixed Tryz.func97 rfl rfl rfl (by decide +kernel) (by decide +kernel) (Nat.le_of_ble_eq_true rfl) ?_
  simp -implicitDefEqProofs (disch := omega) only [go_sem, hde]
  refine CallK.mk hcp ?_
  simp -implicitDefEqProofs (disch := omega) only [go_sem]
  refine CallK.mk hho ?_
  simp -implicitDefEqProofs (disch := omega) only [go_sem, List.length_map, hhp]
  refine CallK.mk hrt ?_
  simp -implicitDefEqProofs (disch := omega) only [go_sem, hrn, List.length_map, hll, ei, hne, hg]
  refine ⟨by omega, fun _ => CallK.mk hf2 ?_⟩
  simp -implicitDefEqProofs (disch := omega) only [go_sem, List.length_map, hll, ei, hg, htk]
  refine ⟨⟨by omega, fun r hr => ?_⟩, fun _ => ?_⟩
  · obtain ⟨g, _, rfl⟩ := List.mem_map.1 hr
    exact frame_len g
  refine ⟨by omega, fun _ => CallK.out hco rfl ?_⟩
  simp -implicitDefEqProofs (disch := omega) only [go_sem]
  refine CallK.mk hcf ?_
  simp -implicitDefEqProofs (disch := omega) only [go_sem, Tm.enc, hgr, hj, hst, rowsOf_len, List.length_map, hll, ei, hg, rowsOf_toC]
  exact ⟨by simp, fun _ => ⟨by omega, fun _ => ⟨by simp, by rw [encs_map]; rfl⟩⟩⟩
theorem specMove_sat (d : GDefinition) (hls : d.st.length < 1048577) (hlr : d.ru.length < 100000000) (hd : ∀ x, x ∈ d.ru → ruleOk x ∧ ruleB d.si x = true) (m : GMachine) (ht : tmOk m.fo) (hfz : ∀ f, f ∈ m.st → f.t.size < 1048577) (hl : m.st.length < 1048577) (hlast : lastOk d m.st) : specMoveS d m := by
  obtain ⟨⟨k, n, s, ts⟩, nx, fs, rw_⟩ := m
  simp only at ht hfz hl hlast
  by_cases hh : 0 ≤ holeB d ⟨.mk k n s ts, nx⟩
  · exact specMove_A d hls k n s ts nx fs rw_ (by have := ht.1; omega) hfz hl hh
  · by_cases hro : 0 ≤ rootF d (.mk k n s ts)
    · exact specMove_B1 d hls hlr hd k n s ts nx fs rw_ ht hfz hl hh hro
    · rcases List.eq_nil_or_concat fs with rfl | ⟨gs, f, rfl⟩
      · exact specMove_B3 d hls hlr hd k n s ts nx rw_ ht hh hro
      · rw [List.concat_eq_append] at hfz hl hlast ⊢
        exact specMove_B2 d hls hlr hd k n s ts nx gs rw_ ht f hfz hl hh hro (hlast f (by simp))
end Go.Ai
/- StepMachine on both sides. -/
namespace Go.Ai
set_option linter.unusedVariables false
set_option linter.unusedSimpArgs false
open Go.Proofs
set_option maxRecDepth 100000

def stepMB (d : GDefinition) (m : GMachine) : GMachine × Bool :=
  if (machB d m).isSome && decide (0 ≤ m.nx) && cfgB d m.fo then
    match moveM d m with
    | none => (m, false)
    | some m' => if ((machB d m').getD zeroT).valid && (machB d m').isSome then (m', true) else (m, false)
  else (m, false)
theorem mach_last (d : GDefinition) (m : GMachine) (h : (machB d m).isSome = true) : lastOk d m.st := by
  intro f hf
  rcases List.eq_nil_or_concat m.st with e | ⟨gs, g, e⟩
  · rw [e] at hf; cases hf
  · rw [List.concat_eq_append] at e
    rw [e] at hf
    simp only [List.getLast?_append, List.getLast?_singleton, Option.some_or, Option.some.injEq] at hf
    subst hf
    unfold machB at h
    rw [e, List.reverse_append] at h
    simp only [List.reverse_cons, List.reverse_nil, List.nil_append, List.singleton_append, mterm] at h
    rcases Int.lt_or_le (holeB d g) 0 with hlt | hge
    · unfold fillB fillH at h
      rw [if_pos hlt] at h
      cases h
    · exact hge
theorem move_ok (d : GDefinition) (hd : ∀ x, x ∈ d.ru → ruleOk x) (m : GMachine) (hw : m.wf) (ht : tmOk m.fo) (hz : m.size < 1048577) (hsl : d.st.length < 1048577) (m' : GMachine) (h : moveM d m = some m') : m'.fo.size < 2000000 ∧ (∀ f, f ∈ m'.st → f.t.size < 1048577) ∧ m'.st.length < 2000000 ∧ m'.wf ∧ m'.size ≤ 1300000 := by
  have hfz := mach_fz m hz
  obtain ⟨⟨k, n, s, ts⟩, nx, fs, rw_⟩ := m
  simp only at ht hfz
  have ht1 := ht.1
  have hwf := hw
  obtain ⟨w1, w2, w3, w4⟩ := hw
  have hz' := hz
  simp only [GMachine.size, szI] at hz'
  have hlen := len_szL GFrame.size fs
  unfold moveM at h
  by_cases hh : 0 ≤ holeB d ⟨.mk k n s ts, nx⟩
  · simp only [if_pos hh] at h
    cases h
    rcases holeX_in (if k = 2 then strictOf d.st s else []) nx ts.length with h | ⟨i, j, _, _, _, hj, h⟩
    · simp only [holeB] at hh; omega
    have hjj : holeB d ⟨.mk k n s ts, nx⟩ = (j : Int) := h
    have e1 : ts.getD j zeroT = ts[j] := by rw [List.getD_eq_getElem?_getD, List.getElem?_eq_getElem hj, Option.getD_some]
    simp only [Tm.args]
    rw [hjj, Int.toNat_natCast, e1]
    have hs := tsize_lt k n s ts j hj
    have hwt := (wfs_iff ts).1 w1.2.2.2.2 _ (List.getElem_mem hj)
    refine ⟨by omega, fun f hf => ?_, by simp; omega, ⟨hwt, wfI_of 0 (by omega) (by omega), ⟨?_, fun f hf => ?_⟩, w4⟩, ?_⟩
    · rcases List.mem_append.1 hf with hf | hf
      · exact hfz.1 f hf
      · rw [List.mem_singleton.1 hf]; simp only; omega
    · simp only [List.length_append, List.length_singleton, maxLen]; omega
    · rcases List.mem_append.1 hf with hf | hf
      · exact w3.2 f hf
      · rw [List.mem_singleton.1 hf]; exact ⟨w1, w2⟩
    · simp only [GMachine.size, szL_app, szL, GFrame.size, szI]; omega
  · simp only [if_neg hh] at h
    by_cases hro : 0 ≤ rootF d (.mk k n s ts)
    · simp only [if_pos hro] at h
      cases h
      obtain ⟨j, hj, e1, e2, e3⟩ := root_at d (.mk k n s ts) hro
      have hfo := fireT_ok d.ru[j] (hd _ (List.getElem_mem hj)) (.mk k n s ts) ht e2
      rw [e3]
      refine ⟨by simp only; omega, hfz.1, by simp only; omega, ⟨hfo.2, wfI_of 0 (by omega) (by omega), w3, ?_⟩, ?_⟩
      · show (Lit.int .i64 (IntKind.i64.wrap (rw_ + 1))).wf = true
        rw [IntWalk.i64_left]
        exact RowKit.wrap64_wf _
      · simp only [GMachine.size, szI]; omega
    · simp only [if_neg hro] at h
      rcases List.eq_nil_or_concat fs with rfl | ⟨gs, f, rfl⟩
      · simp at h
      · rw [List.concat_eq_append] at h hfz hz' w3 hlen
        simp only [List.getLast?_append, List.getLast?_singleton, Option.some_or, List.dropLast_concat] at h
        cases hf : fillB d f (.mk k n s ts) with
        | none => rw [hf] at h; cases h
        | some u =>
          rw [hf] at h
          cases h
          have h1 := fillB_size d f _ u hf
          have hff := w3.2 f (by simp)
          have h2 := fillB_wf d f _ u hff.1 w1 hf
          have h3 := hfz.1 f (by simp)
          rw [szL_app] at hz'
          simp only [szL, GFrame.size, szI] at hz'
          simp only [List.length_append, List.length_singleton] at hlen hfz
          have hfx : 0 ≤ f.nx ∧ f.nx < 1048577 := by
            obtain ⟨⟨fk, fn, fss, ft⟩, fx⟩ := f
            unfold fillB fillH at hf
            split at hf
            · cases hf
            · rename_i hn
              rcases holeX_in (if fk = 2 then strictOf d.st fss else []) fx ft.length with h | ⟨i, j, e, hi, _, _, h⟩
              · simp only [holeB] at hn; omega
              · have : (if fk = 2 then strictOf d.st fss else []).length ≤ d.st.length := by
                  split
                  · have := strictOf_len d.st fss d.st.length
                    rwa [List.take_length] at this
                  · simp
                simp only; omega
          refine ⟨by simp only; omega, fun g hg => hfz.1 g (by simp [hg]), by simp only; omega, ⟨h2, wfI_of _ (by simp only; omega) (by simp only; omega), ⟨by simp only [maxLen]; omega, fun g hg => w3.2 g (by simp [hg])⟩, w4⟩, ?_⟩
          simp only [GMachine.size, szI]; omega
theorem zeroT_bad : zeroT.valid = false := by decide +kernel
theorem specStepM_sat (d : GDefinition) (hw : d.wf) (hs : d.size < 1048577) (m : GMachine) (hwm : m.wf) (hz : m.size < 1048577) : Sat Tryz.prog 44 [aggV d.enc, aggV m.enc] (.tup [aggV (stepMB d m).1.enc, boolV (stepMB d m).2]) := by
  have hl := len_szL GRule.size d.ru
  have hl2 := len_szL GStrict.size d.st
  have hs' := hs
  simp only [GDefinition.size] at hs'
  have hfz := mach_fz m hz
  have hfo : m.fo.size < 1048577 := by simp only [GMachine.size] at hz; omega
  have hmt := specMachineTerm_sat d (by omega) m hz
  have hcf := specCfg_sat d hs m.fo (by omega)
  have hcp := specCopyM_sat m (by omega) (fun f hf => by have := hfz.1 f hf; omega) (by omega)
  have hok := cfg_ok d hw m.fo hwm.1
  have hmv := fun (h1 : (machB d m).isSome = true) (h : cfgB d m.fo = true) => specMove_sat d (by omega) (by omega) (fun x hx => ⟨(hok h).1 x hx, (hok h).2.2 x hx⟩) m (hok h).2.1 hfz.1 hfz.2 (mach_last d m h1)
  have hmo := fun (h : cfgB d m.fo = true) m' (hm : moveM d m = some m') => move_ok d (hok h).1 m hwm (hok h).2.1 hz (by omega) m' hm
  have hm2 := fun (h : cfgB d m.fo = true) m' (hm : moveM d m = some m') => specMachineTermG_sat d (by omega) m' (by have := (hmo h m' hm).1; omega) (hmo h m' hm).2.1 (hmo h m' hm).2.2.1
  have hva := fun (h : cfgB d m.fo = true) m' (hm : moveM d m = some m') => specValid_sat ((machB d m').getD zeroT) (by have := (machB_ok d m' (hmo h m' hm).2.2.2.1).1; have := (hmo h m' hm).2.2.2.2; omega)
  obtain ⟨r, hr⟩ : ∃ r, r = stepMB d m := ⟨_, rfl⟩
  rw [← hr]
  unfold stepMB at hr
  have hde : d.enc = [.sl (d.si.so.map encS), .sl (d.si.op.map GOp.enc), .sl (d.ru.map GRule.enc), .sl (d.st.map GStrict.enc)] := rfl
  clear hmo hok
  by_cases hg : ((machB d m).isSome && decide (0 ≤ m.nx) && cfgB d m.fo) = true
  · rw [if_pos hg] at hr
    simp only [Bool.and_eq_true, decide_eq_true_eq] at hg
    obtain ⟨⟨g1, g2⟩, g3⟩ := hg
    have hmv := hmv g1 g3
    have hm2 := hm2 g3
    have hva := hva g3
    rw [g1] at hmt
    rw [g3] at hcf
    unfold specMoveS at hmv
    generalize (machB d m).getD zeroT = t1 at hmt
    obtain ⟨t1k, t1n, t1s, t1t⟩ := t1
    cases hq : moveM d m with
    | none =>
      rw [hq] at hr hmv
      subst hr
      clear hm2 hva hq hfz
      obtain ⟨⟨k, n, s, ts⟩, nx, fs, rw_⟩ := m
      rw [machEnc] at *
      have hnx : ¬ nx < 0 := by simp only at g2; omega
      simp only [Option.getD_none, Option.isSome_none, machEnc] at hmv ⊢
      refine sat_of_code tbOk mixed Tryz.func44 rfl rfl rfl (by decide +kernel) (by decide +kernel) (Nat.le_of_ble_eq_true rfl) ?_
      simp -implicitDefEqProofs (disch := omega) only [go_sem, hde]
      refine CallK.mk hmt ?_
      simp -implicitDefEqProofs (disch := omega) only [go_sem, Tm.enc]
      refine CallK.mk hcf ?_
      simp -implicitDefEqProofs (disch := omega) only [go_sem, hnx]
      refine CallK.mk hmv ?_
      simp -implicitDefEqProofs (disch := omega) only [go_sem]
      refine CallK.mk hmt ?_
      simp -implicitDefEqProofs (disch := omega) only [go_sem, Tm.enc]
      refine CallK.mk hcp ?_
      simp -implicitDefEqProofs (disch := omega) only [go_sem]
      rfl
    | some m' =>
      have hm2 := hm2 m' hq
      have hva := hva m' hq
      rw [hq] at hr hmv
      simp only at hr
      clear hq hfz
      have hzb : (machB d m').isSome = false → ((machB d m').getD zeroT).valid = false := by
        intro h
        cases hx : machB d m' with
        | none => exact zeroT_bad
        | some u => rw [hx] at h; cases h
      generalize (machB d m').isSome = b1 at hr hm2 hzb
      generalize (machB d m').getD zeroT = t2 at hr hm2 hva hzb
      generalize t2.valid = b2 at hr hva hzb
      obtain ⟨⟨k, n, s, ts⟩, nx, fs, rw_⟩ := m
      obtain ⟨⟨k', n', s', ts'⟩, nx', fs', rw_'⟩ := m'
      obtain ⟨t2k, t2n, t2s, t2t⟩ := t2
      have hnx : ¬ nx < 0 := by simp only at g2; omega
      simp only [Option.getD_some, Option.isSome_some, machEnc] at hmv hcp hmt hm2 ⊢
      refine sat_of_code tbOk mixed Tryz.func44 rfl rfl rfl (by decide +kernel) (by decide +kernel) (Nat.le_of_ble_eq_true rfl) ?_
      simp -implicitDefEqProofs (disch := omega) only [go_sem, hde]
      refine CallK.mk hmt ?_
      simp -implicitDefEqProofs (disch := omega) only [go_sem, Tm.enc]
      refine CallK.mk hcf ?_
      simp -implicitDefEqProofs (disch := omega) only [go_sem, hnx]
      refine CallK.mk hmv ?_
      simp -implicitDefEqProofs (disch := omega) only [go_sem]
      refine CallK.mk hm2 ?_
      simp -implicitDefEqProofs (disch := omega) only [go_sem, Tm.enc]
      refine CallK.mk hva ?_
      simp -implicitDefEqProofs (disch := omega) only [go_sem]
      refine ⟨fun h => CallK.mk hcp ?_, fun h => ?_⟩
      · subst h
        simp only [Bool.false_and, Bool.false_eq_true, if_false] at hr
        subst hr
        simp -implicitDefEqProofs (disch := omega) only [go_sem]
        rfl
      · subst h
        have : b1 = true := by
          cases b1 with
          | true => rfl
          | false => exact absurd (hzb rfl) (by simp)
        subst this
        simp only [Bool.and_self, if_true] at hr
        subst hr
        rfl
  · rw [if_neg hg] at hr
    subst hr
    clear hmv hm2 hva hfz
    generalize (machB d m).isSome = b1 at hmt hg
    generalize (machB d m).getD zeroT = t1 at hmt
    generalize cfgB d m.fo = b2 at hcf hg
    obtain ⟨t1k, t1n, t1s, t1t⟩ := t1
    obtain ⟨⟨k, n, s, ts⟩, nx, fs, rw_⟩ := m
    rw [machEnc] at *
    refine sat_of_code tbOk mixed Tryz.func44 rfl rfl rfl (by decide +kernel) (by decide +kernel) (Nat.le_of_ble_eq_true rfl) ?_
    simp -implicitDefEqProofs (disch := omega) only [go_sem, hde]
    refine CallK.mk hmt ?_
    simp -implicitDefEqProofs (disch := omega) only [go_sem, Tm.enc]
    refine CallK.mk hcf ?_
    simp -implicitDefEqProofs (disch := omega) only [go_sem]
    have hend : ∀ (h : ¬ ((b1 && decide (0 ≤ nx) && b2) = true)), True := fun _ => trivial
    refine ⟨fun h2 => ⟨fun h1 => ⟨fun _ => CallK.mk hcp ?_, fun h3 => ?_⟩, fun _ => CallK.mk hcp ?_⟩, fun _ => CallK.mk hcp ?_⟩
    · simp -implicitDefEqProofs (disch := omega) only [go_sem]
      rfl
    · exact (hg (by rw [h1, h2]; simp; omega)).elim
    · simp -implicitDefEqProofs (disch := omega) only [go_sem]
      rfl
    · simp -implicitDefEqProofs (disch := omega) only [go_sem]
      rfl
theorem implStepMF_sat (d : GDefinition) (hw : d.wf) (hs : d.size < 1048577) (m : GMachine) (hwm : m.wf) (hz : m.size < 1048577) : SatF Tryz.prog 46 [aggV d.enc, aggV m.enc] (.tup [aggV (stepMB d m).1.enc, boolV (stepMB d m).2]) := by
  have hl := len_szL GRule.size d.ru
  have hl2 := len_szL GStrict.size d.st
  have hs' := hs
  simp only [GDefinition.size] at hs'
  have hfz := mach_fz m hz
  have hfo : m.fo.size < 1048577 := by simp only [GMachine.size] at hz; omega
  have hmt := implmachineTerm_sat d (by omega) m hz
  have hcf := implCfg_sat d hs m.fo (by omega)
  have hcp := fun k n s ts nx fs rw_ (e : m = ⟨.mk k n s ts, nx, fs, rw_⟩) => implCopyMF_sat k n s ts nx fs rw_ (by rw [e] at hfo; simp only at hfo; omega) (fun f hf => by rw [e] at hfz; have := hfz.1 f hf; omega) (by rw [e] at hfz; have := hfz.2; simp only at this; omega)
  have hok := cfg_ok d hw m.fo hwm.1
  have hrg := cfg_rng d m.fo
  have hmv := fun (h1 : (machB d m).isSome = true) (h0 : 0 ≤ m.nx) (h : cfgB d m.fo = true) => implMove_sat d (by omega) (by omega) (fun x hx => (hok h).1 x hx) m (hok h).2.1 (hrg h) h0 hfz.1 hfz.2 (mach_last d m h1)
  have hmo := fun (h : cfgB d m.fo = true) m' (hm : moveM d m = some m') => move_ok d (hok h).1 m hwm (hok h).2.1 hz (by omega) m' hm
  have hm2 := fun (h : cfgB d m.fo = true) m' (hm : moveM d m = some m') => implmachineTermG_sat d (by omega) m' (hmo h m' hm).2.1 (hmo h m' hm).2.2.1
  have hva := fun (h : cfgB d m.fo = true) m' (hm : moveM d m = some m') => implValid_sat ((machB d m').getD zeroT) (by have := (machB_ok d m' (hmo h m' hm).2.2.2.1).1; have := (hmo h m' hm).2.2.2.2; omega)
  have hc2 := fun (h : cfgB d m.fo = true) m' (hm : moveM d m = some m') k n s ts nx fs rw_ (e : m' = ⟨.mk k n s ts, nx, fs, rw_⟩) => implCopyMF_sat k n s ts nx fs rw_ (by have := (hmo h m' hm).1; rw [e] at this; simp only at this; omega) (fun f hf => by have := (hmo h m' hm).2.1; rw [e] at this; have := this f hf; omega) (by have := (hmo h m' hm).2.2.1; rw [e] at this; exact this)
  obtain ⟨r, hr⟩ : ∃ r, r = stepMB d m := ⟨_, rfl⟩
  rw [← hr]
  unfold stepMB at hr
  have hde : d.enc = [.sl (d.si.so.map encS), .sl (d.si.op.map GOp.enc), .sl (d.ru.map GRule.enc), .sl (d.st.map GStrict.enc)] := rfl
  clear hmo hok hrg
  by_cases hg : ((machB d m).isSome && decide (0 ≤ m.nx) && cfgB d m.fo) = true
  · rw [if_pos hg] at hr
    simp only [Bool.and_eq_true, decide_eq_true_eq] at hg
    obtain ⟨⟨g1, g2⟩, g3⟩ := hg
    have hmv := hmv g1 g2 g3
    have hm2 := hm2 g3
    have hva := hva g3
    have hc2 := hc2 g3
    rw [g1] at hmt
    rw [g3] at hcf
    unfold implMoveS at hmv
    generalize (machB d m).getD zeroT = t1 at hmt
    obtain ⟨t1k, t1n, t1s, t1t⟩ := t1
    cases hq : moveM d m with
    | none =>
      rw [hq] at hr hmv
      subst hr
      clear hm2 hva hc2 hq hfz
      obtain ⟨⟨k, n, s, ts⟩, nx, fs, rw_⟩ := m
      have hcp := hcp k n s ts nx fs rw_ rfl
      simp only [machEnc] at hcp hmt
      have hnx : ¬ nx < 0 := by simp only at g2; omega
      simp only [Option.getD_none, Option.isSome_none, machEnc] at hmv ⊢
      refine satF_of_code [aggV _, boolV false] rfl (fun _ h => by cases h; rfl) tbOk mixed Tryz.func46 rfl rfl rfl (by decide +kernel) (by decide +kernel) (Nat.le_of_ble_eq_true rfl) ?_
      simp -implicitDefEqProofs (disch := omega) only [go_sem, hde]
      refine CallK.mk hmt ?_
      simp -implicitDefEqProofs (disch := omega) only [go_sem, Tm.enc, hnx]
      refine CallK.mk hcf ?_
      simp -implicitDefEqProofs (disch := omega) only [go_sem, hnx]
      refine CallK.mk hmv ?_
      simp -implicitDefEqProofs (disch := omega) only [go_sem]
      refine CallK.own hcp rfl ?_
      simp -implicitDefEqProofs (disch := omega) only [go_sem]
    | some m' =>
      have hm2 := hm2 m' hq
      have hva := hva m' hq
      have hc2 := hc2 m' hq
      rw [hq] at hr hmv
      simp only at hr
      clear hq hfz
      have hzb : (machB d m').isSome = false → ((machB d m').getD zeroT).valid = false := by
        intro h
        cases hx : machB d m' with
        | none => exact zeroT_bad
        | some u => rw [hx] at h; cases h
      generalize (machB d m').isSome = b1 at hr hm2 hzb
      generalize (machB d m').getD zeroT = t2 at hr hm2 hva hzb
      generalize t2.valid = b2 at hr hva hzb
      obtain ⟨⟨k, n, s, ts⟩, nx, fs, rw_⟩ := m
      obtain ⟨⟨k', n', s', ts'⟩, nx', fs', rw_'⟩ := m'
      obtain ⟨t2k, t2n, t2s, t2t⟩ := t2
      have hcp := hcp k n s ts nx fs rw_ rfl
      have hc2 := hc2 k' n' s' ts' nx' fs' rw_' rfl
      have hnx : ¬ nx < 0 := by simp only at g2; omega
      simp only [Option.getD_some, Option.isSome_some, machEnc] at hmv hcp hmt hm2 hc2
      have hb : (b2 && b1) = true ∨ ((b1 = false ∨ b2 = false) ∧ (b2 && b1) = false) := by cases b1 <;> cases b2 <;> simp
      rcases hb with hb | ⟨hb, hb'⟩
      · rw [if_pos hb] at hr
        subst hr
        simp only [Bool.and_eq_true] at hb
        obtain ⟨rfl, rfl⟩ := hb
        simp only [machEnc]
        refine satF_of_code [aggV _, boolV true] rfl (fun _ h => by cases h; rfl) tbOk mixed Tryz.func46 rfl rfl rfl (by decide +kernel) (by decide +kernel) (Nat.le_of_ble_eq_true rfl) ?_
        simp -implicitDefEqProofs (disch := omega) only [go_sem, hde]
        refine CallK.mk hmt ?_
        simp -implicitDefEqProofs (disch := omega) only [go_sem, Tm.enc, hnx]
        refine CallK.mk hcf ?_
        simp -implicitDefEqProofs (disch := omega) only [go_sem, hnx]
        refine CallK.mk hmv ?_
        simp -implicitDefEqProofs (disch := omega) only [go_sem]
        refine CallK.mk hm2 ?_
        simp -implicitDefEqProofs (disch := omega) only [go_sem, Tm.enc]
        refine CallK.mk hva ?_
        simp -implicitDefEqProofs (disch := omega) only [go_sem]
        refine CallK.own hc2 rfl ?_
        simp -implicitDefEqProofs (disch := omega) only [go_sem]
      · rw [if_neg (by rw [hb']; simp)] at hr
        subst hr
        simp only [machEnc]
        refine satF_of_code [aggV _, boolV false] rfl (fun _ h => by cases h; rfl) tbOk mixed Tryz.func46 rfl rfl rfl (by decide +kernel) (by decide +kernel) (Nat.le_of_ble_eq_true rfl) ?_
        simp -implicitDefEqProofs (disch := omega) only [go_sem, hde]
        refine CallK.mk hmt ?_
        simp -implicitDefEqProofs (disch := omega) only [go_sem, Tm.enc, hnx]
        refine CallK.mk hcf ?_
        simp -implicitDefEqProofs (disch := omega) only [go_sem, hnx]
        refine CallK.mk hmv ?_
        simp -implicitDefEqProofs (disch := omega) only [go_sem]
        refine CallK.mk hm2 ?_
        simp -implicitDefEqProofs (disch := omega) only [go_sem, Tm.enc]
        refine ⟨fun h1 => CallK.mk hva ?_, fun h1 => CallK.own hcp rfl ?_⟩
        · have h2 : b2 = false := hb.resolve_left (by rw [h1]; simp)
          subst h2
          simp -implicitDefEqProofs (disch := omega) only [go_sem]
          refine CallK.own hcp rfl ?_
          simp -implicitDefEqProofs (disch := omega) only [go_sem]
        · simp -implicitDefEqProofs (disch := omega) only [go_sem]
  · rw [if_neg hg] at hr
    subst hr
    clear hmv hm2 hva hfz hc2
    generalize (machB d m).isSome = b1 at hmt hg
    generalize (machB d m).getD zeroT = t1 at hmt
    generalize cfgB d m.fo = b2 at hcf hg
    obtain ⟨t1k, t1n, t1s, t1t⟩ := t1
    obtain ⟨⟨k, n, s, ts⟩, nx, fs, rw_⟩ := m
    have hcp := hcp k n s ts nx fs rw_ rfl
    simp only [machEnc] at hcp hmt ⊢
    refine satF_of_code [aggV _, boolV false] rfl (fun _ h => by cases h; rfl) tbOk mixed Tryz.func46 rfl rfl rfl (by decide +kernel) (by decide +kernel) (Nat.le_of_ble_eq_true rfl) ?_
    simp -implicitDefEqProofs (disch := omega) only [go_sem, hde]
    refine CallK.mk hmt ?_
    simp -implicitDefEqProofs (disch := omega) only [go_sem, Tm.enc]
    refine ⟨fun h1 => ⟨fun h3 => CallK.mk hcf ?_, fun _ => CallK.own hcp rfl ?_⟩, fun _ => CallK.own hcp rfl ?_⟩
    · have h2 : b2 = false := by
        cases b2 with
        | false => rfl
        | true => exact (hg (by rw [h1]; simp; omega)).elim
      subst h2
      simp -implicitDefEqProofs (disch := omega) only [go_sem]
      refine CallK.own hcp rfl ?_
      simp -implicitDefEqProofs (disch := omega) only [go_sem]
    · simp -implicitDefEqProofs (disch := omega) only [go_sem]
    · simp -implicitDefEqProofs (disch := omega) only [go_sem]
theorem stepMB_ok (d : GDefinition) (hw : d.wf) (hs : d.size < 1048577) (m : GMachine) (hwm : m.wf) (hz : m.size < 1048577) : (stepMB d m).1.size ≤ 1300000 ∧ (stepMB d m).1.wf := by
  have hl2 := len_szL GStrict.size d.st
  simp only [GDefinition.size] at hs
  unfold stepMB
  split
  · rename_i hg
    simp only [Bool.and_eq_true, decide_eq_true_eq] at hg
    have hok := cfg_ok d hw m.fo hwm.1 hg.2
    cases hm : moveM d m with
    | none => exact ⟨by simp only; omega, hwm⟩
    | some m' =>
      have := move_ok d hok.1 m hwm hok.2.1 hz (by omega) m' hm
      simp only
      split
      · exact ⟨this.2.2.2.2, this.2.2.2.1⟩
      · exact ⟨by simp only; omega, hwm⟩
  · exact ⟨by simp only; omega, hwm⟩
end Go.Ai
