/- Normal forms of a space, on both sides. -/
import Derived.Test.YtofbieojmaobfaaGreatAiP8
import Derived.Test.YtofbieojmaobfaaGreatAiX2
namespace Go.Ai
set_option linter.unusedVariables false
set_option linter.unusedSimpArgs false
open Go.Proofs
set_option maxRecDepth 100000

def nfOf (p : Tm → Bool) : List Tm → Nat → List Int
  | [], _ => []
  | t :: ts, i => if p t = true then (i : Int) :: nfOf p ts (i + 1) else nfOf p ts (i + 1)
theorem nfOf_snoc (p : Tm → Bool) (t : Tm) : ∀ (ts : List Tm) (i : Nat), nfOf p (ts ++ [t]) i = nfOf p ts i ++ (if p t = true then [((i + ts.length : Nat) : Int)] else [])
  | [], i => by simp only [List.nil_append, nfOf]; split <;> simp
  | s :: ts, i => by
    simp only [List.cons_append, nfOf, nfOf_snoc p t ts (i + 1), List.length_cons]
    rw [show i + 1 + ts.length = i + (ts.length + 1) by omega]
    split <;> simp
theorem nfOf_take (p : Tm → Bool) (ts : List Tm) (i : Nat) (h : i < ts.length) : nfOf p (ts.take (i + 1)) 0 = nfOf p (ts.take i) 0 ++ (if p ts[i] = true then [(i : Int)] else []) := by
  rw [List.take_succ_eq_append_getElem h, nfOf_snoc, List.length_take]
  simp [Nat.min_eq_left (Nat.le_of_lt h)]
theorem nfOf_len (p : Tm → Bool) : ∀ (ts : List Tm) (i : Nat), (nfOf p ts i).length ≤ ts.length
  | [], _ => by simp [nfOf]
  | t :: ts, i => by
    have := nfOf_len p ts (i + 1)
    simp only [nfOf, List.length_cons]; split <;> simp <;> omega
theorem nfOf_mem (p : Tm → Bool) : ∀ (ts : List Tm) (i : Nat) (n : Int), n ∈ nfOf p ts i → 0 ≤ n ∧ n ≤ i + ts.length
  | [], _, n, h => by cases h
  | t :: ts, i, n, h => by
    have ih := nfOf_mem p ts (i + 1) n
    simp only [nfOf] at h
    split at h
    · rcases List.mem_cons.1 h with rfl | h
      · simp only [List.length_cons]; omega
      · have := ih h; simp only [List.length_cons]; omega
    · have := ih h; simp only [List.length_cons]; omega
def normB (d : GDefinition) (t : Tm) : Bool := cfgB d t && !(nextB d t).isSome
theorem spaceEnc (x : GSpace) : x.enc = [.sl (x.te.map Tm.enc), .sl (x.mo.map GMove.enc), .v (.bool x.fu)] := rfl
theorem specNormalForms_sat (d : GDefinition) (hw : d.wf) (hs : d.size < 1048577) (x : GSpace) (hl : x.te.length < 1048577) (hx : ∀ t, t ∈ x.te → t.wf ∧ t.size < 30000000) : Sat Tryz.prog 17 [aggV d.enc, aggV x.enc] (slV ((nfOf (normB d) x.te 0).map encI)) := by
  have hn := fun i (h : i < x.te.length) => specIsNormal_sat d hw hs x.te[i] (hx _ (List.getElem_mem h)).1 (hx _ (List.getElem_mem h)).2
  have hn : ∀ i (h : i < x.te.length), Sat Tryz.prog 62 [aggV d.enc, tmV x.te[i]] (boolV (normB d x.te[i])) := hn
  rw [spaceEnc]
  obtain ⟨ts, mo, fu⟩ := x
  simp only at hl hn ⊢
  clear hx
  generalize normB d = p at hn ⊢
  obtain ⟨r, hr⟩ : ∃ r, r = nfOf p ts 0 := ⟨_, rfl⟩
  rw [← hr]
  have hde : d.enc = [.sl (d.si.so.map encS), .sl (d.si.op.map GOp.enc), .sl (d.ru.map GRule.enc), .sl (d.st.map GStrict.enc)] := rfl
  rw [hde] at hn ⊢
  refine sat_of_code tbOk mixed Tryz.func17 rfl rfl rfl (by decide +kernel) (by decide +kernel) (Nat.le_of_ble_eq_true rfl) ?_
  simp -implicitDefEqProofs (disch := omega) only [go_sem, ↓reduceIte, reduceCtorEq, Nat.reduceEqDiff, Nat.reduceLT, Nat.reduceLeDiff, Nat.reduceAdd, Nat.reduceSub, Nat.reduceMul]
  refine loopA_rule (ι := Nat) (fun i => mk 27 [(2, .one (.ptr 2 0)), (3, .one (.ptr 3 0)), (5, .one (.own 7 (nfOf p (ts.take i) 0).length)), (6, intV i)] [(2, .var [.c (.sl (d.si.so.map encS)), .c (.sl (d.si.op.map GOp.enc)), .c (.sl (d.ru.map GRule.enc)), .c (.sl (d.st.map GStrict.enc))]), (3, .var [.c (.sl (ts.map Tm.enc)), .c (.sl (mo.map GMove.enc)), .c (.v (.bool fu))]), (7, .arr 3 1 (rowsOf encI (nfOf p (ts.take i) 0)) false)])
    (fun i => i ≤ ts.length) (fun i => ts.length - i) 0 (Nat.zero_le _) ?_ tbOk mixed (by decide +kernel) ?_
  · exact le_mk (by simp [go_sem, nfOf]) (by simp [go_sem, nfOf, rowsOf])
  · intro i hi
    have hln := nfOf_len p (ts.take i) 0
    rw [List.length_take] at hln
    rcases Nat.lt_or_ge i ts.length with hlt | hge
    · have hg := map_getD (ec := Tm.enc) hlt
      have ht := nfOf_take p ts i hlt
      have hni := hn i hlt
      generalize ts[i] = u at hg ht hni
      generalize p u = b at ht hni
      obtain ⟨uk, un, us, ut⟩ := u
      simp only [Tm.enc] at hg
      simp -implicitDefEqProofs (disch := omega) only [go_sem, ↓reduceIte, reduceCtorEq, Nat.reduceEqDiff, Nat.reduceLT, Nat.reduceLeDiff, Nat.reduceAdd, Nat.reduceSub, Nat.reduceMul, hg, hlt, List.length_map]
      refine CallK.mk hni ?_
      simp -implicitDefEqProofs (disch := omega) only [go_sem, ↓reduceIte, reduceCtorEq, Nat.reduceEqDiff, Nat.reduceLT, Nat.reduceLeDiff, Nat.reduceAdd, Nat.reduceSub, Nat.reduceMul, hg, hlt, List.length_map]
      refine ⟨fun h => ⟨⟨by simp, by omega, by omega⟩, fun _ => ⟨i + 1, hlt, by omega, le_mk ?_ ?_⟩⟩, fun h => ⟨i + 1, hlt, by omega, le_mk ?_ ?_⟩⟩
      · simp [go_sem, ht, h]
      · simp [go_sem, ht, h]; exact rowsOf_snoc (ec := encI) (i : Int)
      · simp [go_sem, ht, h]
      · simp [go_sem, ht, h]
    · have : i = ts.length := by omega
      subst this
      simp -implicitDefEqProofs (disch := omega) only [go_sem, ↓reduceIte, reduceCtorEq, Nat.reduceEqDiff, Nat.reduceLT, Nat.reduceLeDiff, Nat.reduceAdd, Nat.reduceSub, Nat.reduceMul, Nat.lt_irrefl, List.take_length, List.length_map]
      rw [hr]
/-- Rows of plain numbers own what they hold. -/
theorem rowsI_isO' (xs : List Int) : ∀ r, r ∈ rowsOf encI xs → ∀ x, x ∈ r → isO x = true := by
  intro r hr x hx
  obtain ⟨y, _, rfl⟩ := List.mem_map.1 hr
  simp [encI] at hx
  subst hx; rfl
theorem rowsS_isO (xs : List ByteArray) : ∀ r, r ∈ rowsOf encS xs → ∀ x, x ∈ r → isO x = true := by
  intro r hr x hx
  obtain ⟨y, _, rfl⟩ := List.mem_map.1 hr
  simp [encS] at hx
  subst hx; rfl

theorem implNormalFormsF_sat (d : GDefinition) (hw : d.wf) (hs : d.size < 1048577) (x : GSpace) (hl : x.te.length < 1048577) (hx : ∀ t, t ∈ x.te → t.wf ∧ t.size < 30000000) : SatF Tryz.prog 18 [aggV d.enc, aggV x.enc] (slV ((nfOf (normB d) x.te 0).map encI)) := by
  have hn := fun i (h : i < x.te.length) => implIsNormal_sat d hw hs x.te[i] (hx _ (List.getElem_mem h)).1 (hx _ (List.getElem_mem h)).2
  have hn : ∀ i (h : i < x.te.length), Sat Tryz.prog 63 [aggV d.enc, tmV x.te[i]] (boolV (normB d x.te[i])) := hn
  rw [spaceEnc]
  obtain ⟨ts, mo, fu⟩ := x
  simp only at hl hn ⊢
  clear hx
  generalize normB d = p at hn ⊢
  obtain ⟨r, hr⟩ : ∃ r, r = nfOf p ts 0 := ⟨_, rfl⟩
  rw [← hr]
  have hde : d.enc = [.sl (d.si.so.map encS), .sl (d.si.op.map GOp.enc), .sl (d.ru.map GRule.enc), .sl (d.st.map GStrict.enc)] := rfl
  rw [hde] at hn ⊢
  refine satF_of_code [slV (r.map encI)] rfl (fun _ h => by cases h) tbOk mixed Tryz.func18 rfl rfl rfl (by decide +kernel) (by decide +kernel) (Nat.le_of_ble_eq_true rfl) ?_
  simp -implicitDefEqProofs (disch := omega) only [go_sem, ↓reduceIte, reduceCtorEq, Nat.reduceEqDiff, Nat.reduceLT, Nat.reduceLeDiff, Nat.reduceAdd, Nat.reduceSub, Nat.reduceMul, List.length_map]
  refine loopA_rule (ι := Nat) (fun i => match nfOf p (ts.take i) 0 with
      | [] => mk 25 [(2, .one (.ptr 2 0)), (9, slV (ts.map Tm.enc)), (5, .one .nil), (10, intV ts.length), (11, intV i)] [(2, .var [.c (.sl (d.si.so.map encS)), .c (.sl (d.si.op.map GOp.enc)), .c (.sl (d.ru.map GRule.enc)), .c (.sl (d.st.map GStrict.enc))])]
      | q :: qs => mk 25 [(2, .one (.ptr 2 0)), (9, slV (ts.map Tm.enc)), (5, .one (.own 22 (q :: qs).length)), (10, intV ts.length), (11, intV i)] [(2, .var [.c (.sl (d.si.so.map encS)), .c (.sl (d.si.op.map GOp.enc)), .c (.sl (d.ru.map GRule.enc)), .c (.sl (d.st.map GStrict.enc))]), (22, .arr 3 1 (rowsOf encI (q :: qs)) false)])
    (fun i => i ≤ ts.length) (fun i => ts.length - i) 0 (Nat.zero_le _) ?_ tbOk mixed (by decide +kernel) ?_
  · exact le_mk (by simp [go_sem]) (by simp [go_sem])
  · intro i hi
    have hln := nfOf_len p (ts.take i) 0
    rw [List.length_take] at hln
    rcases Nat.lt_or_ge i ts.length with hlt | hge
    · have hg := map_getD (ec := Tm.enc) hlt
      have ht := nfOf_take p ts i hlt
      have hni := hn i hlt
      generalize ts[i] = u at hg ht hni
      generalize p u = b at ht hni
      generalize nfOf p (ts.take i) 0 = acc at ht hln
      obtain ⟨uk, un, us, ut⟩ := u
      simp only [Tm.enc] at hg
      cases acc with
      | nil =>
        simp -implicitDefEqProofs (disch := omega) only [go_sem, ↓reduceIte, reduceCtorEq, Nat.reduceEqDiff, Nat.reduceLT, Nat.reduceLeDiff, Nat.reduceAdd, Nat.reduceSub, Nat.reduceMul, hg, hlt, List.length_map]
        refine CallK.mk hni ?_
        simp -implicitDefEqProofs (disch := omega) only [go_sem, ↓reduceIte, reduceCtorEq, Nat.reduceEqDiff, Nat.reduceLT, Nat.reduceLeDiff, Nat.reduceAdd, Nat.reduceSub, Nat.reduceMul, hg, hlt, List.length_map]
        refine ⟨fun h => ⟨by simp, fun _ => ⟨i + 1, hlt, by omega, ?_⟩⟩, fun h => ⟨i + 1, hlt, by omega, ?_⟩⟩
        · have ht : nfOf p (ts.take (i + 1)) 0 = [(i : Int)] := by simpa [h] using ht
          rw [ht]; exact le_mk (by simp [go_sem]) (by simp [go_sem, rowsOf, encI])
        · have ht : nfOf p (ts.take (i + 1)) 0 = [] := by simpa [h] using ht
          rw [ht]; exact le_mk (by simp [go_sem]) (by simp [go_sem])
      | cons q qs =>
        simp only [List.length_cons] at hln
        simp -implicitDefEqProofs (disch := omega) only [go_sem, ↓reduceIte, reduceCtorEq, Nat.reduceEqDiff, Nat.reduceLT, Nat.reduceLeDiff, Nat.reduceAdd, Nat.reduceSub, Nat.reduceMul, hg, hlt, List.length_map]
        refine CallK.mk hni ?_
        simp -implicitDefEqProofs (disch := omega) only [go_sem, ↓reduceIte, reduceCtorEq, Nat.reduceEqDiff, Nat.reduceLT, Nat.reduceLeDiff, Nat.reduceAdd, Nat.reduceSub, Nat.reduceMul, hg, hlt, List.length_map]
        refine ⟨fun h => ⟨⟨by simp, by omega, by omega⟩, fun _ => ⟨i + 1, hlt, by omega, ?_⟩⟩, fun h => ⟨i + 1, hlt, by omega, ?_⟩⟩
        · have ht : nfOf p (ts.take (i + 1)) 0 = q :: (qs ++ [(i : Int)]) := by simpa [h] using ht
          rw [ht]; exact le_mk (by simp [go_sem]) (by simp [go_sem]; exact rowsOf_snoc (ec := encI) (i : Int))
        · have ht : nfOf p (ts.take (i + 1)) 0 = q :: qs := by simpa [h] using ht
          rw [ht]; exact le_mk (by simp [go_sem]) (by simp [go_sem])
    · have : i = ts.length := by omega
      subst this
      rw [List.take_length, ← hr]
      clear hr
      cases r with
      | nil =>
        simp -implicitDefEqProofs (disch := omega) only [go_sem, ↓reduceIte, reduceCtorEq, Nat.reduceEqDiff, Nat.reduceLT, Nat.reduceLeDiff, Nat.reduceAdd, Nat.reduceSub, Nat.reduceMul, Nat.lt_irrefl, List.map_nil]
      | cons q qs =>
        simp -implicitDefEqProofs (disch := omega) only [go_sem, ↓reduceIte, reduceCtorEq, Nat.reduceEqDiff, Nat.reduceLT, Nat.reduceLeDiff, Nat.reduceAdd, Nat.reduceSub, Nat.reduceMul, Nat.lt_irrefl]
        exact rowsI_isO' _
theorem specConfluent_sat (d : GDefinition) (hw : d.wf) (hs : d.size < 1048577) (x : GSpace) (hl : x.te.length < 1048577) (hx : ∀ t, t ∈ x.te → t.wf ∧ t.size < 30000000) : Sat Tryz.prog 11 [aggV d.enc, aggV x.enc] (boolV (x.fu && decide ((nfOf (normB d) x.te 0).length ≤ 1))) := by
  have hn := specNormalForms_sat d hw hs x hl hx
  have hln := nfOf_len (normB d) x.te 0
  generalize nfOf (normB d) x.te 0 = r at hn hln ⊢
  rw [spaceEnc] at hn ⊢
  obtain ⟨ts, mo, fu⟩ := x
  simp only at hl hn hln ⊢
  have hde : d.enc = [.sl (d.si.so.map encS), .sl (d.si.op.map GOp.enc), .sl (d.ru.map GRule.enc), .sl (d.st.map GStrict.enc)] := rfl
  rw [hde] at hn ⊢
  have hlm : (r.map encI).length < 2000000 := by rw [List.length_map]; omega
  refine sat_of_code tbOk mixed Tryz.func11 rfl rfl rfl (by decide +kernel) (by decide +kernel) (Nat.le_of_ble_eq_true rfl) ?_
  simp -implicitDefEqProofs (disch := omega) only [go_sem, ↓reduceIte, reduceCtorEq, Nat.reduceEqDiff, Nat.reduceLT, Nat.reduceLeDiff, Nat.reduceAdd, Nat.reduceSub, Nat.reduceMul]
  refine ⟨fun h => CallK.mk hn ?_, fun h => by rw [h]; rfl⟩
  simp -implicitDefEqProofs (disch := omega) only [go_sem, ↓reduceIte, reduceCtorEq, Nat.reduceEqDiff, Nat.reduceLT, Nat.reduceLeDiff, Nat.reduceAdd, Nat.reduceSub, Nat.reduceMul, List.length_map]
  rw [h, Bool.true_and]; exact decide_eq_decide.2 (by omega)
theorem implConfluent_sat (d : GDefinition) (hw : d.wf) (hs : d.size < 1048577) (x : GSpace) (hl : x.te.length < 1048577) (hx : ∀ t, t ∈ x.te → t.wf ∧ t.size < 30000000) : Sat Tryz.prog 14 [aggV d.enc, aggV x.enc] (boolV (x.fu && decide ((nfOf (normB d) x.te 0).length ≤ 1))) := by
  have hn := (implNormalFormsF_sat d hw hs x hl hx).sat
  have hln := nfOf_len (normB d) x.te 0
  generalize nfOf (normB d) x.te 0 = r at hn hln ⊢
  rw [spaceEnc] at hn ⊢
  obtain ⟨ts, mo, fu⟩ := x
  simp only at hl hn hln ⊢
  have hde : d.enc = [.sl (d.si.so.map encS), .sl (d.si.op.map GOp.enc), .sl (d.ru.map GRule.enc), .sl (d.st.map GStrict.enc)] := rfl
  rw [hde] at hn ⊢
  refine sat_of_code tbOk mixed Tryz.func14 rfl rfl rfl (by decide +kernel) (by decide +kernel) (Nat.le_of_ble_eq_true rfl) ?_
  simp -implicitDefEqProofs (disch := omega) only [go_sem, ↓reduceIte, reduceCtorEq, Nat.reduceEqDiff, Nat.reduceLT, Nat.reduceLeDiff, Nat.reduceAdd, Nat.reduceSub, Nat.reduceMul]
  refine ⟨fun h => CallK.mk hn ?_, fun h => by rw [h]; rfl⟩
  simp -implicitDefEqProofs (disch := omega) only [go_sem, ↓reduceIte, reduceCtorEq, Nat.reduceEqDiff, Nat.reduceLT, Nat.reduceLeDiff, Nat.reduceAdd, Nat.reduceSub, Nat.reduceMul, List.length_map]
  rw [h, Bool.true_and]; exact decide_eq_decide.2 (by omega)
end Go.Ai
/- The law on NormalForms. Written by mk26.py. -/
namespace Go.Ai
set_option linter.unusedVariables false
set_option linter.unusedSimpArgs false
open Go.Proofs Go.RowKit
set_option maxRecDepth 100000

theorem lawNormalForms_sat (d : GDefinition) (x : GSpace) (hw_d : GDefinition.wf d) (hw_x : GSpace.wf x) : Sat Tryz.prog 4 [aggV d.enc, aggV x.enc] (boolV true) := by
  refine sat_of_code tbOk mixed Tryz.func4 rfl rfl rfl (by decide +kernel) (by decide +kernel) (Nat.le_of_ble_eq_true rfl) ?_
  simp -implicitDefEqProofs (disch := omega) only [go_sem, ↓reduceIte, reduceCtorEq, Nat.reduceEqDiff, Nat.reduceLT, Nat.reduceLeDiff, Nat.reduceAdd, Nat.reduceSub, Nat.reduceMul]
  refine CallK.mk (szDefinition_sat d hw_d 1048576 (by grind [szR]) (by grind [szR])) ?_
  simp -implicitDefEqProofs (disch := omega) only [go_sem, ↓reduceIte, reduceCtorEq, Nat.reduceEqDiff, Nat.reduceLT, Nat.reduceLeDiff, Nat.reduceAdd, Nat.reduceSub, Nat.reduceMul]
  intro hz_d
  have hs_d : d.size < 1048577 := by grind [szR]
  refine CallK.mk (szSpace_sat x hw_x _ (by grind [szR]) (by grind [szR])) ?_
  simp -implicitDefEqProofs (disch := omega) only [go_sem, ↓reduceIte, reduceCtorEq, Nat.reduceEqDiff, Nat.reduceLT, Nat.reduceLeDiff, Nat.reduceAdd, Nat.reduceSub, Nat.reduceMul]
  intro hz_x
  have hs_x : x.size < 1048577 := by grind [szR]
  have hsum : d.size + x.size < 1048577 := by grind [szR]
  have hxs : ∀ t, t ∈ x.te → t.wf ∧ t.size < 30000000 := fun t ht => ⟨hw_x.1.2 t ht, by have := szL_mem Tm.size x.te t ht; simp only [GSpace.size] at hs_x; omega⟩
  have hxl : x.te.length < 1048577 := by have := len_szL Tm.size x.te; simp only [GSpace.size] at hs_x; omega
  have hsp := specNormalForms_sat d hw_d hs_d x hxl hxs
  have him := implNormalFormsF_sat d hw_d hs_d x hxl hxs
  have hR := nfOf_len (normB d) x.te 0
  obtain ⟨R0, hRe⟩ : ∃ R, R = nfOf (normB d) x.te 0 := ⟨_, rfl⟩
  have hRw0 : wfL wfI R0 := by
    refine ⟨by rw [hRe]; simp only [maxLen]; omega, fun n hn => ?_⟩
    rw [hRe] at hn
    have := nfOf_mem (normB d) x.te 0 n hn
    exact wfI_of n (by omega) (by omega)
  have hRs0 : szL szI R0 ≤ 1500000 := by rw [szL_int, hRe]; omega
  rw [← hRe] at hsp him
  refine CallK.mk (toDefinition_sat d hs_d) ?_
  simp -implicitDefEqProofs (disch := omega) only [go_sem, ↓reduceIte, reduceCtorEq, Nat.reduceEqDiff, Nat.reduceLT, Nat.reduceLeDiff, Nat.reduceAdd, Nat.reduceSub, Nat.reduceMul, and_self]
  refine CallK.mk (toSpace_sat x hs_x) ?_
  simp -implicitDefEqProofs (disch := omega) only [go_sem, ↓reduceIte, reduceCtorEq, Nat.reduceEqDiff, Nat.reduceLT, Nat.reduceLeDiff, Nat.reduceAdd, Nat.reduceSub, Nat.reduceMul, and_self]
  refine CallK.mk (hsp) ?_
  simp -implicitDefEqProofs (disch := omega) only [go_sem, ↓reduceIte, reduceCtorEq, Nat.reduceEqDiff, Nat.reduceLT, Nat.reduceLeDiff, Nat.reduceAdd, Nat.reduceSub, Nat.reduceMul, and_self]
  have toX_d := toDefinition_sat d hs_d
  have toF_d := toDefinitionF_sat d hs_d
  have eqX_d := eqDefinition_sat d hw_d d
  have reX_d := GDefinition.eqb_refl d
  have hq_d : cntTop d.enc ≤ 64 * d.size + 64 := by
    have h1 := cntTop_le d.enc
    have h2 := cntCells_le d.enc (GDefinition.nar d)
    rw [GDefinition.csz] at h2
    have h3 := GDefinition.enc_len d
    omega
  have toX_x := toSpace_sat x hs_x
  have toF_x := toSpaceF_sat x hs_x
  have eqX_x := eqSpace_sat x hw_x x
  have reX_x := GSpace.eqb_refl x
  have hq_x : cntTop x.enc ≤ 64 * x.size + 64 := by
    have h1 := cntTop_le x.enc
    have h2 := cntCells_le x.enc (GSpace.nar x)
    rw [GSpace.csz] at h2
    have h3 := GSpace.enc_len x
    omega
  have implF := him
  have eqR_0 := eqIntS_sat R0 hRw0 R0
  have reR_0 := (eqL_refl eqI_refl) R0
  have hqR_0 : cntRows (R0.map encI) ≤ 64 * (szL szI) R0 := by
    have h2 := cntRows_le (R0.map encI) (narRows_map encI (fun y => ⟨by simp [encI], narE_I y⟩) R0)
    rwa [cszRows_map encI szI cszE_I] at h2
  obtain ⟨⟨dsiso, dsiop⟩, dru, dst⟩ := d
  simp only [GDefinition.enc, GSignature.enc, GSpace.enc, Tm.enc, encB, encI, encL, encS, List.cons_append, List.nil_append, List.append_nil, Tm.args, cntTop] at hq_d
  obtain ⟨xte, xmo, xfu⟩ := x
  simp only [GDefinition.enc, GSignature.enc, GSpace.enc, Tm.enc, encB, encI, encL, encS, List.cons_append, List.nil_append, List.append_nil, Tm.args, cntTop] at hq_x
  have hc_d_dsiso := mkRows_cnt (dsiso.map encS) 1
  have hc_d_dsiop := mkRows_cnt (dsiop.map GOp.enc) (mkRows (dsiso.map encS) 1).2
  have hc_d_dru := mkRows_cnt (dru.map GRule.enc) (mkRows (dsiop.map GOp.enc) (mkRows (dsiso.map encS) 1).2).2
  have hc_d_dst := mkRows_cnt (dst.map GStrict.enc) (mkRows (dru.map GRule.enc) (mkRows (dsiop.map GOp.enc) (mkRows (dsiso.map encS) 1).2).2).2
  have hc_x_xte := mkRows_cnt (xte.map Tm.enc) (mkRows (dst.map GStrict.enc) (mkRows (dru.map GRule.enc) (mkRows (dsiop.map GOp.enc) (mkRows (dsiso.map encS) 1).2).2).2).2
  have hc_x_xmo := mkRows_cnt (xmo.map GMove.enc) (mkRows (xte.map Tm.enc) (mkRows (dst.map GStrict.enc) (mkRows (dru.map GRule.enc) (mkRows (dsiop.map GOp.enc) (mkRows (dsiso.map encS) 1).2).2).2).2).2
  have hcR_0_R0 := mkRows_cnt (R0.map encI) 1
  refine CallK.own toF_d rfl ?_
  simp -implicitDefEqProofs (disch := omega) only [go_sem, ↓reduceIte, reduceCtorEq, Nat.reduceEqDiff, Nat.reduceLT, Nat.reduceLeDiff, Nat.reduceAdd, Nat.reduceSub, Nat.reduceMul, GDefinition.enc, GSignature.enc, GSpace.enc, Tm.enc, encB, encI, encL, encS, List.cons_append, List.nil_append, List.append_nil, Tm.args]
  refine CallK.own toF_x rfl ?_
  simp -implicitDefEqProofs (disch := omega) only [go_sem, ↓reduceIte, reduceCtorEq, Nat.reduceEqDiff, Nat.reduceLT, Nat.reduceLeDiff, Nat.reduceAdd, Nat.reduceSub, Nat.reduceMul, GDefinition.enc, GSignature.enc, GSpace.enc, Tm.enc, encB, encI, encL, encS, List.cons_append, List.nil_append, List.append_nil, Tm.args]
  refine CallK.own implF rfl ?_
  simp -implicitDefEqProofs (disch := omega) only [go_sem, ↓reduceIte, reduceCtorEq, Nat.reduceEqDiff, Nat.reduceLT, Nat.reduceLeDiff, Nat.reduceAdd, Nat.reduceSub, Nat.reduceMul, GDefinition.enc, GSignature.enc, GSpace.enc, Tm.enc, encB, encI, encL, encS, List.cons_append, List.nil_append, List.append_nil, Tm.args]
  refine CallK.bor eqR_0 rfl ?_
  simp -implicitDefEqProofs (disch := omega) only [go_sem, ↓reduceIte, reduceCtorEq, Nat.reduceEqDiff, Nat.reduceLT, Nat.reduceLeDiff, Nat.reduceAdd, Nat.reduceSub, Nat.reduceMul, GDefinition.enc, GSignature.enc, GSpace.enc, Tm.enc, encB, encI, encL, encS, List.cons_append, List.nil_append, List.append_nil, Tm.args, reR_0]
  refine CallK.mk toX_d ?_
  simp -implicitDefEqProofs (disch := omega) only [go_sem, ↓reduceIte, reduceCtorEq, Nat.reduceEqDiff, Nat.reduceLT, Nat.reduceLeDiff, Nat.reduceAdd, Nat.reduceSub, Nat.reduceMul, GDefinition.enc, GSignature.enc, GSpace.enc, Tm.enc, encB, encI, encL, encS, List.cons_append, List.nil_append, List.append_nil, Tm.args]
  refine CallK.bor eqX_d rfl ?_
  simp -implicitDefEqProofs (disch := omega) only [go_sem, ↓reduceIte, reduceCtorEq, Nat.reduceEqDiff, Nat.reduceLT, Nat.reduceLeDiff, Nat.reduceAdd, Nat.reduceSub, Nat.reduceMul, GDefinition.enc, GSignature.enc, GSpace.enc, Tm.enc, encB, encI, encL, encS, List.cons_append, List.nil_append, List.append_nil, Tm.args, reX_d]
  refine CallK.mk toX_x ?_
  simp -implicitDefEqProofs (disch := omega) only [go_sem, ↓reduceIte, reduceCtorEq, Nat.reduceEqDiff, Nat.reduceLT, Nat.reduceLeDiff, Nat.reduceAdd, Nat.reduceSub, Nat.reduceMul, GDefinition.enc, GSignature.enc, GSpace.enc, Tm.enc, encB, encI, encL, encS, List.cons_append, List.nil_append, List.append_nil, Tm.args]
  refine CallK.bor eqX_x rfl ?_
  simp -implicitDefEqProofs (disch := omega) only [go_sem, ↓reduceIte, reduceCtorEq, Nat.reduceEqDiff, Nat.reduceLT, Nat.reduceLeDiff, Nat.reduceAdd, Nat.reduceSub, Nat.reduceMul, GDefinition.enc, GSignature.enc, GSpace.enc, Tm.enc, encB, encI, encL, encS, List.cons_append, List.nil_append, List.append_nil, Tm.args, reX_x]
  refine CallK.mut (markDefinition_sat dsiso dsiop dru dst hw_d 1 (by omega) (by omega)) ?_
  simp -implicitDefEqProofs (disch := omega) only [go_sem, ↓reduceIte, reduceCtorEq, Nat.reduceEqDiff, Nat.reduceLT, Nat.reduceLeDiff, Nat.reduceAdd, Nat.reduceSub, Nat.reduceMul, GDefinition.enc, GSignature.enc, GSpace.enc, Tm.enc, encB, encI, encL, encS, List.cons_append, List.nil_append, List.append_nil, Tm.args]
  refine CallK.mut (markSpace_sat xte xmo xfu hw_x (mkRows (dst.map GStrict.enc) (mkRows (dru.map GRule.enc) (mkRows (dsiop.map GOp.enc) (mkRows (dsiso.map encS) 1).2).2).2).2 (by omega) (by omega)) ?_
  simp -implicitDefEqProofs (disch := omega) only [go_sem, ↓reduceIte, reduceCtorEq, Nat.reduceEqDiff, Nat.reduceLT, Nat.reduceLeDiff, Nat.reduceAdd, Nat.reduceSub, Nat.reduceMul, GDefinition.enc, GSignature.enc, GSpace.enc, Tm.enc, encB, encI, encL, encS, List.cons_append, List.nil_append, List.append_nil, Tm.args]
  refine ⟨fun _ => ?_, fun h => by omega⟩
  refine CallK.bor eqR_0 rfl ?_
  simp -implicitDefEqProofs (disch := omega) only [go_sem, ↓reduceIte, reduceCtorEq, Nat.reduceEqDiff, Nat.reduceLT, Nat.reduceLeDiff, Nat.reduceAdd, Nat.reduceSub, Nat.reduceMul, GDefinition.enc, GSignature.enc, GSpace.enc, Tm.enc, encB, encI, encL, encS, List.cons_append, List.nil_append, List.append_nil, Tm.args, reR_0]
  refine CallK.mut (markIntS_sat R0 hRw0 1 (by omega) (by omega)) ?_
  simp -implicitDefEqProofs (disch := omega) only [go_sem, ↓reduceIte, reduceCtorEq, Nat.reduceEqDiff, Nat.reduceLT, Nat.reduceLeDiff, Nat.reduceAdd, Nat.reduceSub, Nat.reduceMul, GDefinition.enc, GSignature.enc, GSpace.enc, Tm.enc, encB, encI, encL, encS, List.cons_append, List.nil_append, List.append_nil, Tm.args]
  refine CallK.bor (heldIntS_sat R0 hRw0 1 (by omega) (by omega)) rfl ?_
  simp -implicitDefEqProofs (disch := omega) only [go_sem, ↓reduceIte, reduceCtorEq, Nat.reduceEqDiff, Nat.reduceLT, Nat.reduceLeDiff, Nat.reduceAdd, Nat.reduceSub, Nat.reduceMul, GDefinition.enc, GSignature.enc, GSpace.enc, Tm.enc, encB, encI, encL, encS, List.cons_append, List.nil_append, List.append_nil, Tm.args]
  refine ⟨fun h => by omega, fun _ => ?_⟩
  refine CallK.mk toX_d ?_
  simp -implicitDefEqProofs (disch := omega) only [go_sem, ↓reduceIte, reduceCtorEq, Nat.reduceEqDiff, Nat.reduceLT, Nat.reduceLeDiff, Nat.reduceAdd, Nat.reduceSub, Nat.reduceMul, GDefinition.enc, GSignature.enc, GSpace.enc, Tm.enc, encB, encI, encL, encS, List.cons_append, List.nil_append, List.append_nil, Tm.args]
  refine CallK.mk toX_x ?_
  simp -implicitDefEqProofs (disch := omega) only [go_sem, ↓reduceIte, reduceCtorEq, Nat.reduceEqDiff, Nat.reduceLT, Nat.reduceLeDiff, Nat.reduceAdd, Nat.reduceSub, Nat.reduceMul, GDefinition.enc, GSignature.enc, GSpace.enc, Tm.enc, encB, encI, encL, encS, List.cons_append, List.nil_append, List.append_nil, Tm.args]
  refine CallK.mk implF.sat ?_
  simp -implicitDefEqProofs (disch := omega) only [go_sem, ↓reduceIte, reduceCtorEq, Nat.reduceEqDiff, Nat.reduceLT, Nat.reduceLeDiff, Nat.reduceAdd, Nat.reduceSub, Nat.reduceMul, GDefinition.enc, GSignature.enc, GSpace.enc, Tm.enc, encB, encI, encL, encS, List.cons_append, List.nil_append, List.append_nil, Tm.args]
  refine CallK.bor eqR_0 rfl ?_
  simp -implicitDefEqProofs (disch := omega) only [go_sem, ↓reduceIte, reduceCtorEq, Nat.reduceEqDiff, Nat.reduceLT, Nat.reduceLeDiff, Nat.reduceAdd, Nat.reduceSub, Nat.reduceMul, GDefinition.enc, GSignature.enc, GSpace.enc, Tm.enc, encB, encI, encL, encS, List.cons_append, List.nil_append, List.append_nil, Tm.args, reR_0]
  refine CallK.bor (heldIntS_sat R0 hRw0 1 (by omega) (by omega)) rfl ?_
  simp -implicitDefEqProofs (disch := omega) only [go_sem, ↓reduceIte, reduceCtorEq, Nat.reduceEqDiff, Nat.reduceLT, Nat.reduceLeDiff, Nat.reduceAdd, Nat.reduceSub, Nat.reduceMul, GDefinition.enc, GSignature.enc, GSpace.enc, Tm.enc, encB, encI, encL, encS, List.cons_append, List.nil_append, List.append_nil, Tm.args]
  first | (intro h; omega) | exact ⟨fun h => by omega, fun _ => trivial⟩
end Go.Ai
/- The law on IsConfluent. Written by mk26.py. -/
namespace Go.Ai
set_option linter.unusedVariables false
set_option linter.unusedSimpArgs false
open Go.Proofs Go.RowKit
set_option maxRecDepth 100000

theorem lawIsConfluent_sat (d : GDefinition) (x : GSpace) (hw_d : GDefinition.wf d) (hw_x : GSpace.wf x) : Sat Tryz.prog 3 [aggV d.enc, aggV x.enc] (boolV true) := by
  refine sat_of_code tbOk mixed Tryz.func3 rfl rfl rfl (by decide +kernel) (by decide +kernel) (Nat.le_of_ble_eq_true rfl) ?_
  simp -implicitDefEqProofs (disch := omega) only [go_sem, ↓reduceIte, reduceCtorEq, Nat.reduceEqDiff, Nat.reduceLT, Nat.reduceLeDiff, Nat.reduceAdd, Nat.reduceSub, Nat.reduceMul]
  refine CallK.mk (szDefinition_sat d hw_d 1048576 (by grind [szR]) (by grind [szR])) ?_
  simp -implicitDefEqProofs (disch := omega) only [go_sem, ↓reduceIte, reduceCtorEq, Nat.reduceEqDiff, Nat.reduceLT, Nat.reduceLeDiff, Nat.reduceAdd, Nat.reduceSub, Nat.reduceMul]
  intro hz_d
  have hs_d : d.size < 1048577 := by grind [szR]
  refine CallK.mk (szSpace_sat x hw_x _ (by grind [szR]) (by grind [szR])) ?_
  simp -implicitDefEqProofs (disch := omega) only [go_sem, ↓reduceIte, reduceCtorEq, Nat.reduceEqDiff, Nat.reduceLT, Nat.reduceLeDiff, Nat.reduceAdd, Nat.reduceSub, Nat.reduceMul]
  intro hz_x
  have hs_x : x.size < 1048577 := by grind [szR]
  have hxs : ∀ t, t ∈ x.te → t.wf ∧ t.size < 30000000 := fun t ht => ⟨hw_x.1.2 t ht, by have := szL_mem Tm.size x.te t ht; simp only [GSpace.size] at hs_x; omega⟩
  have hxl : x.te.length < 1048577 := by have := len_szL Tm.size x.te; simp only [GSpace.size] at hs_x; omega
  have hsp := specConfluent_sat d hw_d hs_d x hxl hxs
  have him := implConfluent_sat d hw_d hs_d x hxl hxs
  generalize (x.fu && decide ((nfOf (normB d) x.te 0).length ≤ 1)) = b at hsp him
  refine CallK.mk (toDefinition_sat d hs_d) ?_
  simp -implicitDefEqProofs (disch := omega) only [go_sem, ↓reduceIte, reduceCtorEq, Nat.reduceEqDiff, Nat.reduceLT, Nat.reduceLeDiff, Nat.reduceAdd, Nat.reduceSub, Nat.reduceMul]
  refine CallK.mk (toSpace_sat x hs_x) ?_
  simp -implicitDefEqProofs (disch := omega) only [go_sem, ↓reduceIte, reduceCtorEq, Nat.reduceEqDiff, Nat.reduceLT, Nat.reduceLeDiff, Nat.reduceAdd, Nat.reduceSub, Nat.reduceMul]
  refine CallK.mk hsp ?_
  simp -implicitDefEqProofs (disch := omega) only [go_sem, ↓reduceIte, reduceCtorEq, Nat.reduceEqDiff, Nat.reduceLT, Nat.reduceLeDiff, Nat.reduceAdd, Nat.reduceSub, Nat.reduceMul]
  refine CallK.mk (toDefinition_sat d hs_d) ?_
  simp -implicitDefEqProofs (disch := omega) only [go_sem, ↓reduceIte, reduceCtorEq, Nat.reduceEqDiff, Nat.reduceLT, Nat.reduceLeDiff, Nat.reduceAdd, Nat.reduceSub, Nat.reduceMul]
  refine CallK.mk (toSpace_sat x hs_x) ?_
  simp -implicitDefEqProofs (disch := omega) only [go_sem, ↓reduceIte, reduceCtorEq, Nat.reduceEqDiff, Nat.reduceLT, Nat.reduceLeDiff, Nat.reduceAdd, Nat.reduceSub, Nat.reduceMul]
  refine CallK.mk him ?_
  simp -implicitDefEqProofs (disch := omega) only [go_sem, ↓reduceIte, reduceCtorEq, Nat.reduceEqDiff, Nat.reduceLT, Nat.reduceLeDiff, Nat.reduceAdd, Nat.reduceSub, Nat.reduceMul]
  refine CallK.mk (toDefinition_sat d hs_d) ?_
  simp -implicitDefEqProofs (disch := omega) only [go_sem, ↓reduceIte, reduceCtorEq, Nat.reduceEqDiff, Nat.reduceLT, Nat.reduceLeDiff, Nat.reduceAdd, Nat.reduceSub, Nat.reduceMul]
  refine CallK.mk (eqDefinition_sat d hw_d d) ?_
  simp -implicitDefEqProofs (disch := omega) only [go_sem, ↓reduceIte, reduceCtorEq, Nat.reduceEqDiff, Nat.reduceLT, Nat.reduceLeDiff, Nat.reduceAdd, Nat.reduceSub, Nat.reduceMul, GDefinition.eqb_refl]
  refine CallK.mk (toSpace_sat x hs_x) ?_
  simp -implicitDefEqProofs (disch := omega) only [go_sem, ↓reduceIte, reduceCtorEq, Nat.reduceEqDiff, Nat.reduceLT, Nat.reduceLeDiff, Nat.reduceAdd, Nat.reduceSub, Nat.reduceMul]
  refine CallK.mk (eqSpace_sat x hw_x x) ?_
  simp -implicitDefEqProofs (disch := omega) only [go_sem, ↓reduceIte, reduceCtorEq, Nat.reduceEqDiff, Nat.reduceLT, Nat.reduceLeDiff, Nat.reduceAdd, Nat.reduceSub, Nat.reduceMul, GSpace.eqb_refl]
end Go.Ai
