/- Contracts of the functions on terms: size, conversion, equality. -/
import Derived.Test.YtkcfegkfbijedaaDoorAiRows
import Derived.Test.YtkcfegkfbijedaaDoorAiSeat
namespace Go.Ai
set_option linter.unusedVariables false
set_option linter.unusedSimpArgs false
open Go.Proofs
set_option maxRecDepth 100000

/-! ### laws.szTerm, laws.szTermS -/
theorem szTerm_1 (k n : Int) (s : ByteArray) (ts : List Tm) (b : Int) (h0 : 0 ≤ b) (h1 : b < 1048577) (hw : (Tm.mk k n s ts).wf)
    (ih : ∀ b : Int, 0 ≤ b → b < 1048577 → Sat Tryd.prog 27 [tmsV ts, intV b] (intV (szR (Tm.sizes ts) b))) :
    Sat Tryd.prog 6 [tmV (.mk k n s ts), intV b] (intV (szR (Tm.size (.mk k n s ts)) b)) := by
  have hw1 := hw.2.2.1
  simp only [maxLen] at hw1
  have e : Tm.size (.mk k n s ts) = s.size + Tm.sizes ts := by simp only [Tm.size]
  rw [e]
  refine sat_of_code tbOk mixed Tryd.func6 rfl rfl rfl (by decide +kernel) (by decide +kernel) (Nat.le_of_ble_eq_true rfl) ?_
  simp -implicitDefEqProofs (disch := omega) only [go_sem, Tm.enc]
  refine ⟨fun h => ?_, fun h => ?_⟩
  · unfold szR; split <;> omega
  · refine CallK.mk (ih _ (by omega) (by omega)) ?_
    simp -implicitDefEqProofs (disch := omega) only [go_sem]
    unfold szR
    refine ⟨fun h => ?_, fun h => ?_⟩ <;> (split at h <;> split <;> first | omega | (split <;> omega))

theorem szTermS_1 (ts : List Tm) (b : Int) (h0 : 0 ≤ b) (h1 : b < 1048577) (hw : Tm.wfs ts) (hl : ts.length ≤ maxLen)
    (ih : ∀ t, t ∈ ts → ∀ b : Int, 0 ≤ b → b < 1048577 → Sat Tryd.prog 6 [tmV t, intV b] (intV (szR (Tm.size t) b))) :
    Sat Tryd.prog 27 [tmsV ts, intV b] (intV (szR (Tm.sizes ts) b)) := by
  simp only [maxLen] at hl
  refine sat_of_code tbOk mixed Tryd.func27 rfl rfl rfl (by decide +kernel) (by decide +kernel) (Nat.le_of_ble_eq_true rfl) ?_
  simp -implicitDefEqProofs (disch := omega) only [go_sem]
  refine ⟨fun h => ?_, fun h => ?_⟩
  · have := len_sizes ts
    unfold szR; split <;> omega
  · refine loopA_rule (ι := Nat × Int) (fun i => mk 27 [(0, tmsV ts), (5, intV i.1), (1, intV i.2)] []) (fun i => i.1 ≤ ts.length ∧ i.2 - ((Tm.sizes (ts.drop i.1) : Int) - (ts.length - i.1)) = b - Tm.sizes ts ∧ 0 ≤ i.2 ∧ i.2 < 1048577) (fun i => ts.length - i.1) (0, b - ts.length) ?_ ?_ tbOk mixed (by decide +kernel) ?_
    · simp; omega
    · exact le_mk (by simp [go_sem]) (by simp [go_sem])
    · rintro ⟨i, c⟩ ⟨hi, hc, hc0, hc1⟩
      simp only at hi hc hc0 hc1
      rcases Nat.lt_or_ge i ts.length with hlt | hge
      · have hg := encs_getD ts i hlt
        have hz := sizes_drop ts i hlt
        have hz2 := len_sizes (ts.drop (i + 1))
        simp only [List.length_drop] at hz2
        simp -implicitDefEqProofs (disch := omega) only [go_sem, hg, hlt]
        refine CallK.mk (ih _ (List.getElem_mem hlt) c hc0 (by omega)) ?_
        simp -implicitDefEqProofs (disch := omega) only [go_sem]
        refine ⟨fun h => ?_, fun h => ⟨(i + 1, szR ts[i].size c), ?_, ?_, le_mk (by simp [go_sem]) (by simp [go_sem])⟩⟩
        · unfold szR at h ⊢; split at h <;> split <;> omega
        · unfold szR at h ⊢
          simp only
          split at h <;> first | omega | (split <;> omega)
        · simp only; omega
      · simp -implicitDefEqProofs (disch := omega) only [go_sem, Nat.not_lt.2 hge]
        rw [List.drop_of_length_le hge] at hc
        simp only [Tm.sizes] at hc
        unfold szR; split <;> omega

theorem szTerm_sat : ∀ (t : Tm), t.wf → ∀ b : Int, 0 ≤ b → b < 1048577 → Sat Tryd.prog 6 [tmV t, intV b] (intV (szR t.size b)) := by
  refine Tm.ind (fun k n s ts ih hw b h0 h1 => ?_)
  have hws := (wfs_iff ts).1 hw.2.2.2.2
  exact szTerm_1 k n s ts b h0 h1 hw (fun b h0 h1 => szTermS_1 ts b h0 h1 hw.2.2.2.2 hw.2.2.2.1 (fun t ht b h0 h1 => ih t ht (hws t ht) b h0 h1))
theorem szTermS_sat (ts : List Tm) (hw : Tm.wfs ts) (hl : ts.length ≤ maxLen) (b : Int) (h0 : 0 ≤ b) (h1 : b < 1048577) : Sat Tryd.prog 27 [tmsV ts, intV b] (intV (szR (Tm.sizes ts) b)) :=
  szTermS_1 ts b h0 h1 hw hl (fun t ht b h0 h1 => szTerm_sat t ((wfs_iff ts).1 hw t ht) b h0 h1)

/-! ### laws.toTerm, laws.toTermS -/
theorem toTerm_1 (k n : Int) (s : ByteArray) (ts : List Tm) (ih : Sat Tryd.prog 30 [tmsV ts] (tmsV ts)) :
    Sat Tryd.prog 8 [tmV (.mk k n s ts)] (tmV (.mk k n s ts)) := by
  refine sat_of_code tbOk mixed Tryd.func8 rfl rfl rfl (by decide +kernel) (by decide +kernel) (Nat.le_of_ble_eq_true rfl) ?_
  simp -implicitDefEqProofs (disch := omega) only [go_sem, Tm.enc]
  refine CallK.mk ih ?_
  simp -implicitDefEqProofs (disch := omega) only [go_sem]
  rfl

abbrev zT : List AC := [iC 0, iC 0, sC ⟨⟨[]⟩⟩, .nil]
theorem toTermS_1 (ts : List Tm) (hl : ts.length < 1048577) (ih : ∀ t, t ∈ ts → Sat Tryd.prog 8 [tmV t] (tmV t)) : Sat Tryd.prog 30 [tmsV ts] (tmsV ts) := by
  refine sat_of_code tbOk mixed Tryd.func30 rfl rfl rfl (by decide +kernel) (by decide +kernel) (Nat.le_of_ble_eq_true rfl) ?_
  simp -implicitDefEqProofs (disch := omega) only [go_sem]
  refine ⟨⟨by omega, by omega⟩, fun _ => ?_⟩
  refine loopA_rule (ι := Nat) (fun i => mk 23 [(0, tmsV ts), (3, .one (.own 7 ts.length)), (4, intV i)] [(7, .arr 30 4 (rowsAt Tm.enc zT ts i) false)]) (fun i => i ≤ ts.length) (fun i => ts.length - i) 0 (Nat.zero_le _) ?_ tbOk mixed (by decide +kernel) ?_
  · exact le_mk (by simp [go_sem]) (by simp [go_sem, rowsAt_zero, List.mem_replicate])
  · intro i hi
    have hlen := rowsAt_len (ec := Tm.enc) (z := zT) hi
    rcases Nat.lt_or_ge i ts.length with hlt | hge
    · have hg := encs_getD ts i hlt
      have hr := rowsAt_get (ec := Tm.enc) (z := zT) hlt
      have hset := rowsAt_set (ec := Tm.enc) (z := zT) hlt
      simp -implicitDefEqProofs (disch := omega) only [go_sem, hg, hlt, hlen]
      refine CallK.mk (ih _ (List.getElem_mem hlt)) ?_
      simp -implicitDefEqProofs (disch := omega) only [go_sem, hlen, hlt, List.length_map, hr, hset]
      refine ⟨by simp [zT, unD], fun _ => ⟨i + 1, hlt, by omega, le_mk (by simp [go_sem]) ?_⟩⟩
      simp only [leB, lookB_cons, if_true, inB, true_and, and_true]
      exact rowsAt_inC (by simp [zT, inC])
    · have : i = ts.length := by omega
      subst this
      have hv := rowsAt_view (ec := Tm.enc) (z := zT) (Nat.le_refl ts.length)
      simp -implicitDefEqProofs (disch := omega) only [go_sem, hlen, hv, Nat.lt_irrefl, (encs_map ts).symm]
      exact rowsAt_isV (Nat.le_refl _)

theorem toTerm_sat : ∀ (t : Tm), t.size < 1048577 → Sat Tryd.prog 8 [tmV t] (tmV t) := by
  refine Tm.ind (fun k n s ts ih h => toTerm_1 k n s ts (toTermS_1 ts ?_ (fun t ht => ih t ht ?_)))
  · have := len_sizes ts; simp only [Tm.size] at h; omega
  · have := size_mem ts t ht; simp only [Tm.size] at h; omega
theorem toTermS_sat (ts : List Tm) (h : Tm.sizes ts < 1048577) : Sat Tryd.prog 30 [tmsV ts] (tmsV ts) :=
  toTermS_1 ts (by have := len_sizes ts; omega) (fun t ht => toTerm_sat t (by have := size_mem ts t ht; omega))

/-! ### spec.EqualTerm -/
theorem eqTerm_1 (k n : Int) (s : ByteArray) (ts : List Tm) (k' n' : Int) (s' : ByteArray) (ts' : List Tm) (ih : Sat Tryd.prog 33 [tmsV ts, tmsV ts'] (boolV (Tm.eqbs ts ts'))) :
    Sat Tryd.prog 11 [tmV (.mk k n s ts), tmV (.mk k' n' s' ts')] (boolV (Tm.eqb (.mk k n s ts) (.mk k' n' s' ts'))) := by
  obtain ⟨r, hr⟩ : ∃ r, r = Tm.eqb (.mk k n s ts) (.mk k' n' s' ts') := ⟨_, rfl⟩
  rw [← hr]
  simp only [Tm.eqb] at hr
  refine sat_of_code tbOk mixed Tryd.func11 rfl rfl rfl (by decide +kernel) (by decide +kernel) (Nat.le_of_ble_eq_true rfl) ?_
  simp -implicitDefEqProofs (disch := omega) only [go_sem, Tm.enc]
  refine ⟨fun h1 => ?_, fun h1 => ⟨fun h2 => ?_, fun h2 => ⟨fun h3 => ?_, fun h3 => ?_⟩⟩⟩
  · simp_all
  · simp_all
  · simp_all
  · refine CallK.mk ih ?_
    simp -implicitDefEqProofs (disch := omega) only [go_sem]
    have hr : r = Tm.eqbs ts ts' := by simp_all
    rw [hr]
    exact ⟨fun h => h.symm, fun h => h.symm⟩

theorem eqTermS_1 (ts ts' : List Tm) (hl : ts.length ≤ maxLen) (ih : ∀ t, t ∈ ts → ∀ u, Sat Tryd.prog 11 [tmV t, tmV u] (boolV (t.eqb u))) :
    Sat Tryd.prog 33 [tmsV ts, tmsV ts'] (boolV (Tm.eqbs ts ts')) := by
  simp only [maxLen] at hl
  refine sat_of_code tbOk mixed Tryd.func33 rfl rfl rfl (by decide +kernel) (by decide +kernel) (Nat.le_of_ble_eq_true rfl) ?_
  simp -implicitDefEqProofs (disch := omega) only [go_sem]
  refine ⟨fun h4 => ?_, fun h4 => ?_⟩
  · rw [eqbs_len ts ts' (by omega)]
  · have hll : ts.length = ts'.length := by simp at h4; omega
    refine loopA_rule (ι := Nat) (fun i => mk 27 [(0, tmsV ts), (1, tmsV ts'), (5, intV i)] [])
      (fun i => i ≤ ts.length ∧ Tm.eqbs (ts.drop i) (ts'.drop i) = Tm.eqbs ts ts') (fun i => ts.length - i) 0 ⟨Nat.zero_le _, by simp⟩ ?_ tbOk mixed (by decide +kernel) ?_
    · exact le_mk (by simp [go_sem]) (by simp [go_sem])
    · rintro i ⟨hi, he⟩
      rcases Nat.lt_or_ge i ts.length with hlt | hge
      · have hlt' : i < ts'.length := by omega
        have hg := encs_getD ts i hlt
        have hg' := encs_getD ts' i hlt'
        rw [eqbs_drop ts ts' i hlt hlt'] at he
        simp -implicitDefEqProofs (disch := omega) only [go_sem, hg, hg', hlt, hlt']
        refine CallK.mk (ih _ (List.getElem_mem hlt) _) ?_
        simp -implicitDefEqProofs (disch := omega) only [go_sem]
        refine ⟨fun h => ?_, fun h => ⟨i + 1, ⟨hlt, ?_⟩, by omega, le_mk (by simp [go_sem]) (by simp [go_sem])⟩⟩
        · rw [h] at he; simpa using he
        · rw [h] at he; simpa using he
      · have e1 : ts.drop i = [] := List.drop_of_length_le hge
        have e2 : ts'.drop i = [] := List.drop_of_length_le (by omega)
        rw [e1, e2] at he
        simp -implicitDefEqProofs (disch := omega) only [go_sem, Nat.not_lt.2 hge]
        rw [← he]; rfl

theorem eqTerm_sat : ∀ (t : Tm), t.wf → ∀ u, Sat Tryd.prog 11 [tmV t, tmV u] (boolV (t.eqb u)) := by
  refine Tm.ind (fun k n s ts ih hw u => ?_)
  obtain ⟨k', n', s', ts'⟩ := u
  exact eqTerm_1 k n s ts k' n' s' ts' (eqTermS_1 ts ts' hw.2.2.2.1 (fun t ht u => ih t ht ((wfs_iff ts).1 hw.2.2.2.2 t ht) u))

/-! ### impl.EqualTerm, slices.EqualFunc -/
end Go.Ai
