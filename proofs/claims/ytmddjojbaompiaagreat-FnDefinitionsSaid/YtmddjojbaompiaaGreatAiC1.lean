/- Contracts of the functions on terms: size, conversion, equality. -/
import Derived.Test.YtmddjojbaompiaaGreatAiRows
import Derived.Test.YtmddjojbaompiaaGreatAiSeat
set_option linter.unusedVariables false
set_option linter.unusedSimpArgs false
namespace Go.Ai
open Go.Proofs
set_option maxRecDepth 100000
abbrev zT : List AC := [iC 0, iC 0, sC ⟨⟨[]⟩⟩, .nil]
theorem equalFunc_1 (ts ts' : List Tm) (hl : ts.length ≤ maxLen) (ih : ∀ t, t ∈ ts → ∀ u, Sat Tryz.prog 101 [tmV t, tmV u] (boolV (t.eqb u))) :
  Sat Tryz.prog 167 [tmsV ts, tmsV ts', .one (.c (.v (.func (.func 101) #[] #[])))] (boolV (Tm.eqbs ts ts')) := by
 simp only [maxLen] at hl
 refine sat_of_code tbOk mixed Tryz.func167 rfl rfl rfl (by decide +kernel) (by decide +kernel) (Nat.le_of_ble_eq_true rfl) ?_
 simp -implicitDefEqProofs (disch := omega) only [go_sem]
 refine ⟨fun h4 => ?_, fun h4 => ?_⟩
 ·rw [eqbs_len ts ts' (by omega)]
 ·have hll : ts.length = ts'.length := by simp at h4; omega
  refine loopA_rule (ι := Nat) (fun i => mk 32 [(0, tmsV ts), (1, tmsV ts'), (2, .one (.c (.v (.func (.func 101) #[] #[])))), (15, tmsV ts), (16, intV ts.length), (17, intV i)] [])
   (fun i => i ≤ ts.length ∧ Tm.eqbs (ts.drop i) (ts'.drop i) = Tm.eqbs ts ts') (fun i => ts.length - i) 0 ⟨Nat.zero_le _, by simp⟩ ?_ tbOk mixed (by decide +kernel) ?_
  ·exact le_mk (by simp [go_sem]) (by simp [go_sem])
  ·rintro i ⟨hi, he⟩
   rcases Nat.lt_or_ge i ts.length with hlt | hge
   ·have hlt' : i < ts'.length := by omega
    have hg := encs_getD ts i hlt
    have hg' := encs_getD ts' i hlt'
    rw [eqbs_drop ts ts' i hlt hlt'] at he
    simp -implicitDefEqProofs (disch := omega) only [go_sem, hg, hg', hlt, hlt']
    refine CallK.mk (ih _ (List.getElem_mem hlt) _) ?_
    simp -implicitDefEqProofs (disch := omega) only [go_sem]
    refine ⟨fun h => ?_, fun h => ⟨i + 1, ⟨hlt, ?_⟩, by omega, le_mk (by simp [go_sem]) (by simp [go_sem])⟩⟩
    ·rw [h] at he; simpa using he
    ·rw [h] at he; simpa using he
   ·have e1 : ts.drop i = [] := List.drop_of_length_le hge
    have e2 : ts'.drop i = [] := List.drop_of_length_le (by omega)
    rw [e1, e2] at he
    simp -implicitDefEqProofs (disch := omega) only [go_sem, Nat.not_lt.2 hge]
    rw [← he]; rfl
theorem implEqualTerm_1 (k n : Int) (s : ByteArray) (ts : List Tm) (k' n' : Int) (s' : ByteArray) (ts' : List Tm)
  (ih : Sat Tryz.prog 167 [tmsV ts, tmsV ts', .one (.c (.v (.func (.func 101) #[] #[])))] (boolV (Tm.eqbs ts ts'))) :
  Sat Tryz.prog 101 [tmV (.mk k n s ts), tmV (.mk k' n' s' ts')] (boolV (Tm.eqb (.mk k n s ts) (.mk k' n' s' ts'))) := by
 obtain ⟨r, hr⟩ : ∃ r, r = Tm.eqb (.mk k n s ts) (.mk k' n' s' ts') := ⟨_, rfl⟩
 rw [← hr]
 simp only [Tm.eqb] at hr
 refine sat_of_code tbOk mixed Tryz.func101 rfl rfl rfl (by decide +kernel) (by decide +kernel) (Nat.le_of_ble_eq_true rfl) ?_
 simp -implicitDefEqProofs (disch := omega) only [go_sem, Tm.enc]
 refine ⟨fun h1 => ⟨fun h2 => ⟨fun h3 => ?_, fun h3 => ?_⟩, fun h2 => ?_⟩, fun h1 => ?_⟩
 ·refine CallK.mk ih ?_
  simp -implicitDefEqProofs (disch := omega) only [go_sem]
  simp_all
 ·simp_all
 ·simp_all
 ·simp_all
theorem implEqualTerm_sat : ∀ (t : Tm), t.wf → ∀ u, Sat Tryz.prog 101 [tmV t, tmV u] (boolV (t.eqb u)) := by
 refine Tm.ind (fun k n s ts ih hw u => ?_)
 obtain ⟨k', n', s', ts'⟩ := u
 exact implEqualTerm_1 k n s ts k' n' s' ts' (equalFunc_1 ts ts' hw.2.2.2.1 (fun t ht u => ih t ht ((wfs_iff ts).1 hw.2.2.2.2 t ht) u))
end Go.Ai
