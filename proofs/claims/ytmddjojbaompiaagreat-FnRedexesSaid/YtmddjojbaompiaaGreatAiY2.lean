/- Subterms at positions, in the reference and in the program; a subterm is put in. -/
import Derived.Test.YtmddjojbaompiaaGreatAiG1
import Derived.Test.YtmddjojbaompiaaGreatAiI3
import Derived.Test.YtmddjojbaompiaaGreatAiP8
import Derived.Test.YtmddjojbaompiaaGreatAiP12
set_option linter.unusedVariables false
set_option linter.unusedSimpArgs false
namespace Go.Ai
open Go.Proofs
set_option maxRecDepth 100000
def atp : List Int → Tm → Option Tm
 | [], t => some t
 | i :: p, .mk _ _ _ ts => if decide (0 ≤ i) && decide (i < (ts.length : Int)) then atp p (ts.getD i.toNat zeroT) else none
def putp : List Int → Tm → Tm → Tm
 | [], _, u => u
 | i :: p, .mk k n s ts, u => .mk k n s (ts.set i.toNat (putp p (ts.getD i.toNat zeroT) u))
theorem atp_drop (p : List Int) (i : Nat) (h : i < p.length) (k n : Int) (s : ByteArray) (ts : List Tm) : atp (p.drop i) (.mk k n s ts) = if decide (0 ≤ p[i]) && decide (p[i] < (ts.length : Int)) then atp (p.drop (i + 1)) (ts.getD p[i].toNat zeroT) else none := by
 rw [List.drop_eq_getElem_cons h]; rfl
theorem atp_size : ∀ (p : List Int) (t u : Tm), atp p t = some u → u.size ≤ t.size
 | [], t, u, h => by cases h; exact Nat.le_refl _
 | i :: p, .mk k n s ts, u, h => by
  simp only [atp] at h
  split at h
  ·rename_i hc
   simp only [Bool.and_eq_true, decide_eq_true_eq] at hc
   have hlt : i.toNat < ts.length := by omega
   have := atp_size p _ u h
   rw [List.getD_eq_getElem?_getD, List.getElem?_eq_getElem hlt, Option.getD_some] at this
   have h2 := size_mem ts _ (List.getElem_mem hlt)
   simp only [Tm.size]; omega
  ·cases h
theorem tsize_lt (k n : Int) (s : ByteArray) (ts : List Tm) (i : Nat) (h : i < ts.length) : ts[i].size < (Tm.mk k n s ts).size := by
 have := size_mem ts _ (List.getElem_mem h)
 simp only [Tm.size]; omega
theorem specTermAtp_sat (t : Tm) (hz : t.size < 1048577) (p : List Int) (hp : p.length < 100000000) : Sat Tryz.prog 40 [tmV t, slV (p.map encI)] (.tup [tmV ((atp p t).getD zeroT), boolV (atp p t).isSome]) := by
 obtain ⟨r, hr⟩ : ∃ r, r = atp p t := ⟨_, rfl⟩
 rw [← hr]
 have hcp := fun u hu => l3Copy_sat u (Nat.lt_of_le_of_lt (atp_size p t u hu) hz)
 rw [← hr] at hcp
 obtain ⟨k, n, s, ts⟩ := t
 refine sat_of_code tbOk mixed Tryz.func40 rfl rfl rfl (by decide +kernel) (by decide +kernel) (Nat.le_of_ble_eq_true rfl) ?_
 simp -implicitDefEqProofs (disch := omega) only [go_sem, Tm.enc]
 refine loopA_rule (ι := Nat × Int × Int × ByteArray × List Tm) (fun i => mk 34 [(1, slV (p.map encI)), (2, .one (.ptr 2 0)), (4, .one (.ptr 4 0)), (6, intV i.1)] [(2, .var [iC i.2.1, iC i.2.2.1, sC i.2.2.2.1, tC i.2.2.2.2]), (4, .var zT)])
  (fun i => i.1 ≤ p.length ∧ (Tm.mk i.2.1 i.2.2.1 i.2.2.2.1 i.2.2.2.2).size < 1048577 ∧ r = atp (p.drop i.1) (.mk i.2.1 i.2.2.1 i.2.2.2.1 i.2.2.2.2)) (fun i => p.length - i.1) (0, k, n, s, ts) ⟨Nat.zero_le _, hz, by simpa using hr⟩ ?_ tbOk mixed (by decide +kernel) ?_
 ·exact le_mk (by simp [go_sem]) (by simp [go_sem, zT])
 ·rintro ⟨i, k, n, s, ts⟩ ⟨hi, hsz, he⟩
  simp only at hi hsz he
  have hln := len_sizes ts
  have hsz' := hsz
  simp only [Tm.size] at hsz'
  rcases Nat.lt_or_ge i p.length with hlt | hge
  ·have hg := map_getD (ec := encI) hlt
   simp only [encI] at hg
   rw [atp_drop p i hlt] at he
   generalize p[i] = x at hg he
   have hin := l1In_sat x 0 ((ts.length : Int) - 1)
   have e0 : (decide (0 ≤ x) && decide (x < (ts.length : Int))) = (decide (0 ≤ x) && decide (x ≤ (ts.length : Int) - 1)) := by
    congr 1; exact decide_eq_decide.2 (by omega)
   rw [e0] at he
   simp -implicitDefEqProofs (disch := omega) only [go_sem, hg, hlt, List.length_map, enc_len]
   refine CallK.mk hin ?_
   by_cases hc : (decide (0 ≤ x) && decide (x ≤ (ts.length : Int) - 1)) = true
   ·rw [if_pos hc] at he
    have hc' := hc
    simp only [Bool.and_eq_true, decide_eq_true_eq] at hc'
    obtain ⟨j, rfl⟩ : ∃ j : Nat, x = (j : Int) := ⟨x.toNat, by omega⟩
    have hjl : j < ts.length := by omega
    have e1 : ts.getD ((j : Int)).toNat zeroT = ts[j] := by rw [Int.toNat_natCast, List.getD_eq_getElem?_getD, List.getElem?_eq_getElem hjl, Option.getD_some]
    rw [e1] at he
    have hgt := encs_getD ts j hjl
    have hsj := tsize_lt k n s ts j hjl
    generalize ts[j] = a at hgt he hsj
    obtain ⟨ak, an, as', at_⟩ := a
    simp only [Tm.enc] at hgt
    rw [hc]
    simp -implicitDefEqProofs (disch := omega) only [go_sem, hg, hlt, List.length_map, enc_len, hgt, hjl]
    exact ⟨(i + 1, ak, an, as', at_), ⟨hlt, by simp only; omega, he⟩, by simp only; omega, le_mk (by simp [go_sem]) (by simp [go_sem])⟩
   ·rw [if_neg hc] at he
    have hc : (decide (0 ≤ x) && decide (x ≤ (ts.length : Int) - 1)) = false := by simpa using hc
    subst he
    rw [hc]
    simp -implicitDefEqProofs (disch := omega) only [go_sem, zeroT, Tm.enc, Tm.encs]
    rfl
  ·have e1 : p.drop i = [] := List.drop_of_length_le hge
   rw [e1] at he
   have he : r = some (.mk k n s ts) := he
   have hc := hcp _ he
   subst he
   simp -implicitDefEqProofs (disch := omega) only [go_sem, Nat.not_lt.2 hge, List.length_map]
   refine CallK.mk hc ?_
   simp -implicitDefEqProofs (disch := omega) only [go_sem, Tm.enc]
   rfl
abbrev putSat (f : FuncId) (t : Tm) (p : List Int) (v : Tm) : Prop := Sat Tryz.prog f [tmV t, slV (p.map encI), tmV v] (tmV (putp p t v))
end Go.Ai
/- A step: the redex, what is put in, on both sides. -/
namespace Go.Ai
open Go.Proofs
set_option maxRecDepth 100000
def redOk (d : GDefinition) (t : Tm) (q : Int × List Int) : Prop := q.2.length < 1000 ∧ ∃ (j : Nat) (hj : j < d.ru.length) (u : Tm), q.1 = (j : Int) ∧ atp q.2 t = some u ∧ tmOk u ∧ (fireI d.ru[j] u).isSome = true
def doB (d : GDefinition) (t : Tm) (q : Int × List Int) : Tm := putp q.2 t (fireT (d.ru.getD q.1.toNat ⟨sE, zeroT, zeroT, []⟩) ((atp q.2 t).getD zeroT))
def stepB (d : GDefinition) (t : Tm) : Option Tm := match nextB d t with
 | none => none
 | some q => if (doB d t q).valid then some (doB d t q) else none
end Go.Ai
