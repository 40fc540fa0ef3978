/- Subterms at positions, in the reference and in the program; a subterm is put in. -/
import Derived.Test.YtgdmjekkdcjipaaGreatAiG1
import Derived.Test.YtgdmjekkdcjipaaGreatAiI3
set_option linter.unusedVariables false
set_option linter.unusedSimpArgs false
namespace Go.Ai
open Go.Proofs
set_option maxRecDepth 100000
def atp : List Int → Tm → Option Tm
 | [], t => some t
 | i :: p, .mk _ _ _ ts => if decide (0 ≤ i) && decide (i < (ts.length : Int)) then atp p (ts.getD i.toNat wQ0) else none
def di1 : List Int → Tm → Tm → Tm
 | [], _, u => u
 | i :: p, .mk k n s ts, u => .mk k n s (ts.set i.toNat (di1 p (ts.getD i.toNat wQ0) u))
theorem nJ0 (p : List Int) (i : Nat) (h : i < p.length) (k n : Int) (s : ByteArray) (ts : List Tm) : atp (p.drop i) (.mk k n s ts) = if decide (0 ≤ p[i]) && decide (p[i] < (ts.length : Int)) then atp (p.drop (i + 1)) (ts.getD p[i].toNat wQ0) else none := by
 rw [List.drop_eq_getElem_cons h]; rfl
theorem nK0 : ∀ (p : List Int) (t u : Tm), atp p t = some u → u.size ≤ t.size
 | [], t, u, h => by cases h; exact Nat.le_refl _
 | i :: p, .mk k n s ts, u, h => by
  simp only [atp] at h
  split at h
  ·rename_i hc
   simp only [Bool.and_eq_true, decide_eq_true_eq] at hc
   have hlt : i.toNat < ts.length := by omega
   have := nK0 p _ u h
   rw [List.getD_eq_getElem?_getD, List.getElem?_eq_getElem hlt, Option.getD_some] at this
   have h2 := zT0 ts _ (List.getElem_mem hlt)
   simp only [Tm.size]; omega
  ·cases h
theorem rU0 (k n : Int) (s : ByteArray) (ts : List Tm) (i : Nat) (h : i < ts.length) : ts[i].size < (Tm.mk k n s ts).size := by
 have := zT0 ts _ (List.getElem_mem h)
 simp only [Tm.size]; omega
theorem px0 (t : Tm) (hz : t.size < 1048577) (p : List Int) (hp : p.length < 100000000) : Sat Tryz.prog 59 [tmV t, slV (p.map zO0)] (.tup [tmV ((atp p t).getD wQ0), boolV (atp p t).isSome]) := by
 obtain ⟨r, hr⟩ : ∃ r, r = atp p t := ⟨_, rfl⟩
 rw [← hr]
 have hcp := fun u hu => jd0 u (Nat.lt_of_le_of_lt (nK0 p t u hu) hz)
 rw [← hr] at hcp
 obtain ⟨k, n, s, ts⟩ := t
 refine soc zE0 zB0 Tryz.func59 ?_
 simp -implicitDefEqProofs (disch := omega) only [go_sem, Tm.enc]
 refine zA0 (ι := Nat × Int × Int × ByteArray × List Tm) (fun i => mk 34 [(1, slV (p.map zO0)), (2, .one (.ptr 2 0)), (4, .one (.ptr 4 0)), (6, zD0 i.1)] [(2, .var [iC i.2.1, iC i.2.2.1, sC i.2.2.2.1, tC i.2.2.2.2]), (4, .var zT)])
  (fun i => i.1 ≤ p.length ∧ (Tm.mk i.2.1 i.2.2.1 i.2.2.2.1 i.2.2.2.2).size < 1048577 ∧ r = atp (p.drop i.1) (.mk i.2.1 i.2.2.1 i.2.2.2.1 i.2.2.2.2)) (fun i => p.length - i.1) (0, k, n, s, ts) ⟨Nat.zero_le _, hz, by simpa using hr⟩ ?_ zE0 zB0 (by decide +kernel) ?_
 ·exact zG0 (by simp [go_sem]) (by simp [go_sem, zT])
 ·rintro ⟨i, k, n, s, ts⟩ ⟨hi, hsz, he⟩
  simp only at hi hsz he
  have hln := zH0 ts
  have hsz' := hsz
  simp only [Tm.size] at hsz'
  rcases Nat.lt_or_ge i p.length with hlt | hge
  ·have hg := zC0 (ec := zO0) hlt
   simp only [zO0] at hg
   rw [nJ0 p i hlt] at he
   generalize p[i] = x at hg he
   have hin := yi0 x 0 ((ts.length : Int) - 1)
   have e0 : (decide (0 ≤ x) && decide (x < (ts.length : Int))) = (decide (0 ≤ x) && decide (x ≤ (ts.length : Int) - 1)) := by
    congr 1; exact decide_eq_decide.2 (by omega)
   rw [e0] at he
   simp -implicitDefEqProofs (disch := omega) only [go_sem, hg, hlt, List.length_map, enc_len]
   refine CallK.mk hin ?_
   by_cases hc : (decide (0 ≤ x) && decide (x ≤ (ts.length : Int) - 1)) = true
   ·rw [if_pos hc] at he
    have hc' := hc
    simp only [Bool.and_eq_true, decide_eq_true_eq] at hc'
    obtain ⟨j, rfl⟩ : ∃ j : Nat, x = (j : Int) := ⟨x.toNat, by omega⟩
    have hjl : j < ts.length := by omega
    have e1 : ts.getD ((j : Int)).toNat wQ0 = ts[j] := by rw [Int.toNat_natCast, List.getD_eq_getElem?_getD, List.getElem?_eq_getElem hjl, Option.getD_some]
    rw [e1] at he
    have hgt := zF0 ts j hjl
    have hsj := rU0 k n s ts j hjl
    generalize ts[j] = a at hgt he hsj
    obtain ⟨ak, an, as', at_⟩ := a
    simp only [Tm.enc] at hgt
    rw [hc]
    simp -implicitDefEqProofs (disch := omega) only [go_sem, hg, hlt, List.length_map, enc_len, hgt, hjl]
    exact ⟨(i + 1, ak, an, as', at_), ⟨hlt, by simp only; omega, he⟩, by simp only; omega, lek⟩
   ·rw [if_neg hc] at he
    have hc : (decide (0 ≤ x) && decide (x ≤ (ts.length : Int) - 1)) = false := by simpa using hc
    subst he
    rw [hc]
    simp -implicitDefEqProofs (disch := omega) only [go_sem, wQ0, Tm.enc, Tm.encs]
    rfl
  ·have e1 : p.drop i = [] := List.drop_of_length_le hge
   rw [e1] at he
   have he : r = some (.mk k n s ts) := he
   have hc := hcp _ he
   subst he
   simp -implicitDefEqProofs (disch := omega) only [go_sem, Nat.not_lt.2 hge, List.length_map]
   refine CallK.mk hc ?_
   simp -implicitDefEqProofs (disch := omega) only [go_sem, Tm.enc]
   rfl
theorem sR0 (t : Tm) (hz : t.size < 1048577) (p : List Int) (hp : p.length < 100000000) : Sat Tryz.prog 37 [tmV t, slV (p.map zO0)] (.tup [tmV ((atp p t).getD wQ0), boolV (atp p t).isSome]) := by
 obtain ⟨r, hr⟩ : ∃ r, r = atp p t := ⟨_, rfl⟩
 rw [← hr]
 obtain ⟨k, n, s, ts⟩ := t
 refine soc zE0 zB0 Tryz.func37 ?_
 simp -implicitDefEqProofs (disch := omega) only [go_sem, Tm.enc, List.length_map]
 refine zA0 (ι := Nat × Int × Int × ByteArray × List Tm) (fun i => mk 31 [(8, slV (p.map zO0)), (2, .one (.ptr 2 0)), (4, .one (.ptr 4 0)), (9, zD0 p.length), (10, zD0 i.1)] [(2, .var [iC i.2.1, iC i.2.2.1, sC i.2.2.2.1, tC i.2.2.2.2]), (4, .var zT)])
  (fun i => i.1 ≤ p.length ∧ (Tm.mk i.2.1 i.2.2.1 i.2.2.2.1 i.2.2.2.2).size < 1048577 ∧ r = atp (p.drop i.1) (.mk i.2.1 i.2.2.1 i.2.2.2.1 i.2.2.2.2)) (fun i => p.length - i.1) (0, k, n, s, ts) ⟨Nat.zero_le _, hz, by simpa using hr⟩ ?_ zE0 zB0 (by decide +kernel) ?_
 ·exact zG0 (by simp [go_sem]) (by simp [go_sem, zT])
 ·rintro ⟨i, k, n, s, ts⟩ ⟨hi, hsz, he⟩
  simp only at hi hsz he
  have hln := zH0 ts
  have hsz' := hsz
  simp only [Tm.size] at hsz'
  rcases Nat.lt_or_ge i p.length with hlt | hge
  ·have hg := zC0 (ec := zO0) hlt
   simp only [zO0] at hg
   rw [nJ0 p i hlt] at he
   generalize p[i] = x at hg he
   by_cases hc : (decide (0 ≤ x) && decide (x < (ts.length : Int))) = true
   ·rw [if_pos hc] at he
    simp only [Bool.and_eq_true, decide_eq_true_eq] at hc
    obtain ⟨j, rfl⟩ : ∃ j : Nat, x = (j : Int) := ⟨x.toNat, by omega⟩
    have hjl : j < ts.length := by omega
    have e1 : ts.getD ((j : Int)).toNat wQ0 = ts[j] := by rw [Int.toNat_natCast, List.getD_eq_getElem?_getD, List.getElem?_eq_getElem hjl, Option.getD_some]
    rw [e1] at he
    have hgt := zF0 ts j hjl
    have hsj := rU0 k n s ts j hjl
    generalize ts[j] = a at hgt he hsj
    obtain ⟨ak, an, as', at_⟩ := a
    simp only [Tm.enc] at hgt
    have hjn : ¬ (j : Int) < 0 := by omega
    have hjm : ¬ ts.length ≤ j := by omega
    simp -implicitDefEqProofs (disch := omega) only [go_sem, hg, hlt, List.length_map, enc_len, hgt, hjl, hjm]
    exact ⟨(i + 1, ak, an, as', at_), ⟨hlt, by simp only; omega, he⟩, by simp only; omega, lek⟩
   ·rw [if_neg hc] at he
    subst he
    have hc2 : x < 0 ∨ (ts.length : Int) ≤ x := by
     simp only [Bool.and_eq_true, decide_eq_true_eq] at hc
     omega
    simp -implicitDefEqProofs (disch := omega) only [go_sem, hg, hlt, List.length_map, enc_len]
    exact ⟨fun h => ⟨fun _ => rfl, fun h2 => by omega⟩, fun _ => rfl⟩
  ·have e1 : p.drop i = [] := List.drop_of_length_le hge
   rw [e1] at he
   have he : r = some (.mk k n s ts) := he
   subst he
   simp -implicitDefEqProofs (disch := omega) only [go_sem, Nat.not_lt.2 hge, List.length_map]
   rfl
abbrev dh1 (f : FuncId) (t : Tm) (p : List Int) (v : Tm) : Prop := Sat Tryz.prog f [tmV t, slV (p.map zO0), tmV v] (tmV (di1 p t v))
end Go.Ai
