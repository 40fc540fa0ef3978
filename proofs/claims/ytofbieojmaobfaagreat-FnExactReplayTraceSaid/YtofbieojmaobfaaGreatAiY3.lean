/- Subterms at positions, in the reference and in the program; a subterm is put in. -/
import Derived.Test.YtofbieojmaobfaaGreatAiG1
import Derived.Test.YtofbieojmaobfaaGreatAiI3
import Derived.Test.YtofbieojmaobfaaGreatAiP8
import Derived.Test.YtofbieojmaobfaaGreatAiP12
set_option linter.unusedVariables false
set_option linter.unusedSimpArgs false
namespace Go.Ai
open Go.Proofs
set_option maxRecDepth 100000
def atp : List Int → Tm → Option Tm
 | [], t => some t
 | i :: p, .mk _ _ _ ts => if decide (0 ≤ i) && decide (i < (ts.length : Int)) then atp p (ts.getD i.toNat zeroT) else none
def putp : List Int → Tm → Tm → Tm
 | [], _, u => u
 | i :: p, .mk k n s ts, u => .mk k n s (ts.set i.toNat (putp p (ts.getD i.toNat zeroT) u))
theorem atp_drop (p : List Int) (i : Nat) (h : i < p.length) (k n : Int) (s : ByteArray) (ts : List Tm) : atp (p.drop i) (.mk k n s ts) = if decide (0 ≤ p[i]) && decide (p[i] < (ts.length : Int)) then atp (p.drop (i + 1)) (ts.getD p[i].toNat zeroT) else none := by
 rw [List.drop_eq_getElem_cons h]; rfl
theorem atp_size : ∀ (p : List Int) (t u : Tm), atp p t = some u → u.size ≤ t.size
 | [], t, u, h => by cases h; exact Nat.le_refl _
 | i :: p, .mk k n s ts, u, h => by
  simp only [atp] at h
  split at h
  ·rename_i hc
   simp only [Bool.and_eq_true, decide_eq_true_eq] at hc
   have hlt : i.toNat < ts.length := by omega
   have := atp_size p _ u h
   rw [List.getD_eq_getElem?_getD, List.getElem?_eq_getElem hlt, Option.getD_some] at this
   have h2 := size_mem ts _ (List.getElem_mem hlt)
   simp only [Tm.size]; omega
  ·cases h
theorem tsize_lt (k n : Int) (s : ByteArray) (ts : List Tm) (i : Nat) (h : i < ts.length) : ts[i].size < (Tm.mk k n s ts).size := by
 have := size_mem ts _ (List.getElem_mem h)
 simp only [Tm.size]; omega
theorem sizes_set : ∀ (ts : List Tm) (i : Nat) (h : i < ts.length) (u : Tm), Tm.sizes (ts.set i u) + ts[i].size = Tm.sizes ts + u.size
 | t :: ts, 0, h, u => by simp [Tm.sizes]; omega
 | t :: ts, i + 1, h, u => by
  have := sizes_set ts i (by simpa using h) u
  simp [Tm.sizes]; omega
theorem putp_size : ∀ (p : List Int) (t u v : Tm), atp p t = some u → (putp p t v).size ≤ t.size + v.size
 | [], t, u, v, h => by simp [putp]
 | i :: p, .mk k n s ts, u, v, h => by
  simp only [atp] at h
  split at h
  ·rename_i hc
   simp only [Bool.and_eq_true, decide_eq_true_eq] at hc
   have hlt : i.toNat < ts.length := by omega
   have e : ts.getD i.toNat zeroT = ts[i.toNat] := by rw [List.getD_eq_getElem?_getD, List.getElem?_eq_getElem hlt, Option.getD_some]
   have := putp_size p _ u v h
   simp only [putp, Tm.size]
   rw [e] at this ⊢
   have h2 := sizes_set ts i.toNat hlt (putp p ts[i.toNat] v)
   omega
  ·cases h
theorem specTermAtp_sat (t : Tm) (hz : t.size < 1048577) (p : List Int) (hp : p.length < 100000000) : Sat Tryz.prog 133 [tmV t, slV (p.map encI)] (.tup [tmV ((atp p t).getD zeroT), boolV (atp p t).isSome]) := by
 obtain ⟨r, hr⟩ : ∃ r, r = atp p t := ⟨_, rfl⟩
 rw [← hr]
 have hcp := fun u hu => l3Copy_sat u (Nat.lt_of_le_of_lt (atp_size p t u hu) hz)
 rw [← hr] at hcp
 obtain ⟨k, n, s, ts⟩ := t
 refine sat_of_code tbOk mixed Tryz.func133 rfl rfl rfl (by decide +kernel) (by decide +kernel) (Nat.le_of_ble_eq_true rfl) ?_
 simp -implicitDefEqProofs (disch := omega) only [go_sem, Tm.enc]
 refine loopA_rule (ι := Nat × Int × Int × ByteArray × List Tm) (fun i => mk 34 [(1, slV (p.map encI)), (2, .one (.ptr 2 0)), (4, .one (.ptr 4 0)), (6, intV i.1)] [(2, .var [iC i.2.1, iC i.2.2.1, sC i.2.2.2.1, tC i.2.2.2.2]), (4, .var zT)])
  (fun i => i.1 ≤ p.length ∧ (Tm.mk i.2.1 i.2.2.1 i.2.2.2.1 i.2.2.2.2).size < 1048577 ∧ r = atp (p.drop i.1) (.mk i.2.1 i.2.2.1 i.2.2.2.1 i.2.2.2.2)) (fun i => p.length - i.1) (0, k, n, s, ts) ⟨Nat.zero_le _, hz, by simpa using hr⟩ ?_ tbOk mixed (by decide +kernel) ?_
 ·exact le_mk (by simp [go_sem]) (by simp [go_sem, zT])
 ·rintro ⟨i, k, n, s, ts⟩ ⟨hi, hsz, he⟩
  simp only at hi hsz he
  have hln := len_sizes ts
  have hsz' := hsz
  simp only [Tm.size] at hsz'
  rcases Nat.lt_or_ge i p.length with hlt | hge
  ·have hg := map_getD (ec := encI) hlt
   simp only [encI] at hg
   rw [atp_drop p i hlt] at he
   generalize p[i] = x at hg he
   have hin := l1In_sat x 0 ((ts.length : Int) - 1)
   have e0 : (decide (0 ≤ x) && decide (x < (ts.length : Int))) = (decide (0 ≤ x) && decide (x ≤ (ts.length : Int) - 1)) := by
    congr 1; exact decide_eq_decide.2 (by omega)
   rw [e0] at he
   simp -implicitDefEqProofs (disch := omega) only [go_sem, hg, hlt, List.length_map, enc_len]
   refine CallK.mk hin ?_
   by_cases hc : (decide (0 ≤ x) && decide (x ≤ (ts.length : Int) - 1)) = true
   ·rw [if_pos hc] at he
    have hc' := hc
    simp only [Bool.and_eq_true, decide_eq_true_eq] at hc'
    obtain ⟨j, rfl⟩ : ∃ j : Nat, x = (j : Int) := ⟨x.toNat, by omega⟩
    have hjl : j < ts.length := by omega
    have e1 : ts.getD ((j : Int)).toNat zeroT = ts[j] := by rw [Int.toNat_natCast, List.getD_eq_getElem?_getD, List.getElem?_eq_getElem hjl, Option.getD_some]
    rw [e1] at he
    have hgt := encs_getD ts j hjl
    have hsj := tsize_lt k n s ts j hjl
    generalize ts[j] = a at hgt he hsj
    obtain ⟨ak, an, as', at_⟩ := a
    simp only [Tm.enc] at hgt
    rw [hc]
    simp -implicitDefEqProofs (disch := omega) only [go_sem, hg, hlt, List.length_map, enc_len, hgt, hjl]
    exact ⟨(i + 1, ak, an, as', at_), ⟨hlt, by simp only; omega, he⟩, by simp only; omega, le_mk (by simp [go_sem]) (by simp [go_sem])⟩
   ·rw [if_neg hc] at he
    have hc : (decide (0 ≤ x) && decide (x ≤ (ts.length : Int) - 1)) = false := by simpa using hc
    subst he
    rw [hc]
    simp -implicitDefEqProofs (disch := omega) only [go_sem, zeroT, Tm.enc, Tm.encs]
    rfl
  ·have e1 : p.drop i = [] := List.drop_of_length_le hge
   rw [e1] at he
   have he : r = some (.mk k n s ts) := he
   have hc := hcp _ he
   subst he
   simp -implicitDefEqProofs (disch := omega) only [go_sem, Nat.not_lt.2 hge, List.length_map]
   refine CallK.mk hc ?_
   simp -implicitDefEqProofs (disch := omega) only [go_sem, Tm.enc]
   rfl
theorem implAt_sat (t : Tm) (hz : t.size < 1048577) (p : List Int) (hp : p.length < 100000000) : Sat Tryz.prog 145 [tmV t, slV (p.map encI)] (.tup [tmV ((atp p t).getD zeroT), boolV (atp p t).isSome]) := by
 obtain ⟨r, hr⟩ : ∃ r, r = atp p t := ⟨_, rfl⟩
 rw [← hr]
 obtain ⟨k, n, s, ts⟩ := t
 refine sat_of_code tbOk mixed Tryz.func145 rfl rfl rfl (by decide +kernel) (by decide +kernel) (Nat.le_of_ble_eq_true rfl) ?_
 simp -implicitDefEqProofs (disch := omega) only [go_sem, Tm.enc, List.length_map]
 refine loopA_rule (ι := Nat × Int × Int × ByteArray × List Tm) (fun i => mk 31 [(8, slV (p.map encI)), (2, .one (.ptr 2 0)), (4, .one (.ptr 4 0)), (9, intV p.length), (10, intV i.1)] [(2, .var [iC i.2.1, iC i.2.2.1, sC i.2.2.2.1, tC i.2.2.2.2]), (4, .var zT)])
  (fun i => i.1 ≤ p.length ∧ (Tm.mk i.2.1 i.2.2.1 i.2.2.2.1 i.2.2.2.2).size < 1048577 ∧ r = atp (p.drop i.1) (.mk i.2.1 i.2.2.1 i.2.2.2.1 i.2.2.2.2)) (fun i => p.length - i.1) (0, k, n, s, ts) ⟨Nat.zero_le _, hz, by simpa using hr⟩ ?_ tbOk mixed (by decide +kernel) ?_
 ·exact le_mk (by simp [go_sem]) (by simp [go_sem, zT])
 ·rintro ⟨i, k, n, s, ts⟩ ⟨hi, hsz, he⟩
  simp only at hi hsz he
  have hln := len_sizes ts
  have hsz' := hsz
  simp only [Tm.size] at hsz'
  rcases Nat.lt_or_ge i p.length with hlt | hge
  ·have hg := map_getD (ec := encI) hlt
   simp only [encI] at hg
   rw [atp_drop p i hlt] at he
   generalize p[i] = x at hg he
   by_cases hc : (decide (0 ≤ x) && decide (x < (ts.length : Int))) = true
   ·rw [if_pos hc] at he
    simp only [Bool.and_eq_true, decide_eq_true_eq] at hc
    obtain ⟨j, rfl⟩ : ∃ j : Nat, x = (j : Int) := ⟨x.toNat, by omega⟩
    have hjl : j < ts.length := by omega
    have e1 : ts.getD ((j : Int)).toNat zeroT = ts[j] := by rw [Int.toNat_natCast, List.getD_eq_getElem?_getD, List.getElem?_eq_getElem hjl, Option.getD_some]
    rw [e1] at he
    have hgt := encs_getD ts j hjl
    have hsj := tsize_lt k n s ts j hjl
    generalize ts[j] = a at hgt he hsj
    obtain ⟨ak, an, as', at_⟩ := a
    simp only [Tm.enc] at hgt
    have hjn : ¬ (j : Int) < 0 := by omega
    have hjm : ¬ ts.length ≤ j := by omega
    simp -implicitDefEqProofs (disch := omega) only [go_sem, hg, hlt, List.length_map, enc_len, hgt, hjl, hjm]
    exact ⟨(i + 1, ak, an, as', at_), ⟨hlt, by simp only; omega, he⟩, by simp only; omega, le_mk (by simp [go_sem]) (by simp [go_sem])⟩
   ·rw [if_neg hc] at he
    subst he
    have hc2 : x < 0 ∨ (ts.length : Int) ≤ x := by
     simp only [Bool.and_eq_true, decide_eq_true_eq] at hc
     omega
    simp -implicitDefEqProofs (disch := omega) only [go_sem, hg, hlt, List.length_map, enc_len]
    exact ⟨fun h => ⟨fun _ => rfl, fun h2 => by omega⟩, fun _ => rfl⟩
  ·have e1 : p.drop i = [] := List.drop_of_length_le hge
   rw [e1] at he
   have he : r = some (.mk k n s ts) := he
   subst he
   simp -implicitDefEqProofs (disch := omega) only [go_sem, Nat.not_lt.2 hge, List.length_map]
   rfl
theorem l3CopyO_sat (k n : Int) (s : ByteArray) (ts : List Tm) (hz : (Tm.mk k n s ts).size < 1048577) : SatO Tryz.prog 71 [tmV (.mk k n s ts)] 65 4 (rowsOf Tm.enc ts) (.agg [iC k, iC n, sC s, .own 0 ts.length]) := by
 have ih : ∀ t, t ∈ ts → Sat Tryz.prog 71 [tmV t] (tmV t) := fun t ht => l3Copy_sat t (by have := size_mem ts t ht; simp only [Tm.size] at hz; omega)
 have hl : ts.length < 1048577 := by have := len_sizes ts; simp only [Tm.size] at hz; omega
 refine satO_of_code [.agg [iC k, iC n, sC s, .own 0 ts.length]] rfl (by simp) tbOk mixed Tryz.func71 rfl rfl rfl (by decide +kernel) (by decide +kernel) (Nat.le_of_ble_eq_true rfl) (by decide) rowsOf_cl rowsOf_noD rfl ?_
 simp -implicitDefEqProofs (disch := omega) only [go_sem, Tm.enc]
 refine loopA_rule (ι := Nat) (fun i => mk 25 [(1, .one (.ptr 1 0)), (2, .one (.ptr 2 0)), (3, .one (.own 5 (ts.take i).length)), (4, intV i)] [(1, .var [iC k, iC n, sC s, tC ts]), (2, .var zT), (5, .arr 65 4 (rowsOf Tm.enc (ts.take i)) false)])
  (fun i => i ≤ ts.length) (fun i => ts.length - i) 0 (Nat.zero_le _) ?_ tbOk mixed (by decide +kernel) ?_
 ·exact le_mk (by simp [go_sem]) (by simp [go_sem, rowsOf])
 ·intro i hi
  have hln : (ts.take i).length ≤ ts.length := by rw [List.length_take]; omega
  rcases Nat.lt_or_ge i ts.length with hlt | hge
  ·have hg := encs_getD ts i hlt
   have ht : ts.take (i + 1) = ts.take i ++ [ts[i]] := by rw [List.take_add_one, List.getElem?_eq_getElem hlt]; rfl
   simp -implicitDefEqProofs (disch := omega) only [go_sem, hg, hlt]
   refine CallK.mk (ih _ (List.getElem_mem hlt)) ?_
   simp -implicitDefEqProofs (disch := omega) only [go_sem]
   refine ⟨⟨by simp [enc_len], by omega, by omega⟩, fun _ => ⟨i + 1, hlt, by omega, ?_⟩⟩
   rw [ht]
   generalize ts.take i = acc
   generalize ts[i] = a
   exact le_mk (by simp [go_sem]) (by simp [go_sem, zT]; exact rowsOf_snoc a)
  ·have : i = ts.length := by omega
   subst this
   simp -implicitDefEqProofs (disch := omega) only [go_sem, Nat.lt_irrefl, List.take_length]
theorem rowsOf_set (ts : List Tm) (j : Nat) (k n : Int) (s : ByteArray) (us : List Tm) : (rowsOf Tm.enc ts).set j [iC k, iC n, sC s, tC us] = rowsOf Tm.enc (ts.set j (.mk k n s us)) := by
 simp [rowsOf, Tm.enc, List.map_set]
theorem tmsV_map0 (xs : List Tm) : tmsV xs = slV (xs.map Tm.enc) := by rw [← encs_map]
abbrev putSat (f : FuncId) (t : Tm) (p : List Int) (v : Tm) : Prop := Sat Tryz.prog f [tmV t, slV (p.map encI), tmV v] (tmV (putp p t v))
theorem specPut_1 (i : Int) (p : List Int) (hp : p.length < 10000000) (k n : Int) (s : ByteArray) (ts : List Tm) (hz : (Tm.mk k n s ts).size < 1048577) (v : Tm) (j : Nat) (hj : i = (j : Int)) (hjl : j < ts.length) (ih : putSat 134 ts[j] p v) : putSat 134 (.mk k n s ts) (i :: p) v := by
 have hcp := l3CopyO_sat k n s ts hz
 have hln := len_sizes ts
 simp only [Tm.size] at hz
 unfold putSat at ih ⊢
 subst hj
 have e1 : ts.getD j zeroT = ts[j] := by rw [List.getD_eq_getElem?_getD, List.getElem?_eq_getElem hjl, Option.getD_some]
 simp only [putp, Int.toNat_natCast]
 rw [e1]
 have hgt := encs_getD ts j hjl
 have hgr := rowsOf_get (ec := Tm.enc) hjl
 generalize putp p ts[j] v = r at ih ⊢
 generalize ts[j] = a at hgt ih hgr
 obtain ⟨ak, an, as', at_⟩ := a
 obtain ⟨rk, rn, rs, rt⟩ := r
 obtain ⟨vk, vn, vs, vt⟩ := v
 simp only [Tm.enc] at hgt
 simp only [Tm.enc, List.map_cons, List.map_nil] at hgr
 have hst := rowsOf_set ts j rk rn rs rt
 have hdr : ∀ (x : List C) (l : List (List C)), List.drop (Int.toNat 1) (x :: l) = l := fun _ _ => rfl
 have hlm : (p.map encI).length < 10000000 := by rw [List.length_map]; exact hp
 refine sat_of_code tbOk mixed Tryz.func134 rfl rfl rfl (by decide +kernel) (by decide +kernel) (Nat.le_of_ble_eq_true rfl) ?_
 simp -implicitDefEqProofs (disch := omega) only [go_sem, Tm.enc, List.map_cons, List.length_cons, encI]
 refine ⟨fun h => by omega, fun _ => CallK.out hcp rfl ?_⟩
 simp -implicitDefEqProofs (disch := omega) only [go_sem, hgt, hjl, enc_len, List.map_cons, List.length_cons, List.length_map, List.getD_cons_zero, List.drop_succ_cons, List.drop_zero, hdr]
 refine ⟨by omega, fun _ => ⟨by omega, fun _ => ⟨⟨by omega, by omega, by simp [encI]⟩, fun _ => CallK.mk ih ?_⟩⟩⟩
 simp -implicitDefEqProofs (disch := omega) only [go_sem, hgr, hjl, hst, rowsOf_len, rowsOf_toC, Tm.enc, List.map_cons, List.length_cons]
 exact ⟨by simp, fun _ => ⟨by simp, by simp [Tm.enc, encs_map, List.map_set]⟩⟩
theorem atp_cons (i : Int) (p : List Int) (k n : Int) (s : ByteArray) (ts : List Tm) (u : Tm) (h : atp (i :: p) (.mk k n s ts) = some u) : ∃ (j : Nat) (hj : j < ts.length), i = (j : Int) ∧ atp p ts[j] = some u := by
 simp only [atp] at h
 split at h
 ·rename_i hc
  simp only [Bool.and_eq_true, decide_eq_true_eq] at hc
  have hlt : i.toNat < ts.length := by omega
  rw [List.getD_eq_getElem?_getD, List.getElem?_eq_getElem hlt, Option.getD_some] at h
  exact ⟨i.toNat, hlt, by omega, h⟩
 ·cases h
theorem specPut_nil (t v : Tm) (hv : v.size < 1048577) : putSat 134 t [] v := by
 have hc := l3Copy_sat v hv
 unfold putSat
 simp only [putp]
 obtain ⟨k, n, s, ts⟩ := t
 obtain ⟨vk, vn, vs, vt⟩ := v
 refine sat_of_code tbOk mixed Tryz.func134 rfl rfl rfl (by decide +kernel) (by decide +kernel) (Nat.le_of_ble_eq_true rfl) ?_
 simp -implicitDefEqProofs (disch := omega) only [go_sem, Tm.enc, List.map_nil, List.length_nil]
 refine ⟨fun _ => CallK.mk hc ?_, fun h => by simp at h⟩
 simp -implicitDefEqProofs (disch := omega) only [go_sem, Tm.enc]
 rfl
theorem specPut_sat (v : Tm) (hv : v.size < 1048577) : ∀ (p : List Int), p.length < 10000000 → ∀ (t u : Tm), t.size < 1048577 → atp p t = some u → putSat 134 t p v
 | [], _, t, u, _, _ => specPut_nil t v hv
 | i :: p, hp, .mk k n s ts, u, hz, h => by
  obtain ⟨j, hj, e, h2⟩ := atp_cons i p k n s ts u h
  have hs := tsize_lt k n s ts j hj
  simp only [List.length_cons] at hp
  exact specPut_1 i p (by omega) k n s ts hz v j e hj (specPut_sat v hv p (by omega) ts[j] u (by omega) h2)
theorem implWithArg_sat (k n : Int) (s : ByteArray) (ts : List Tm) (hz : (Tm.mk k n s ts).size < 1048577) (v : Tm) (j : Nat) (hjl : j < ts.length) : Sat Tryz.prog 199 [tmV (.mk k n s ts), intV j, tmV v] (tmV (.mk k n s (ts.set j v))) := by
 have hln := len_sizes ts
 simp only [Tm.size] at hz
 have hcl := cloneTerm_sat ts (by omega)
 rw [← tmsV_map0] at hcl
 have hgr := rowsOf_get (ec := Tm.enc) hjl
 generalize ts[j] = a at hgr
 obtain ⟨ak, an, as', at_⟩ := a
 obtain ⟨vk, vn, vs, vt⟩ := v
 simp only [Tm.enc, List.map_cons, List.map_nil] at hgr
 have hst := rowsOf_set ts j vk vn vs vt
 refine sat_of_code tbOk mixed Tryz.func199 rfl rfl rfl (by decide +kernel) (by decide +kernel) (Nat.le_of_ble_eq_true rfl) ?_
 simp -implicitDefEqProofs (disch := omega) only [go_sem, Tm.enc]
 refine CallK.out hcl rfl ?_
 simp -implicitDefEqProofs (disch := omega) only [go_sem, hgr, hjl, hst, rowsOf_len, rowsOf_toC]
 refine ⟨by simp, fun _ => ⟨by simp, ?_⟩⟩
 simp [Tm.enc, encs_map, List.map_set]
theorem implPut_nil (t v : Tm) : putSat 146 t [] v := by
 unfold putSat
 simp only [putp]
 obtain ⟨k, n, s, ts⟩ := t
 obtain ⟨vk, vn, vs, vt⟩ := v
 refine sat_of_code tbOk mixed Tryz.func146 rfl rfl rfl (by decide +kernel) (by decide +kernel) (Nat.le_of_ble_eq_true rfl) ?_
 simp -implicitDefEqProofs (disch := omega) only [go_sem, Tm.enc, List.map_nil, List.length_nil]
 exact ⟨fun _ => rfl, fun h => by simp at h⟩
theorem implPut_1 (i : Int) (p : List Int) (hp : p.length < 10000000) (k n : Int) (s : ByteArray) (ts : List Tm) (hz : (Tm.mk k n s ts).size < 1048577) (v : Tm) (j : Nat) (hj : i = (j : Int)) (hjl : j < ts.length) (ih : putSat 146 ts[j] p v) : putSat 146 (.mk k n s ts) (i :: p) v := by
 have hln := len_sizes ts
 unfold putSat at ih ⊢
 subst hj
 have e1 : ts.getD j zeroT = ts[j] := by rw [List.getD_eq_getElem?_getD, List.getElem?_eq_getElem hjl, Option.getD_some]
 simp only [putp, Int.toNat_natCast]
 rw [e1]
 have hgt := encs_getD ts j hjl
 have hwa := implWithArg_sat k n s ts hz (putp p ts[j] v) j hjl
 simp only [Tm.size] at hz
 generalize putp p ts[j] v = r at ih hwa ⊢
 generalize ts[j] = a at hgt ih
 generalize ts.set j r = ts' at hwa ⊢
 obtain ⟨ak, an, as', at_⟩ := a
 obtain ⟨rk, rn, rs, rt⟩ := r
 obtain ⟨vk, vn, vs, vt⟩ := v
 simp only [Tm.enc] at hgt
 have hdr : ∀ (x : List C) (l : List (List C)), List.drop (Int.toNat 1) (x :: l) = l := fun _ _ => rfl
 have hlm : (p.map encI).length < 10000000 := by rw [List.length_map]; exact hp
 refine sat_of_code tbOk mixed Tryz.func146 rfl rfl rfl (by decide +kernel) (by decide +kernel) (Nat.le_of_ble_eq_true rfl) ?_
 simp -implicitDefEqProofs (disch := omega) only [go_sem, Tm.enc, List.map_cons, List.length_cons, encI, hgt, hjl, enc_len, List.length_map, List.getD_cons_zero, List.drop_succ_cons, List.drop_zero, hdr]
 refine ⟨fun h => by omega, fun _ => ?_⟩
 refine ⟨by omega, fun _ => ⟨by omega, fun _ => ⟨⟨by omega, by omega, by simp [encI]⟩, fun _ => CallK.mk ih ?_⟩⟩⟩
 simp -implicitDefEqProofs (disch := omega) only [go_sem, Tm.enc]
 refine CallK.mk hwa ?_
 simp -implicitDefEqProofs (disch := omega) only [go_sem, Tm.enc]
 rfl
theorem implPut_sat (v : Tm) : ∀ (p : List Int), p.length < 10000000 → ∀ (t u : Tm), t.size < 1048577 → atp p t = some u → putSat 146 t p v
 | [], _, t, u, _, _ => implPut_nil t v
 | i :: p, hp, .mk k n s ts, u, hz, h => by
  obtain ⟨j, hj, e, h2⟩ := atp_cons i p k n s ts u h
  have hs := tsize_lt k n s ts j hj
  simp only [List.length_cons] at hp
  exact implPut_1 i p (by omega) k n s ts hz v j e hj (implPut_sat v p (by omega) ts[j] u (by omega) h2)
end Go.Ai
/- A step: the redex, what is put in, on both sides. -/
namespace Go.Ai
open Go.Proofs
set_option maxRecDepth 100000
def redOk (d : GDefinition) (t : Tm) (q : Int × List Int) : Prop := q.2.length < 1000 ∧ ∃ (j : Nat) (hj : j < d.ru.length) (u : Tm), q.1 = (j : Int) ∧ atp q.2 t = some u ∧ tmOk u ∧ (fireI d.ru[j] u).isSome = true
def doB (d : GDefinition) (t : Tm) (q : Int × List Int) : Tm := putp q.2 t (fireT (d.ru.getD q.1.toNat ⟨sE, zeroT, zeroT, []⟩) ((atp q.2 t).getD zeroT))
def stepB (d : GDefinition) (t : Tm) : Option Tm := match nextB d t with
 | none => none
 | some q => if (doB d t q).valid then some (doB d t q) else none
theorem fireT_ok (x : GRule) (hx : ruleOk x) (t : Tm) (ht : tmOk t) (h : (fireI x t).isSome = true) : (fireT x t).size ≤ 40000 ∧ (fireT x t).wf := by
 obtain ⟨bs, hb⟩ := Option.isSome_iff_exists.1 h
 have := fireI_ok x hx t ht bs hb
 rw [fireT_map, hb]
 exact ⟨this.1, this.2.1⟩
theorem implDo_sat (d : GDefinition) (hl : d.ru.length < 100000000) (hd : ∀ x, x ∈ d.ru → ruleOk x) (t : Tm) (hz : t.size < 1048577) (q : Int × List Int) (hq : redOk d t q) : Sat Tryz.prog 82 [aggV d.enc, tmV t, .agg [iC q.1, .c (.sl (q.2.map encI))]] (.tup [tmV (doB d t q), boolV (doB d t q).valid]) := by
 obtain ⟨k, p⟩ := q
 obtain ⟨hpl, j, hj, u, hk, hat, hu, hfi⟩ := hq
 simp only at hpl hk hat ⊢
 subst hk
 have hxo := hd _ (List.getElem_mem hj)
 have h1 := implAt_sat t hz p (by omega)
 have h2 := implFire_sat d hl j hj hxo u hu
 have hfo := fireT_ok d.ru[j] hxo u hu hfi
 have h3 := implPut_sat (fireT d.ru[j] u) p (by omega) t u hz hat
 have h4 := putp_size p t u (fireT d.ru[j] u) hat
 have h5 := implValid_sat (putp p t (fireT d.ru[j] u)) (by omega)
 have e : doB d t ((j : Int), p) = putp p t (fireT d.ru[j] u) := by
  unfold doB
  simp [hat, List.getD, hj]
 rw [e]
 rw [hat] at h1
 unfold putSat at h3
 rw [hfi] at h2
 generalize (putp p t (fireT d.ru[j] u)).valid = b at h5 ⊢
 generalize putp p t (fireT d.ru[j] u) = r at h3 h5 ⊢
 generalize fireT d.ru[j] u = v at h2 h3
 simp only [Option.getD_some, Option.isSome_some] at h1
 obtain ⟨rk, rn, rs, rt⟩ := r
 obtain ⟨vk, vn, vs, vt⟩ := v
 obtain ⟨k, n, s, ts⟩ := t
 obtain ⟨uk, un, us, ut⟩ := u
 have hde : d.enc = [.sl (d.si.so.map encS), .sl (d.si.op.map GOp.enc), .sl (d.ru.map GRule.enc), .sl (d.st.map GStrict.enc)] := rfl
 refine sat_of_code tbOk mixed Tryz.func82 rfl rfl rfl (by decide +kernel) (by decide +kernel) (Nat.le_of_ble_eq_true rfl) ?_
 simp -implicitDefEqProofs (disch := omega) only [go_sem, Tm.enc, hde]
 refine CallK.mk h1 ?_
 simp -implicitDefEqProofs (disch := omega) only [go_sem, Tm.enc]
 refine CallK.mk h2 ?_
 simp -implicitDefEqProofs (disch := omega) only [go_sem, Tm.enc]
 refine CallK.mk h3 ?_
 simp -implicitDefEqProofs (disch := omega) only [go_sem, Tm.enc]
 refine CallK.mk h5 ?_
 simp -implicitDefEqProofs (disch := omega) only [go_sem, Tm.enc]
 rfl
theorem specDo_sat (d : GDefinition) (hl : d.ru.length < 100000000) (hd : ∀ x, x ∈ d.ru → ruleOk x ∧ ruleB d.si x = true) (t : Tm) (hz : t.size < 1048577) (q : Int × List Int) (hq : redOk d t q) : Sat Tryz.prog 74 [aggV d.enc, tmV t, .agg [iC q.1, .c (.sl (q.2.map encI))]] (.tup [tmV (doB d t q), boolV (doB d t q).valid]) := by
 obtain ⟨k, p⟩ := q
 obtain ⟨hpl, j, hj, u, hk, hat, hu, hfi⟩ := hq
 simp only at hpl hk hat ⊢
 subst hk
 obtain ⟨hxo, hrb⟩ := hd _ (List.getElem_mem hj)
 have h1 := specTermAtp_sat t hz p (by omega)
 have hfs := specFires_sat d.ru[j] hxo u hu
 have hfo := fireT_ok d.ru[j] hxo u hu hfi
 have h3 := specPut_sat (fireT d.ru[j] u) (by omega) p (by omega) t u hz hat
 have h4 := putp_size p t u (fireT d.ru[j] u) hat
 have h5 := specValid_sat (putp p t (fireT d.ru[j] u)) (by omega)
 have e : doB d t ((j : Int), p) = putp p t (fireT d.ru[j] u) := by
  unfold doB
  simp [hat, List.getD, hj]
 rw [e]
 rw [hat] at h1
 unfold putSat at h3
 have hsm := fire_same d.si d.ru[j] u hrb
 rw [hfi] at hsm
 have hsb := fireS_sub d.si d.ru[j] u hrb hsm
 have hso := fireS_ok d.ru[j] hxo u hu
 have hgr := map_getD (ec := GRule.enc) hj
 generalize (putp p t (fireT d.ru[j] u)).valid = b at h5 ⊢
 generalize putp p t (fireT d.ru[j] u) = r at h3 h5 ⊢
 generalize fireT d.ru[j] u = v at h3 hsb
 generalize d.ru[j] = x at hfs hsm hsb hso hgr hxo
 generalize fireS x u = sb at hfs hsm hsb hso
 obtain ⟨sb, ok⟩ := sb
 simp only at hfs hsm hsb hso
 subst hsm
 have z1 := gsub_ok sb hso.1 x.ri hxo.2.1
 have hsu := specSubst_sat sb (by omega) (fun b hb => by have := (hso.1 b hb).1; omega) x.ri (by have := hxo.2.1.1; omega)
 have hre := specReduce_sat (x.ri.sub sb) z1.1
 rw [hsb] at hre
 clear z1
 generalize x.ri.sub sb = y1 at hsu hre
 simp only [Option.getD_some, Option.isSome_some] at h1
 obtain ⟨na, ⟨lk, ln, ls, lt⟩, ⟨ik, in_, is_, it⟩, gu⟩ := x
 obtain ⟨rk, rn, rs, rt⟩ := r
 obtain ⟨vk, vn, vs, vt⟩ := v
 obtain ⟨yk, yn, ys, yt⟩ := y1
 obtain ⟨k, n, s, ts⟩ := t
 obtain ⟨uk, un, us, ut⟩ := u
 have hde : d.enc = [.sl (d.si.so.map encS), .sl (d.si.op.map GOp.enc), .sl (d.ru.map GRule.enc), .sl (d.st.map GStrict.enc)] := rfl
 simp only [GRule.enc, Tm.enc, encS, encL, List.cons_append, List.nil_append] at hgr
 refine sat_of_code tbOk mixed Tryz.func74 rfl rfl rfl (by decide +kernel) (by decide +kernel) (Nat.le_of_ble_eq_true rfl) ?_
 simp -implicitDefEqProofs (disch := omega) only [go_sem, Tm.enc, hde]
 refine CallK.mk h1 ?_
 simp -implicitDefEqProofs (disch := omega) only [go_sem, Tm.enc, List.length_map, hgr, hj]
 refine CallK.mk hfs ?_
 simp -implicitDefEqProofs (disch := omega) only [go_sem, Tm.enc, List.length_map, hgr, hj]
 refine CallK.mk hsu ?_
 simp -implicitDefEqProofs (disch := omega) only [go_sem, Tm.enc]
 refine CallK.mk hre ?_
 simp -implicitDefEqProofs (disch := omega) only [go_sem, Tm.enc]
 refine CallK.mk h3 ?_
 simp -implicitDefEqProofs (disch := omega) only [go_sem, Tm.enc]
 refine CallK.mk h5 ?_
 simp -implicitDefEqProofs (disch := omega) only [go_sem, Tm.enc]
 rfl
end Go.Ai
/- StepTerm on both sides. -/
namespace Go.Ai
open Go.Proofs
set_option maxRecDepth 100000
theorem putp_wf : ∀ (p : List Int) (t u v : Tm), atp p t = some u → t.wf → v.wf → (putp p t v).wf
 | [], t, u, v, h, h1, h2 => h2
 | i :: p, .mk k n s ts, u, v, h, h1, h2 => by
  obtain ⟨j, hj, rfl, h3⟩ := atp_cons i p k n s ts u h
  obtain ⟨w1, w2, w3, w4, w5⟩ := h1
  have hm := (wfs_iff ts).1 w5
  have e1 : ts.getD j zeroT = ts[j] := by rw [List.getD_eq_getElem?_getD, List.getElem?_eq_getElem hj, Option.getD_some]
  have ih := putp_wf p ts[j] u v h3 (hm _ (List.getElem_mem hj)) h2
  simp only [putp, Int.toNat_natCast]
  rw [e1]
  refine ⟨w1, w2, w3, by simpa using w4, (wfs_iff _).2 (fun a ha => ?_)⟩
  rcases List.mem_or_eq_of_mem_set ha with ha | rfl
  ·exact hm a ha
  ·exact ih
theorem doB_wf (d : GDefinition) (hd : ∀ x, x ∈ d.ru → ruleOk x) (t : Tm) (htw : t.wf) (q : Int × List Int) (hq : redOk d t q) : (doB d t q).wf := by
 obtain ⟨k, p⟩ := q
 obtain ⟨hpl, j, hj, u, hk, hat, hu, hfi⟩ := hq
 simp only at hk hat
 subst hk
 have hfo := fireT_ok d.ru[j] (hd _ (List.getElem_mem hj)) u hu hfi
 have h4 := putp_wf p t u (fireT d.ru[j] u) hat htw hfo.2
 unfold doB
 simpa only [hat, Option.getD_some, Int.toNat_natCast, List.getD_eq_getElem?_getD, List.getElem?_eq_getElem hj] using h4
end Go.Ai
