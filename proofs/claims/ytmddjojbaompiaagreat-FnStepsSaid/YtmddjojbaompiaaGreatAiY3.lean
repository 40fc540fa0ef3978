/- Subterms at positions, in the reference and in the program; a subterm is put in. -/
import Derived.Test.YtmddjojbaompiaaGreatAiG1
import Derived.Test.YtmddjojbaompiaaGreatAiI3
import Derived.Test.YtmddjojbaompiaaGreatAiP8
import Derived.Test.YtmddjojbaompiaaGreatAiP12
set_option linter.unusedVariables false
set_option linter.unusedSimpArgs false
namespace Go.Ai
open Go.Proofs
set_option maxRecDepth 100000
def atp : List Int → Tm → Option Tm
 | [], t => some t
 | i :: p, .mk _ _ _ ts => if decide (0 ≤ i) && decide (i < (ts.length : Int)) then atp p (ts.getD i.toNat zeroT) else none
def putp : List Int → Tm → Tm → Tm
 | [], _, u => u
 | i :: p, .mk k n s ts, u => .mk k n s (ts.set i.toNat (putp p (ts.getD i.toNat zeroT) u))
theorem atp_drop (p : List Int) (i : Nat) (h : i < p.length) (k n : Int) (s : ByteArray) (ts : List Tm) : atp (p.drop i) (.mk k n s ts) = if decide (0 ≤ p[i]) && decide (p[i] < (ts.length : Int)) then atp (p.drop (i + 1)) (ts.getD p[i].toNat zeroT) else none := by
 rw [List.drop_eq_getElem_cons h]; rfl
theorem atp_size : ∀ (p : List Int) (t u : Tm), atp p t = some u → u.size ≤ t.size
 | [], t, u, h => by cases h; exact Nat.le_refl _
 | i :: p, .mk k n s ts, u, h => by
  simp only [atp] at h
  split at h
  ·rename_i hc
   simp only [Bool.and_eq_true, decide_eq_true_eq] at hc
   have hlt : i.toNat < ts.length := by omega
   have := atp_size p _ u h
   rw [List.getD_eq_getElem?_getD, List.getElem?_eq_getElem hlt, Option.getD_some] at this
   have h2 := size_mem ts _ (List.getElem_mem hlt)
   simp only [Tm.size]; omega
  ·cases h
theorem tsize_lt (k n : Int) (s : ByteArray) (ts : List Tm) (i : Nat) (h : i < ts.length) : ts[i].size < (Tm.mk k n s ts).size := by
 have := size_mem ts _ (List.getElem_mem h)
 simp only [Tm.size]; omega
theorem sizes_set : ∀ (ts : List Tm) (i : Nat) (h : i < ts.length) (u : Tm), Tm.sizes (ts.set i u) + ts[i].size = Tm.sizes ts + u.size
 | t :: ts, 0, h, u => by simp [Tm.sizes]; omega
 | t :: ts, i + 1, h, u => by
  have := sizes_set ts i (by simpa using h) u
  simp [Tm.sizes]; omega
theorem putp_size : ∀ (p : List Int) (t u v : Tm), atp p t = some u → (putp p t v).size ≤ t.size + v.size
 | [], t, u, v, h => by simp [putp]
 | i :: p, .mk k n s ts, u, v, h => by
  simp only [atp] at h
  split at h
  ·rename_i hc
   simp only [Bool.and_eq_true, decide_eq_true_eq] at hc
   have hlt : i.toNat < ts.length := by omega
   have e : ts.getD i.toNat zeroT = ts[i.toNat] := by rw [List.getD_eq_getElem?_getD, List.getElem?_eq_getElem hlt, Option.getD_some]
   have := putp_size p _ u v h
   simp only [putp, Tm.size]
   rw [e] at this ⊢
   have h2 := sizes_set ts i.toNat hlt (putp p ts[i.toNat] v)
   omega
  ·cases h
theorem specTermAtp_sat (t : Tm) (hz : t.size < 1048577) (p : List Int) (hp : p.length < 100000000) : Sat Tryz.prog 40 [tmV t, slV (p.map encI)] (.tup [tmV ((atp p t).getD zeroT), boolV (atp p t).isSome]) := by
 obtain ⟨r, hr⟩ : ∃ r, r = atp p t := ⟨_, rfl⟩
 rw [← hr]
 have hcp := fun u hu => l3Copy_sat u (Nat.lt_of_le_of_lt (atp_size p t u hu) hz)
 rw [← hr] at hcp
 obtain ⟨k, n, s, ts⟩ := t
 refine sat_of_code tbOk mixed Tryz.func40 rfl rfl rfl (by decide +kernel) (by decide +kernel) (Nat.le_of_ble_eq_true rfl) ?_
 simp -implicitDefEqProofs (disch := omega) only [go_sem, Tm.enc]
 refine loopA_rule (ι := Nat × Int × Int × ByteArray × List Tm) (fun i => mk 34 [(1, slV (p.map encI)), (2, .one (.ptr 2 0)), (4, .one (.ptr 4 0)), (6, intV i.1)] [(2, .var [iC i.2.1, iC i.2.2.1, sC i.2.2.2.1, tC i.2.2.2.2]), (4, .var zT)])
  (fun i => i.1 ≤ p.length ∧ (Tm.mk i.2.1 i.2.2.1 i.2.2.2.1 i.2.2.2.2).size < 1048577 ∧ r = atp (p.drop i.1) (.mk i.2.1 i.2.2.1 i.2.2.2.1 i.2.2.2.2)) (fun i => p.length - i.1) (0, k, n, s, ts) ⟨Nat.zero_le _, hz, by simpa using hr⟩ ?_ tbOk mixed (by decide +kernel) ?_
 ·exact le_mk (by simp [go_sem]) (by simp [go_sem, zT])
 ·rintro ⟨i, k, n, s, ts⟩ ⟨hi, hsz, he⟩
  simp only at hi hsz he
  have hln := len_sizes ts
  have hsz' := hsz
  simp only [Tm.size] at hsz'
  rcases Nat.lt_or_ge i p.length with hlt | hge
  ·have hg := map_getD (ec := encI) hlt
   simp only [encI] at hg
   rw [atp_drop p i hlt] at he
   generalize p[i] = x at hg he
   have hin := l1In_sat x 0 ((ts.length : Int) - 1)
   have e0 : (decide (0 ≤ x) && decide (x < (ts.length : Int))) = (decide (0 ≤ x) && decide (x ≤ (ts.length : Int) - 1)) := by
    congr 1; exact decide_eq_decide.2 (by omega)
   rw [e0] at he
   simp -implicitDefEqProofs (disch := omega) only [go_sem, hg, hlt, List.length_map, enc_len]
   refine CallK.mk hin ?_
   by_cases hc : (decide (0 ≤ x) && decide (x ≤ (ts.length : Int) - 1)) = true
   ·rw [if_pos hc] at he
    have hc' := hc
    simp only [Bool.and_eq_true, decide_eq_true_eq] at hc'
    obtain ⟨j, rfl⟩ : ∃ j : Nat, x = (j : Int) := ⟨x.toNat, by omega⟩
    have hjl : j < ts.length := by omega
    have e1 : ts.getD ((j : Int)).toNat zeroT = ts[j] := by rw [Int.toNat_natCast, List.getD_eq_getElem?_getD, List.getElem?_eq_getElem hjl, Option.getD_some]
    rw [e1] at he
    have hgt := encs_getD ts j hjl
    have hsj := tsize_lt k n s ts j hjl
    generalize ts[j] = a at hgt he hsj
    obtain ⟨ak, an, as', at_⟩ := a
    simp only [Tm.enc] at hgt
    rw [hc]
    simp -implicitDefEqProofs (disch := omega) only [go_sem, hg, hlt, List.length_map, enc_len, hgt, hjl]
    exact ⟨(i + 1, ak, an, as', at_), ⟨hlt, by simp only; omega, he⟩, by simp only; omega, le_mk (by simp [go_sem]) (by simp [go_sem])⟩
   ·rw [if_neg hc] at he
    have hc : (decide (0 ≤ x) && decide (x ≤ (ts.length : Int) - 1)) = false := by simpa using hc
    subst he
    rw [hc]
    simp -implicitDefEqProofs (disch := omega) only [go_sem, zeroT, Tm.enc, Tm.encs]
    rfl
  ·have e1 : p.drop i = [] := List.drop_of_length_le hge
   rw [e1] at he
   have he : r = some (.mk k n s ts) := he
   have hc := hcp _ he
   subst he
   simp -implicitDefEqProofs (disch := omega) only [go_sem, Nat.not_lt.2 hge, List.length_map]
   refine CallK.mk hc ?_
   simp -implicitDefEqProofs (disch := omega) only [go_sem, Tm.enc]
   rfl
theorem implAt_sat (t : Tm) (hz : t.size < 1048577) (p : List Int) (hp : p.length < 100000000) : Sat Tryz.prog 185 [tmV t, slV (p.map encI)] (.tup [tmV ((atp p t).getD zeroT), boolV (atp p t).isSome]) := by
 obtain ⟨r, hr⟩ : ∃ r, r = atp p t := ⟨_, rfl⟩
 rw [← hr]
 obtain ⟨k, n, s, ts⟩ := t
 refine sat_of_code tbOk mixed Tryz.func185 rfl rfl rfl (by decide +kernel) (by decide +kernel) (Nat.le_of_ble_eq_true rfl) ?_
 simp -implicitDefEqProofs (disch := omega) only [go_sem, Tm.enc, List.length_map]
 refine loopA_rule (ι := Nat × Int × Int × ByteArray × List Tm) (fun i => mk 31 [(8, slV (p.map encI)), (2, .one (.ptr 2 0)), (4, .one (.ptr 4 0)), (9, intV p.length), (10, intV i.1)] [(2, .var [iC i.2.1, iC i.2.2.1, sC i.2.2.2.1, tC i.2.2.2.2]), (4, .var zT)])
  (fun i => i.1 ≤ p.length ∧ (Tm.mk i.2.1 i.2.2.1 i.2.2.2.1 i.2.2.2.2).size < 1048577 ∧ r = atp (p.drop i.1) (.mk i.2.1 i.2.2.1 i.2.2.2.1 i.2.2.2.2)) (fun i => p.length - i.1) (0, k, n, s, ts) ⟨Nat.zero_le _, hz, by simpa using hr⟩ ?_ tbOk mixed (by decide +kernel) ?_
 ·exact le_mk (by simp [go_sem]) (by simp [go_sem, zT])
 ·rintro ⟨i, k, n, s, ts⟩ ⟨hi, hsz, he⟩
  simp only at hi hsz he
  have hln := len_sizes ts
  have hsz' := hsz
  simp only [Tm.size] at hsz'
  rcases Nat.lt_or_ge i p.length with hlt | hge
  ·have hg := map_getD (ec := encI) hlt
   simp only [encI] at hg
   rw [atp_drop p i hlt] at he
   generalize p[i] = x at hg he
   by_cases hc : (decide (0 ≤ x) && decide (x < (ts.length : Int))) = true
   ·rw [if_pos hc] at he
    simp only [Bool.and_eq_true, decide_eq_true_eq] at hc
    obtain ⟨j, rfl⟩ : ∃ j : Nat, x = (j : Int) := ⟨x.toNat, by omega⟩
    have hjl : j < ts.length := by omega
    have e1 : ts.getD ((j : Int)).toNat zeroT = ts[j] := by rw [Int.toNat_natCast, List.getD_eq_getElem?_getD, List.getElem?_eq_getElem hjl, Option.getD_some]
    rw [e1] at he
    have hgt := encs_getD ts j hjl
    have hsj := tsize_lt k n s ts j hjl
    generalize ts[j] = a at hgt he hsj
    obtain ⟨ak, an, as', at_⟩ := a
    simp only [Tm.enc] at hgt
    have hjn : ¬ (j : Int) < 0 := by omega
    have hjm : ¬ ts.length ≤ j := by omega
    simp -implicitDefEqProofs (disch := omega) only [go_sem, hg, hlt, List.length_map, enc_len, hgt, hjl, hjm]
    exact ⟨(i + 1, ak, an, as', at_), ⟨hlt, by simp only; omega, he⟩, by simp only; omega, le_mk (by simp [go_sem]) (by simp [go_sem])⟩
   ·rw [if_neg hc] at he
    subst he
    have hc2 : x < 0 ∨ (ts.length : Int) ≤ x := by
     simp only [Bool.and_eq_true, decide_eq_true_eq] at hc
     omega
    simp -implicitDefEqProofs (disch := omega) only [go_sem, hg, hlt, List.length_map, enc_len]
    exact ⟨fun h => ⟨fun _ => rfl, fun h2 => by omega⟩, fun _ => rfl⟩
  ·have e1 : p.drop i = [] := List.drop_of_length_le hge
   rw [e1] at he
   have he : r = some (.mk k n s ts) := he
   subst he
   simp -implicitDefEqProofs (disch := omega) only [go_sem, Nat.not_lt.2 hge, List.length_map]
   rfl
theorem l3CopyO_sat (k n : Int) (s : ByteArray) (ts : List Tm) (hz : (Tm.mk k n s ts).size < 1048577) : SatO Tryz.prog 114 [tmV (.mk k n s ts)] 37 4 (rowsOf Tm.enc ts) (.agg [iC k, iC n, sC s, .own 0 ts.length]) := by
 have ih : ∀ t, t ∈ ts → Sat Tryz.prog 114 [tmV t] (tmV t) := fun t ht => l3Copy_sat t (by have := size_mem ts t ht; simp only [Tm.size] at hz; omega)
 have hl : ts.length < 1048577 := by have := len_sizes ts; simp only [Tm.size] at hz; omega
 refine satO_of_code [.agg [iC k, iC n, sC s, .own 0 ts.length]] rfl (by simp) tbOk mixed Tryz.func114 rfl rfl rfl (by decide +kernel) (by decide +kernel) (Nat.le_of_ble_eq_true rfl) (by decide) rowsOf_cl rowsOf_noD rfl ?_
 simp -implicitDefEqProofs (disch := omega) only [go_sem, Tm.enc]
 refine loopA_rule (ι := Nat) (fun i => mk 25 [(1, .one (.ptr 1 0)), (2, .one (.ptr 2 0)), (3, .one (.own 5 (ts.take i).length)), (4, intV i)] [(1, .var [iC k, iC n, sC s, tC ts]), (2, .var zT), (5, .arr 37 4 (rowsOf Tm.enc (ts.take i)) false)])
  (fun i => i ≤ ts.length) (fun i => ts.length - i) 0 (Nat.zero_le _) ?_ tbOk mixed (by decide +kernel) ?_
 ·exact le_mk (by simp [go_sem]) (by simp [go_sem, rowsOf])
 ·intro i hi
  have hln : (ts.take i).length ≤ ts.length := by rw [List.length_take]; omega
  rcases Nat.lt_or_ge i ts.length with hlt | hge
  ·have hg := encs_getD ts i hlt
   have ht : ts.take (i + 1) = ts.take i ++ [ts[i]] := by rw [List.take_add_one, List.getElem?_eq_getElem hlt]; rfl
   simp -implicitDefEqProofs (disch := omega) only [go_sem, hg, hlt]
   refine CallK.mk (ih _ (List.getElem_mem hlt)) ?_
   simp -implicitDefEqProofs (disch := omega) only [go_sem]
   refine ⟨⟨by simp [enc_len], by omega, by omega⟩, fun _ => ⟨i + 1, hlt, by omega, ?_⟩⟩
   rw [ht]
   generalize ts.take i = acc
   generalize ts[i] = a
   exact le_mk (by simp [go_sem]) (by simp [go_sem, zT]; exact rowsOf_snoc a)
  ·have : i = ts.length := by omega
   subst this
   simp -implicitDefEqProofs (disch := omega) only [go_sem, Nat.lt_irrefl, List.take_length]
theorem rowsOf_set (ts : List Tm) (j : Nat) (k n : Int) (s : ByteArray) (us : List Tm) : (rowsOf Tm.enc ts).set j [iC k, iC n, sC s, tC us] = rowsOf Tm.enc (ts.set j (.mk k n s us)) := by
 simp [rowsOf, Tm.enc, List.map_set]
theorem tmsV_map0 (xs : List Tm) : tmsV xs = slV (xs.map Tm.enc) := by rw [← encs_map]
abbrev putSat (f : FuncId) (t : Tm) (p : List Int) (v : Tm) : Prop := Sat Tryz.prog f [tmV t, slV (p.map encI), tmV v] (tmV (putp p t v))
theorem specPut_1 (i : Int) (p : List Int) (hp : p.length < 10000000) (k n : Int) (s : ByteArray) (ts : List Tm) (hz : (Tm.mk k n s ts).size < 1048577) (v : Tm) (j : Nat) (hj : i = (j : Int)) (hjl : j < ts.length) (ih : putSat 187 ts[j] p v) : putSat 187 (.mk k n s ts) (i :: p) v := by
 have hcp := l3CopyO_sat k n s ts hz
 have hln := len_sizes ts
 simp only [Tm.size] at hz
 unfold putSat at ih ⊢
 subst hj
 have e1 : ts.getD j zeroT = ts[j] := by rw [List.getD_eq_getElem?_getD, List.getElem?_eq_getElem hjl, Option.getD_some]
 simp only [putp, Int.toNat_natCast]
 rw [e1]
 have hgt := encs_getD ts j hjl
 have hgr := rowsOf_get (ec := Tm.enc) hjl
 generalize putp p ts[j] v = r at ih ⊢
 generalize ts[j] = a at hgt ih hgr
 obtain ⟨ak, an, as', at_⟩ := a
 obtain ⟨rk, rn, rs, rt⟩ := r
 obtain ⟨vk, vn, vs, vt⟩ := v
 simp only [Tm.enc] at hgt
 simp only [Tm.enc, List.map_cons, List.map_nil] at hgr
 have hst := rowsOf_set ts j rk rn rs rt
 have hdr : ∀ (x : List C) (l : List (List C)), List.drop (Int.toNat 1) (x :: l) = l := fun _ _ => rfl
 have hlm : (p.map encI).length < 10000000 := by rw [List.length_map]; exact hp
 refine sat_of_code tbOk mixed Tryz.func187 rfl rfl rfl (by decide +kernel) (by decide +kernel) (Nat.le_of_ble_eq_true rfl) ?_
 simp -implicitDefEqProofs (disch := omega) only [go_sem, Tm.enc, List.map_cons, List.length_cons, encI]
 refine ⟨fun h => by omega, fun _ => CallK.out hcp rfl ?_⟩
 simp -implicitDefEqProofs (disch := omega) only [go_sem, hgt, hjl, enc_len, List.map_cons, List.length_cons, List.length_map, List.getD_cons_zero, List.drop_succ_cons, List.drop_zero, hdr]
 refine ⟨by omega, fun _ => ⟨by omega, fun _ => ⟨⟨by omega, by omega, by simp [encI]⟩, fun _ => CallK.mk ih ?_⟩⟩⟩
 simp -implicitDefEqProofs (disch := omega) only [go_sem, hgr, hjl, hst, rowsOf_len, rowsOf_toC, Tm.enc, List.map_cons, List.length_cons]
 exact ⟨by simp, fun _ => ⟨by simp, by simp [Tm.enc, encs_map, List.map_set]⟩⟩
theorem atp_cons (i : Int) (p : List Int) (k n : Int) (s : ByteArray) (ts : List Tm) (u : Tm) (h : atp (i :: p) (.mk k n s ts) = some u) : ∃ (j : Nat) (hj : j < ts.length), i = (j : Int) ∧ atp p ts[j] = some u := by
 simp only [atp] at h
 split at h
 ·rename_i hc
  simp only [Bool.and_eq_true, decide_eq_true_eq] at hc
  have hlt : i.toNat < ts.length := by omega
  rw [List.getD_eq_getElem?_getD, List.getElem?_eq_getElem hlt, Option.getD_some] at h
  exact ⟨i.toNat, hlt, by omega, h⟩
 ·cases h
theorem specPut_nil (t v : Tm) (hv : v.size < 1048577) : putSat 187 t [] v := by
 have hc := l3Copy_sat v hv
 unfold putSat
 simp only [putp]
 obtain ⟨k, n, s, ts⟩ := t
 obtain ⟨vk, vn, vs, vt⟩ := v
 refine sat_of_code tbOk mixed Tryz.func187 rfl rfl rfl (by decide +kernel) (by decide +kernel) (Nat.le_of_ble_eq_true rfl) ?_
 simp -implicitDefEqProofs (disch := omega) only [go_sem, Tm.enc, List.map_nil, List.length_nil]
 refine ⟨fun _ => CallK.mk hc ?_, fun h => by simp at h⟩
 simp -implicitDefEqProofs (disch := omega) only [go_sem, Tm.enc]
 rfl
theorem specPut_sat (v : Tm) (hv : v.size < 1048577) : ∀ (p : List Int), p.length < 10000000 → ∀ (t u : Tm), t.size < 1048577 → atp p t = some u → putSat 187 t p v
 | [], _, t, u, _, _ => specPut_nil t v hv
 | i :: p, hp, .mk k n s ts, u, hz, h => by
  obtain ⟨j, hj, e, h2⟩ := atp_cons i p k n s ts u h
  have hs := tsize_lt k n s ts j hj
  simp only [List.length_cons] at hp
  exact specPut_1 i p (by omega) k n s ts hz v j e hj (specPut_sat v hv p (by omega) ts[j] u (by omega) h2)
theorem implWithArg_sat (k n : Int) (s : ByteArray) (ts : List Tm) (hz : (Tm.mk k n s ts).size < 1048577) (v : Tm) (j : Nat) (hjl : j < ts.length) : Sat Tryz.prog 207 [tmV (.mk k n s ts), intV j, tmV v] (tmV (.mk k n s (ts.set j v))) := by
 have hln := len_sizes ts
 simp only [Tm.size] at hz
 have hcl := cloneTerm_sat ts (by omega)
 rw [← tmsV_map0] at hcl
 have hgr := rowsOf_get (ec := Tm.enc) hjl
 generalize ts[j] = a at hgr
 obtain ⟨ak, an, as', at_⟩ := a
 obtain ⟨vk, vn, vs, vt⟩ := v
 simp only [Tm.enc, List.map_cons, List.map_nil] at hgr
 have hst := rowsOf_set ts j vk vn vs vt
 refine sat_of_code tbOk mixed Tryz.func207 rfl rfl rfl (by decide +kernel) (by decide +kernel) (Nat.le_of_ble_eq_true rfl) ?_
 simp -implicitDefEqProofs (disch := omega) only [go_sem, Tm.enc]
 refine CallK.out hcl rfl ?_
 simp -implicitDefEqProofs (disch := omega) only [go_sem, hgr, hjl, hst, rowsOf_len, rowsOf_toC]
 refine ⟨by simp, fun _ => ⟨by simp, ?_⟩⟩
 simp [Tm.enc, encs_map, List.map_set]
theorem implPut_nil (t v : Tm) : putSat 186 t [] v := by
 unfold putSat
 simp only [putp]
 obtain ⟨k, n, s, ts⟩ := t
 obtain ⟨vk, vn, vs, vt⟩ := v
 refine sat_of_code tbOk mixed Tryz.func186 rfl rfl rfl (by decide +kernel) (by decide +kernel) (Nat.le_of_ble_eq_true rfl) ?_
 simp -implicitDefEqProofs (disch := omega) only [go_sem, Tm.enc, List.map_nil, List.length_nil]
 exact ⟨fun _ => rfl, fun h => by simp at h⟩
theorem implPut_1 (i : Int) (p : List Int) (hp : p.length < 10000000) (k n : Int) (s : ByteArray) (ts : List Tm) (hz : (Tm.mk k n s ts).size < 1048577) (v : Tm) (j : Nat) (hj : i = (j : Int)) (hjl : j < ts.length) (ih : putSat 186 ts[j] p v) : putSat 186 (.mk k n s ts) (i :: p) v := by
 have hln := len_sizes ts
 unfold putSat at ih ⊢
 subst hj
 have e1 : ts.getD j zeroT = ts[j] := by rw [List.getD_eq_getElem?_getD, List.getElem?_eq_getElem hjl, Option.getD_some]
 simp only [putp, Int.toNat_natCast]
 rw [e1]
 have hgt := encs_getD ts j hjl
 have hwa := implWithArg_sat k n s ts hz (putp p ts[j] v) j hjl
 simp only [Tm.size] at hz
 generalize putp p ts[j] v = r at ih hwa ⊢
 generalize ts[j] = a at hgt ih
 generalize ts.set j r = ts' at hwa ⊢
 obtain ⟨ak, an, as', at_⟩ := a
 obtain ⟨rk, rn, rs, rt⟩ := r
 obtain ⟨vk, vn, vs, vt⟩ := v
 simp only [Tm.enc] at hgt
 have hdr : ∀ (x : List C) (l : List (List C)), List.drop (Int.toNat 1) (x :: l) = l := fun _ _ => rfl
 have hlm : (p.map encI).length < 10000000 := by rw [List.length_map]; exact hp
 refine sat_of_code tbOk mixed Tryz.func186 rfl rfl rfl (by decide +kernel) (by decide +kernel) (Nat.le_of_ble_eq_true rfl) ?_
 simp -implicitDefEqProofs (disch := omega) only [go_sem, Tm.enc, List.map_cons, List.length_cons, encI, hgt, hjl, enc_len, List.length_map, List.getD_cons_zero, List.drop_succ_cons, List.drop_zero, hdr]
 refine ⟨fun h => by omega, fun _ => ?_⟩
 refine ⟨by omega, fun _ => ⟨by omega, fun _ => ⟨⟨by omega, by omega, by simp [encI]⟩, fun _ => CallK.mk ih ?_⟩⟩⟩
 simp -implicitDefEqProofs (disch := omega) only [go_sem, Tm.enc]
 refine CallK.mk hwa ?_
 simp -implicitDefEqProofs (disch := omega) only [go_sem, Tm.enc]
 rfl
theorem implPut_sat (v : Tm) : ∀ (p : List Int), p.length < 10000000 → ∀ (t u : Tm), t.size < 1048577 → atp p t = some u → putSat 186 t p v
 | [], _, t, u, _, _ => implPut_nil t v
 | i :: p, hp, .mk k n s ts, u, hz, h => by
  obtain ⟨j, hj, e, h2⟩ := atp_cons i p k n s ts u h
  have hs := tsize_lt k n s ts j hj
  simp only [List.length_cons] at hp
  exact implPut_1 i p (by omega) k n s ts hz v j e hj (implPut_sat v p (by omega) ts[j] u (by omega) h2)
end Go.Ai
/- A step: the redex, what is put in, on both sides. -/
namespace Go.Ai
open Go.Proofs
set_option maxRecDepth 100000
theorem firstR_some (rs : List (Option (Int × List Int))) : ∀ (xs : List Int) (q : Int × List Int), firstR rs xs = some q → ∃ x p, x ∈ xs ∧ q.2 = x :: p ∧ rs.getD x.toNat none = some (q.1, p)
 | [], q, h => by cases h
 | x :: xs, q, h => by
  simp only [firstR] at h
  cases hg : rs.getD x.toNat none with
  | none =>
   rw [hg] at h
   obtain ⟨y, p, h1, h2, h3⟩ := firstR_some rs xs q h
   exact ⟨y, p, List.mem_cons_of_mem _ h1, h2, h3⟩
  | some q' =>
   rw [hg] at h
   cases h
   exact ⟨x, q'.2, List.mem_cons_self, rfl, hg⟩
theorem rootI_some (p : GRule → Bool) : ∀ (rs : List GRule) (k : Int), 0 ≤ k → 0 ≤ rootI p rs k → ∃ (j : Nat) (h : j < rs.length), rootI p rs k = k + j ∧ p rs[j] = true
 | [], k, h0, h => by simp [rootI] at h
 | r :: rs, k, h0, h => by
  simp only [rootI] at h ⊢
  by_cases hp : p r = true
  ·rw [if_pos hp]
   exact ⟨0, by simp, by simp, by simpa using hp⟩
  ·rw [if_neg hp] at h ⊢
   obtain ⟨j, hj, h1, h2⟩ := rootI_some p rs (k + 1) (by omega) h
   exact ⟨j + 1, by simpa using hj, by rw [h1]; omega, by simpa using h2⟩
theorem nxt_at (st : List GStrict) (root : Tm → Int) : ∀ (t : Tm), tmOk t → rng st t → ∀ (q : Int × List Int), t.nxt st root = some q → ∃ u, atp q.2 t = some u ∧ tmOk u ∧ root u = q.1 ∧ 0 ≤ q.1 := by
 refine Tm.ind (fun k n s ts ih ht hrg q hq => ?_)
 rw [Tm.nxt] at hq
 cases hf : firstR (Tm.nxts st root ts) (if k = 2 then strictOf st s else []) with
 | some q' =>
  rw [hf] at hq
  cases hq
  obtain ⟨x, p, hx, hp, hg⟩ := firstR_some _ _ _ hf
  by_cases hk : k = 2
  ·rw [if_pos hk] at hx
   have hx2 := hrg.1 hk x hx
   rw [nxts_get st root ts x.toNat hx2.2] at hg
   have hm := List.getElem_mem hx2.2
   obtain ⟨u, h1, h2, h3, h4⟩ := ih _ hm (tmOk_sub k n s ts ht _ hm) (rngs_mem st ts hrg.2 _ hm) _ hg
   refine ⟨u, ?_, h2, h3, h4⟩
   rw [hp]
   simp only [atp]
   rw [if_pos (by simp; omega), List.getD_eq_getElem?_getD, List.getElem?_eq_getElem hx2.2, Option.getD_some]
   exact h1
  ·rw [if_neg hk] at hx
   cases hx
 | none =>
  rw [hf] at hq
  simp only at hq
  split at hq
  ·cases hq
  ·rename_i hn
   cases hq
   exact ⟨_, rfl, ht, rfl, by omega⟩
def redOk (d : GDefinition) (t : Tm) (q : Int × List Int) : Prop := q.2.length < 1000 ∧ ∃ (j : Nat) (hj : j < d.ru.length) (u : Tm), q.1 = (j : Int) ∧ atp q.2 t = some u ∧ tmOk u ∧ (fireI d.ru[j] u).isSome = true
theorem next_ok (d : GDefinition) (hw : d.wf) (t : Tm) (htw : t.wf) (q : Int × List Int) (h : nextB d t = some q) : cfgB d t = true ∧ redOk d t q := by
 unfold nextB at h
 split at h
 ·rename_i hc
  have hok := cfg_ok d hw t htw hc
  obtain ⟨u, h1, h2, h3, h4⟩ := nxt_at d.st (rootF d) t hok.2.1 (cfg_rng d t hc) q h
  have hlen := nxt_len d.st (rootF d) t q h
  have := hok.2.1.1
  rw [← h3] at h4
  obtain ⟨j, hj, e1, e2⟩ := rootI_some (fun x => (fireI x u).isSome) d.ru 0 (by omega) h4
  refine ⟨hc, by omega, j, hj, u, ?_, h1, h2, e2⟩
  rw [← h3]
  exact e1.trans (by omega)
 ·cases h
def doB (d : GDefinition) (t : Tm) (q : Int × List Int) : Tm := putp q.2 t (fireT (d.ru.getD q.1.toNat ⟨sE, zeroT, zeroT, []⟩) ((atp q.2 t).getD zeroT))
def stepB (d : GDefinition) (t : Tm) : Option Tm := match nextB d t with
 | none => none
 | some q => if (doB d t q).valid then some (doB d t q) else none
theorem fireT_ok (x : GRule) (hx : ruleOk x) (t : Tm) (ht : tmOk t) (h : (fireI x t).isSome = true) : (fireT x t).size ≤ 40000 ∧ (fireT x t).wf := by
 obtain ⟨bs, hb⟩ := Option.isSome_iff_exists.1 h
 have := fireI_ok x hx t ht bs hb
 rw [fireT_map, hb]
 exact ⟨this.1, this.2.1⟩
theorem implDo_sat (d : GDefinition) (hl : d.ru.length < 100000000) (hd : ∀ x, x ∈ d.ru → ruleOk x) (t : Tm) (hz : t.size < 1048577) (q : Int × List Int) (hq : redOk d t q) : Sat Tryz.prog 120 [aggV d.enc, tmV t, .agg [iC q.1, .c (.sl (q.2.map encI))]] (.tup [tmV (doB d t q), boolV (doB d t q).valid]) := by
 obtain ⟨k, p⟩ := q
 obtain ⟨hpl, j, hj, u, hk, hat, hu, hfi⟩ := hq
 simp only at hpl hk hat ⊢
 subst hk
 have hxo := hd _ (List.getElem_mem hj)
 have h1 := implAt_sat t hz p (by omega)
 have h2 := implFire_sat d hl j hj hxo u hu
 have hfo := fireT_ok d.ru[j] hxo u hu hfi
 have h3 := implPut_sat (fireT d.ru[j] u) p (by omega) t u hz hat
 have h4 := putp_size p t u (fireT d.ru[j] u) hat
 have h5 := implValid_sat (putp p t (fireT d.ru[j] u)) (by omega)
 have e : doB d t ((j : Int), p) = putp p t (fireT d.ru[j] u) := by
  unfold doB
  simp [hat, List.getD, hj]
 rw [e]
 rw [hat] at h1
 unfold putSat at h3
 rw [hfi] at h2
 generalize (putp p t (fireT d.ru[j] u)).valid = b at h5 ⊢
 generalize putp p t (fireT d.ru[j] u) = r at h3 h5 ⊢
 generalize fireT d.ru[j] u = v at h2 h3
 simp only [Option.getD_some, Option.isSome_some] at h1
 obtain ⟨rk, rn, rs, rt⟩ := r
 obtain ⟨vk, vn, vs, vt⟩ := v
 obtain ⟨k, n, s, ts⟩ := t
 obtain ⟨uk, un, us, ut⟩ := u
 have hde : d.enc = [.sl (d.si.so.map encS), .sl (d.si.op.map GOp.enc), .sl (d.ru.map GRule.enc), .sl (d.st.map GStrict.enc)] := rfl
 refine sat_of_code tbOk mixed Tryz.func120 rfl rfl rfl (by decide +kernel) (by decide +kernel) (Nat.le_of_ble_eq_true rfl) ?_
 simp -implicitDefEqProofs (disch := omega) only [go_sem, Tm.enc, hde]
 refine CallK.mk h1 ?_
 simp -implicitDefEqProofs (disch := omega) only [go_sem, Tm.enc]
 refine CallK.mk h2 ?_
 simp -implicitDefEqProofs (disch := omega) only [go_sem, Tm.enc]
 refine CallK.mk h3 ?_
 simp -implicitDefEqProofs (disch := omega) only [go_sem, Tm.enc]
 refine CallK.mk h5 ?_
 simp -implicitDefEqProofs (disch := omega) only [go_sem, Tm.enc]
 rfl
theorem specDo_sat (d : GDefinition) (hl : d.ru.length < 100000000) (hd : ∀ x, x ∈ d.ru → ruleOk x ∧ ruleB d.si x = true) (t : Tm) (hz : t.size < 1048577) (q : Int × List Int) (hq : redOk d t q) : Sat Tryz.prog 122 [aggV d.enc, tmV t, .agg [iC q.1, .c (.sl (q.2.map encI))]] (.tup [tmV (doB d t q), boolV (doB d t q).valid]) := by
 obtain ⟨k, p⟩ := q
 obtain ⟨hpl, j, hj, u, hk, hat, hu, hfi⟩ := hq
 simp only at hpl hk hat ⊢
 subst hk
 obtain ⟨hxo, hrb⟩ := hd _ (List.getElem_mem hj)
 have h1 := specTermAtp_sat t hz p (by omega)
 have hfs := specFires_sat d.ru[j] hxo u hu
 have hfo := fireT_ok d.ru[j] hxo u hu hfi
 have h3 := specPut_sat (fireT d.ru[j] u) (by omega) p (by omega) t u hz hat
 have h4 := putp_size p t u (fireT d.ru[j] u) hat
 have h5 := specValid_sat (putp p t (fireT d.ru[j] u)) (by omega)
 have e : doB d t ((j : Int), p) = putp p t (fireT d.ru[j] u) := by
  unfold doB
  simp [hat, List.getD, hj]
 rw [e]
 rw [hat] at h1
 unfold putSat at h3
 have hsm := fire_same d.si d.ru[j] u hrb
 rw [hfi] at hsm
 have hsb := fireS_sub d.si d.ru[j] u hrb hsm
 have hso := fireS_ok d.ru[j] hxo u hu
 have hgr := map_getD (ec := GRule.enc) hj
 generalize (putp p t (fireT d.ru[j] u)).valid = b at h5 ⊢
 generalize putp p t (fireT d.ru[j] u) = r at h3 h5 ⊢
 generalize fireT d.ru[j] u = v at h3 hsb
 generalize d.ru[j] = x at hfs hsm hsb hso hgr hxo
 generalize fireS x u = sb at hfs hsm hsb hso
 obtain ⟨sb, ok⟩ := sb
 simp only at hfs hsm hsb hso
 subst hsm
 have z1 := gsub_ok sb hso.1 x.ri hxo.2.1
 have hsu := specSubst_sat sb (by omega) (fun b hb => by have := (hso.1 b hb).1; omega) x.ri (by have := hxo.2.1.1; omega)
 have hre := specReduce_sat (x.ri.sub sb) z1.1
 rw [hsb] at hre
 clear z1
 generalize x.ri.sub sb = y1 at hsu hre
 simp only [Option.getD_some, Option.isSome_some] at h1
 obtain ⟨na, ⟨lk, ln, ls, lt⟩, ⟨ik, in_, is_, it⟩, gu⟩ := x
 obtain ⟨rk, rn, rs, rt⟩ := r
 obtain ⟨vk, vn, vs, vt⟩ := v
 obtain ⟨yk, yn, ys, yt⟩ := y1
 obtain ⟨k, n, s, ts⟩ := t
 obtain ⟨uk, un, us, ut⟩ := u
 have hde : d.enc = [.sl (d.si.so.map encS), .sl (d.si.op.map GOp.enc), .sl (d.ru.map GRule.enc), .sl (d.st.map GStrict.enc)] := rfl
 simp only [GRule.enc, Tm.enc, encS, encL, List.cons_append, List.nil_append] at hgr
 refine sat_of_code tbOk mixed Tryz.func122 rfl rfl rfl (by decide +kernel) (by decide +kernel) (Nat.le_of_ble_eq_true rfl) ?_
 simp -implicitDefEqProofs (disch := omega) only [go_sem, Tm.enc, hde]
 refine CallK.mk h1 ?_
 simp -implicitDefEqProofs (disch := omega) only [go_sem, Tm.enc, List.length_map, hgr, hj]
 refine CallK.mk hfs ?_
 simp -implicitDefEqProofs (disch := omega) only [go_sem, Tm.enc, List.length_map, hgr, hj]
 refine CallK.mk hsu ?_
 simp -implicitDefEqProofs (disch := omega) only [go_sem, Tm.enc]
 refine CallK.mk hre ?_
 simp -implicitDefEqProofs (disch := omega) only [go_sem, Tm.enc]
 refine CallK.mk h3 ?_
 simp -implicitDefEqProofs (disch := omega) only [go_sem, Tm.enc]
 refine CallK.mk h5 ?_
 simp -implicitDefEqProofs (disch := omega) only [go_sem, Tm.enc]
 rfl
end Go.Ai
/- StepTerm on both sides. -/
namespace Go.Ai
open Go.Proofs
set_option maxRecDepth 100000
theorem implNextRedex_sat (d : GDefinition) (hw : d.wf) (hs : d.size < 1048577) (t : Tm) (htw : t.wf) (ht : t.size < 30000000) : Sat Tryz.prog 48 [aggV d.enc, tmV t] (.tup [aggV (rdx [] (nextB d t)), boolV (nextB d t).isSome]) := by
 have hc := implCfg_sat d hs t ht
 have hok := cfg_ok d hw t htw
 have hrg := cfg_rng d t
 have hl := len_szL GRule.size d.ru
 have hl2 := len_szL GStrict.size d.st
 have hs' := hs
 simp only [GDefinition.size] at hs'
 have hf := fun h => implNext_sat d (by omega) (by omega) (hok h).1 t (hok h).2.1 (hrg h) [] (by have := (hok h).2.1.1; simp; omega)
 obtain ⟨r, hr⟩ : ∃ r, r = nextB d t := ⟨_, rfl⟩
 rw [← hr]
 unfold nextB at hr
 generalize t.nxt d.st (rootF d) = q at hf hr
 clear hok hrg
 generalize cfgB d t = b at hc hf hr
 obtain ⟨k2, n2, s2, ts2⟩ := t
 have hde : d.enc = [.sl (d.si.so.map encS), .sl (d.si.op.map GOp.enc), .sl (d.ru.map GRule.enc), .sl (d.st.map GStrict.enc)] := rfl
 refine sat_of_code tbOk mixed Tryz.func48 rfl rfl rfl (by decide +kernel) (by decide +kernel) (Nat.le_of_ble_eq_true rfl) ?_
 simp -implicitDefEqProofs (disch := omega) only [go_sem, Tm.enc, hde]
 refine CallK.mk hc ?_
 simp -implicitDefEqProofs (disch := omega) only [go_sem]
 refine ⟨fun h => by rw [hr, h]; rfl, fun h => CallK.mk (hf h) ?_⟩
 have hr : r = q := by rw [hr, h]; rfl
 subst hr
 cases r with
 | none =>
  simp -implicitDefEqProofs (disch := omega) only [go_sem, rdx, Option.isSome_none, List.map_cons, List.map_nil]
  rfl
 | some q =>
  simp -implicitDefEqProofs (disch := omega) only [go_sem, rdx, Option.isSome_some, List.map_cons, List.map_nil, List.nil_append]
  rfl
theorem stepB_some (d : GDefinition) (t : Tm) (q : Int × List Int) (h : nextB d t = some q) : stepB d t = if (doB d t q).valid then some (doB d t q) else none := by
 unfold stepB; rw [h]
theorem stepB_none (d : GDefinition) (t : Tm) (h : nextB d t = none) : stepB d t = none := by
 unfold stepB; rw [h]
theorem doB_size (d : GDefinition) (hd : ∀ x, x ∈ d.ru → ruleOk x) (t : Tm) (q : Int × List Int) (hq : redOk d t q) : (doB d t q).size ≤ t.size + 40000 := by
 obtain ⟨k, p⟩ := q
 obtain ⟨hpl, j, hj, u, hk, hat, hu, hfi⟩ := hq
 simp only at hk hat
 subst hk
 have hfo := fireT_ok d.ru[j] (hd _ (List.getElem_mem hj)) u hu hfi
 have h4 := putp_size p t u (fireT d.ru[j] u) hat
 unfold doB
 simp only [hat, Option.getD_some, Int.toNat_natCast, List.getD_eq_getElem?_getD, List.getElem?_eq_getElem hj]
 omega
theorem putp_wf : ∀ (p : List Int) (t u v : Tm), atp p t = some u → t.wf → v.wf → (putp p t v).wf
 | [], t, u, v, h, h1, h2 => h2
 | i :: p, .mk k n s ts, u, v, h, h1, h2 => by
  obtain ⟨j, hj, rfl, h3⟩ := atp_cons i p k n s ts u h
  obtain ⟨w1, w2, w3, w4, w5⟩ := h1
  have hm := (wfs_iff ts).1 w5
  have e1 : ts.getD j zeroT = ts[j] := by rw [List.getD_eq_getElem?_getD, List.getElem?_eq_getElem hj, Option.getD_some]
  have ih := putp_wf p ts[j] u v h3 (hm _ (List.getElem_mem hj)) h2
  simp only [putp, Int.toNat_natCast]
  rw [e1]
  refine ⟨w1, w2, w3, by simpa using w4, (wfs_iff _).2 (fun a ha => ?_)⟩
  rcases List.mem_or_eq_of_mem_set ha with ha | rfl
  ·exact hm a ha
  ·exact ih
theorem doB_wf (d : GDefinition) (hd : ∀ x, x ∈ d.ru → ruleOk x) (t : Tm) (htw : t.wf) (q : Int × List Int) (hq : redOk d t q) : (doB d t q).wf := by
 obtain ⟨k, p⟩ := q
 obtain ⟨hpl, j, hj, u, hk, hat, hu, hfi⟩ := hq
 simp only at hk hat
 subst hk
 have hfo := fireT_ok d.ru[j] (hd _ (List.getElem_mem hj)) u hu hfi
 have h4 := putp_wf p t u (fireT d.ru[j] u) hat htw hfo.2
 unfold doB
 simpa only [hat, Option.getD_some, Int.toNat_natCast, List.getD_eq_getElem?_getD, List.getElem?_eq_getElem hj] using h4
theorem stepB_ok (d : GDefinition) (hw : d.wf) (t : Tm) (htw : t.wf) : ((stepB d t).getD t).size ≤ t.size + 40000 ∧ ((stepB d t).getD t).wf := by
 cases h : nextB d t with
 | none =>
  rw [stepB_none d t h]
  exact ⟨by simp, htw⟩
 | some q =>
  obtain ⟨hc, hq⟩ := next_ok d hw t htw q h
  have hd := (cfg_ok d hw t htw hc).1
  rw [stepB_some d t q h]
  split
  ·exact ⟨doB_size d hd t q hq, doB_wf d hd t htw q hq⟩
  ·exact ⟨by simp, htw⟩
theorem specStepTerm_sat (d : GDefinition) (hw : d.wf) (hs : d.size < 1048577) (t : Tm) (htw : t.wf) (ht : t.size < 1048577) : Sat Tryz.prog 47 [aggV d.enc, tmV t] (.tup [tmV ((stepB d t).getD t), boolV (stepB d t).isSome]) := by
 have hnx := specNextRedex_sat d hw hs t htw (by omega)
 have hok := fun q hq => next_ok d hw t htw q hq
 have hcf := cfg_ok d hw t htw
 have hl := len_szL GRule.size d.ru
 have hs' := hs
 simp only [GDefinition.size] at hs'
 have hdo := fun q hq => specDo_sat d (by omega) (fun x hx => ⟨(hcf (hok q hq).1).1 x hx, (hcf (hok q hq).1).2.2 x hx⟩) t ht q (hok q hq).2
 have hcp := l3Copy_sat t ht
 have hst := stepB_some d t
 have hsn := stepB_none d t
 obtain ⟨r, hr⟩ : ∃ r, r = stepB d t := ⟨_, rfl⟩
 rw [← hr] at hst hsn ⊢
 clear hok hcf hr
 generalize nextB d t = q at hnx hdo hst hsn
 obtain ⟨k2, n2, s2, ts2⟩ := t
 have hde : d.enc = [.sl (d.si.so.map encS), .sl (d.si.op.map GOp.enc), .sl (d.ru.map GRule.enc), .sl (d.st.map GStrict.enc)] := rfl
 refine sat_of_code tbOk mixed Tryz.func47 rfl rfl rfl (by decide +kernel) (by decide +kernel) (Nat.le_of_ble_eq_true rfl) ?_
 simp -implicitDefEqProofs (disch := omega) only [go_sem, Tm.enc, hde]
 refine CallK.mk hnx ?_
 cases q with
 | none =>
  have := hsn rfl
  subst this
  simp -implicitDefEqProofs (disch := omega) only [go_sem, rdx, Option.isSome_none, List.map_cons, List.map_nil]
  refine CallK.mk hcp ?_
  simp -implicitDefEqProofs (disch := omega) only [go_sem, Tm.enc]
  rfl
 | some q =>
  have hst := hst q rfl
  have hdo := hdo q rfl
  generalize (doB d (.mk k2 n2 s2 ts2) q).valid = b at hst hdo
  generalize doB d (.mk k2 n2 s2 ts2) q = v at hst hdo
  obtain ⟨vk, vn, vs, vt⟩ := v
  simp -implicitDefEqProofs (disch := omega) only [go_sem, rdx, Option.isSome_some, List.map_cons, List.map_nil, List.nil_append]
  refine CallK.mk hdo ?_
  simp -implicitDefEqProofs (disch := omega) only [go_sem, Tm.enc]
  refine ⟨fun h => CallK.mk hcp ?_, fun h => ?_⟩
  ·subst h
   simp only [Bool.false_eq_true, if_false] at hst
   subst hst
   simp -implicitDefEqProofs (disch := omega) only [go_sem, Tm.enc]
   rfl
  ·subst h
   simp only [if_true] at hst
   subst hst
   rfl
theorem implStepTermF_sat (d : GDefinition) (hw : d.wf) (hs : d.size < 1048577) (t : Tm) (htw : t.wf) (ht : t.size < 1048577) : SatF Tryz.prog 46 [aggV d.enc, tmV t] (.tup [tmV ((stepB d t).getD t), boolV (stepB d t).isSome]) := by
 have hnx := implNextRedex_sat d hw hs t htw (by omega)
 have hok := fun q hq => next_ok d hw t htw q hq
 have hcf := cfg_ok d hw t htw
 have hl := len_szL GRule.size d.ru
 have hs' := hs
 simp only [GDefinition.size] at hs'
 have hdo := fun q hq => implDo_sat d (by omega) (fun x hx => (hcf (hok q hq).1).1 x hx) t ht q (hok q hq).2
 have hcp := copyTermF_sat t (by omega)
 have hcv := fun q hq => copyTermF_sat (doB d t q) (by have := doB_size d (fun x hx => (hcf (hok q hq).1).1 x hx) t q (hok q hq).2; omega)
 have hst := stepB_some d t
 have hsn := stepB_none d t
 obtain ⟨r, hr⟩ : ∃ r, r = stepB d t := ⟨_, rfl⟩
 rw [← hr] at hst hsn ⊢
 clear hok hcf hr
 generalize nextB d t = q at hnx hdo hst hsn hcv
 obtain ⟨r1, r2, hr1, hr2⟩ : ∃ r1 r2, r1 = r.getD t ∧ r2 = r.isSome := ⟨_, _, rfl, rfl⟩
 rw [← hr1, ← hr2]
 obtain ⟨k2, n2, s2, ts2⟩ := t
 have hde : d.enc = [.sl (d.si.so.map encS), .sl (d.si.op.map GOp.enc), .sl (d.ru.map GRule.enc), .sl (d.st.map GStrict.enc)] := rfl
 cases q with
 | none =>
  have := hsn rfl
  subst this
  simp only [Option.getD_none, Option.isSome_none] at hr1 hr2
  subst hr1 hr2
  refine satF_of_code [tmV (.mk k2 n2 s2 ts2), boolV false] rfl (fun _ h => by cases h; rfl) tbOk mixed Tryz.func46 rfl rfl rfl (by decide +kernel) (by decide +kernel) (Nat.le_of_ble_eq_true rfl) ?_
  simp -implicitDefEqProofs (disch := omega) only [go_sem, Tm.enc, hde]
  refine CallK.mk hnx ?_
  simp -implicitDefEqProofs (disch := omega) only [go_sem, rdx, Option.isSome_none, List.map_cons, List.map_nil]
  refine CallK.own hcp rfl ?_
  simp -implicitDefEqProofs (disch := omega) only [go_sem, Tm.enc]
 | some q =>
  have hst := hst q rfl
  have hdo := hdo q rfl
  have hcv := hcv q rfl
  generalize (doB d (.mk k2 n2 s2 ts2) q).valid = b at hst hdo
  generalize doB d (.mk k2 n2 s2 ts2) q = v at hst hdo hcv
  obtain ⟨vk, vn, vs, vt⟩ := v
  obtain ⟨rk, rn, rs, rt⟩ := r1
  refine satF_of_code [tmV (.mk rk rn rs rt), boolV r2] rfl (fun _ h => by cases h; rfl) tbOk mixed Tryz.func46 rfl rfl rfl (by decide +kernel) (by decide +kernel) (Nat.le_of_ble_eq_true rfl) ?_
  simp -implicitDefEqProofs (disch := omega) only [go_sem, Tm.enc, hde]
  refine CallK.mk hnx ?_
  simp -implicitDefEqProofs (disch := omega) only [go_sem, rdx, Option.isSome_some, List.map_cons, List.map_nil, List.nil_append]
  refine CallK.mk hdo ?_
  simp -implicitDefEqProofs (disch := omega) only [go_sem, Tm.enc]
  refine ⟨fun h => CallK.own hcv rfl ?_, fun h => CallK.own hcp rfl ?_⟩
  ·subst h
   simp only [if_true] at hst
   subst hst
   simp only [Option.getD_some, Option.isSome_some] at hr1 hr2
   cases hr1
   subst hr2
   simp -implicitDefEqProofs (disch := omega) only [go_sem, Tm.enc]
  ·subst h
   simp only [Bool.false_eq_true, if_false] at hst
   subst hst
   simp only [Option.getD_none, Option.isSome_none] at hr1 hr2
   cases hr1
   subst hr2
   simp -implicitDefEqProofs (disch := omega) only [go_sem, Tm.enc]
end Go.Ai
