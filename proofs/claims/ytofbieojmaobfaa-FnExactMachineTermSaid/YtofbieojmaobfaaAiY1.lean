/- Subterms at positions, in the reference and in the program; a subterm is put in. -/
import Derived.Test.YtofbieojmaobfaaAiG1
import Derived.Test.YtofbieojmaobfaaAiI3
namespace Go.Ai
set_option linter.unusedVariables false
set_option linter.unusedSimpArgs false
open Go.Proofs
set_option maxRecDepth 100000

def atp : List Int → Tm → Option Tm
  | [], t => some t
  | i :: p, .mk _ _ _ ts => if decide (0 ≤ i) && decide (i < (ts.length : Int)) then atp p (ts.getD i.toNat zeroT) else none
def putp : List Int → Tm → Tm → Tm
  | [], _, u => u
  | i :: p, .mk k n s ts, u => .mk k n s (ts.set i.toNat (putp p (ts.getD i.toNat zeroT) u))
theorem atp_drop (p : List Int) (i : Nat) (h : i < p.length) (k n : Int) (s : ByteArray) (ts : List Tm) : atp (p.drop i) (.mk k n s ts) = if decide (0 ≤ p[i]) && decide (p[i] < (ts.length : Int)) then atp (p.drop (i + 1)) (ts.getD p[i].toNat zeroT) else none := by
  rw [List.drop_eq_getElem_cons h]; rfl
theorem atp_size : ∀ (p : List Int) (t u : Tm), atp p t = some u → u.size ≤ t.size
  | [], t, u, h => by cases h; exact Nat.le_refl _
  | i :: p, .mk k n s ts, u, h => by
    simp only [atp] at h
    split at h
    · rename_i hc
      simp only [Bool.and_eq_true, decide_eq_true_eq] at hc
      have hlt : i.toNat < ts.length := by omega
      have := atp_size p _ u h
      rw [List.getD_eq_getElem?_getD, List.getElem?_eq_getElem hlt, Option.getD_some] at this
      have h2 := size_mem ts _ (List.getElem_mem hlt)
      simp only [Tm.size]; omega
    · cases h
theorem tsize_lt (k n : Int) (s : ByteArray) (ts : List Tm) (i : Nat) (h : i < ts.length) : ts[i].size < (Tm.mk k n s ts).size := by
  have := size_mem ts _ (List.getElem_mem h)
  simp only [Tm.size]; omega
theorem sizes_set : ∀ (ts : List Tm) (i : Nat) (h : i < ts.length) (u : Tm), Tm.sizes (ts.set i u) + ts[i].size = Tm.sizes ts + u.size
  | t :: ts, 0, h, u => by simp [Tm.sizes]; omega
  | t :: ts, i + 1, h, u => by
    have := sizes_set ts i (by simpa using h) u
    simp [Tm.sizes]; omega
theorem putp_size : ∀ (p : List Int) (t u v : Tm), atp p t = some u → (putp p t v).size ≤ t.size + v.size
  | [], t, u, v, h => by simp [putp]
  | i :: p, .mk k n s ts, u, v, h => by
    simp only [atp] at h
    split at h
    · rename_i hc
      simp only [Bool.and_eq_true, decide_eq_true_eq] at hc
      have hlt : i.toNat < ts.length := by omega
      have e : ts.getD i.toNat zeroT = ts[i.toNat] := by rw [List.getD_eq_getElem?_getD, List.getElem?_eq_getElem hlt, Option.getD_some]
      have := putp_size p _ u v h
      simp only [putp, Tm.size]
      rw [e] at this ⊢
      have h2 := sizes_set ts i.toNat hlt (putp p ts[i.toNat] v)
      omega
    · cases h
theorem l3CopyO_sat (k n : Int) (s : ByteArray) (ts : List Tm) (hz : (Tm.mk k n s ts).size < 1048577) : SatO Try.prog 22 [tmV (.mk k n s ts)] 40 4 (rowsOf Tm.enc ts) (.agg [iC k, iC n, sC s, .own 0 ts.length]) := by
  have ih : ∀ t, t ∈ ts → Sat Try.prog 22 [tmV t] (tmV t) := fun t ht => l3Copy_sat t (by have := size_mem ts t ht; simp only [Tm.size] at hz; omega)
  have hl : ts.length < 1048577 := by have := len_sizes ts; simp only [Tm.size] at hz; omega
  refine satO_of_code [.agg [iC k, iC n, sC s, .own 0 ts.length]] rfl (by simp) tbOk mixed Try.func22 rfl rfl rfl (by decide +kernel) (by decide +kernel) (Nat.le_of_ble_eq_true rfl) (by decide) rowsOf_cl rowsOf_noD rfl ?_
  simp -implicitDefEqProofs (disch := omega) only [go_sem, ↓reduceIte, reduceCtorEq, Nat.reduceEqDiff, Nat.reduceLT, Nat.reduceLeDiff, Nat.reduceAdd, Nat.reduceSub, Nat.reduceMul, Tm.enc]
  refine loopA_rule (ι := Nat) (fun i => mk 25 [(1, .one (.ptr 1 0)), (2, .one (.ptr 2 0)), (3, .one (.own 5 (ts.take i).length)), (4, intV i)] [(1, .var [iC k, iC n, sC s, tC ts]), (2, .var zT), (5, .arr 40 4 (rowsOf Tm.enc (ts.take i)) false)])
    (fun i => i ≤ ts.length) (fun i => ts.length - i) 0 (Nat.zero_le _) ?_ tbOk mixed (by decide +kernel) ?_
  · exact le_mk (by simp [go_sem]) (by simp [go_sem, rowsOf])
  · intro i hi
    have hln : (ts.take i).length ≤ ts.length := by rw [List.length_take]; omega
    rcases Nat.lt_or_ge i ts.length with hlt | hge
    · have hg := encs_getD ts i hlt
      have ht : ts.take (i + 1) = ts.take i ++ [ts[i]] := by rw [List.take_add_one, List.getElem?_eq_getElem hlt]; rfl
      simp -implicitDefEqProofs (disch := omega) only [go_sem, ↓reduceIte, reduceCtorEq, Nat.reduceEqDiff, Nat.reduceLT, Nat.reduceLeDiff, Nat.reduceAdd, Nat.reduceSub, Nat.reduceMul, hg, hlt]
      refine CallK.mk (ih _ (List.getElem_mem hlt)) ?_
      simp -implicitDefEqProofs (disch := omega) only [go_sem, ↓reduceIte, reduceCtorEq, Nat.reduceEqDiff, Nat.reduceLT, Nat.reduceLeDiff, Nat.reduceAdd, Nat.reduceSub, Nat.reduceMul]
      refine ⟨⟨by simp [enc_len], by omega, by omega⟩, fun _ => ⟨i + 1, hlt, by omega, ?_⟩⟩
      rw [ht]
      generalize ts.take i = acc
      generalize ts[i] = a
      exact le_mk (by simp [go_sem]) (by simp [go_sem, zT]; exact rowsOf_snoc a)
    · have : i = ts.length := by omega
      subst this
      simp -implicitDefEqProofs (disch := omega) only [go_sem, ↓reduceIte, reduceCtorEq, Nat.reduceEqDiff, Nat.reduceLT, Nat.reduceLeDiff, Nat.reduceAdd, Nat.reduceSub, Nat.reduceMul, Nat.lt_irrefl, List.take_length]
theorem rowsOf_set (ts : List Tm) (j : Nat) (k n : Int) (s : ByteArray) (us : List Tm) : (rowsOf Tm.enc ts).set j [iC k, iC n, sC s, tC us] = rowsOf Tm.enc (ts.set j (.mk k n s us)) := by
  simp [rowsOf, Tm.enc, List.map_set]
theorem tmsV_map0 (xs : List Tm) : tmsV xs = slV (xs.map Tm.enc) := by rw [← encs_map]
abbrev putSat (f : FuncId) (t : Tm) (p : List Int) (v : Tm) : Prop := Sat Try.prog f [tmV t, slV (p.map encI), tmV v] (tmV (putp p t v))
theorem atp_cons (i : Int) (p : List Int) (k n : Int) (s : ByteArray) (ts : List Tm) (u : Tm) (h : atp (i :: p) (.mk k n s ts) = some u) : ∃ (j : Nat) (hj : j < ts.length), i = (j : Int) ∧ atp p ts[j] = some u := by
  simp only [atp] at h
  split at h
  · rename_i hc
    simp only [Bool.and_eq_true, decide_eq_true_eq] at hc
    have hlt : i.toNat < ts.length := by omega
    rw [List.getD_eq_getElem?_getD, List.getElem?_eq_getElem hlt, Option.getD_some] at h
    exact ⟨i.toNat, hlt, by omega, h⟩
  · cases h
theorem implWithArg_sat (k n : Int) (s : ByteArray) (ts : List Tm) (hz : (Tm.mk k n s ts).size < 1048577) (v : Tm) (j : Nat) (hjl : j < ts.length) : Sat Try.prog 71 [tmV (.mk k n s ts), intV j, tmV v] (tmV (.mk k n s (ts.set j v))) := by
  have hln := len_sizes ts
  simp only [Tm.size] at hz
  have hcl := cloneTerm_sat ts (by omega)
  rw [← tmsV_map0] at hcl
  have hgr := rowsOf_get (ec := Tm.enc) hjl
  generalize ts[j] = a at hgr
  obtain ⟨ak, an, as', at_⟩ := a
  obtain ⟨vk, vn, vs, vt⟩ := v
  simp only [Tm.enc, List.map_cons, List.map_nil] at hgr
  have hst := rowsOf_set ts j vk vn vs vt
  refine sat_of_code tbOk mixed Try.func71 rfl rfl rfl (by decide +kernel) (by decide +kernel) (Nat.le_of_ble_eq_true rfl) ?_
  simp -implicitDefEqProofs (disch := omega) only [go_sem, ↓reduceIte, reduceCtorEq, Nat.reduceEqDiff, Nat.reduceLT, Nat.reduceLeDiff, Nat.reduceAdd, Nat.reduceSub, Nat.reduceMul, Tm.enc]
  refine CallK.out hcl rfl ?_
  simp -implicitDefEqProofs (disch := omega) only [go_sem, ↓reduceIte, reduceCtorEq, Nat.reduceEqDiff, Nat.reduceLT, Nat.reduceLeDiff, Nat.reduceAdd, Nat.reduceSub, Nat.reduceMul, hgr, hjl, hst, rowsOf_len, rowsOf_toC]
  refine ⟨by simp, fun _ => ⟨by simp, ?_⟩⟩
  simp [Tm.enc, encs_map, List.map_set]
end Go.Ai
