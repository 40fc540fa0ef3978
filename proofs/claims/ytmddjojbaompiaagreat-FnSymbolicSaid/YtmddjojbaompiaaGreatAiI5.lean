/- CaseSubst. Written by mk14.py. -/
import Derived.Test.YtmddjojbaompiaaGreatAiI3
set_option linter.unusedVariables false
set_option linter.unusedSimpArgs false
namespace Go.Ai
open Go.Proofs
set_option maxRecDepth 100000
def mkB (p : ByteArray × Int) : GBind := ⟨p.1, wordT p.2⟩
def casePairs (vars : List ByteArray) (c : Int) : List (ByteArray × Int) := vars.zip (valsOf vars.length c)
def caseSubst (vars : List ByteArray) (c : Int) : List GBind := (casePairs vars c).map mkB
theorem casePairs_len (vars : List ByteArray) (c : Int) : (casePairs vars c).length = (valsOf vars.length c).length := by
 have := valsOf_len vars.length c
 simp only [casePairs, List.length_zip]; omega
theorem caseSubst_len (vars : List ByteArray) (c : Int) : (caseSubst vars c).length ≤ 3 := by
 have := valsOf_len vars.length c
 simp only [caseSubst, List.length_map, casePairs_len]; omega
theorem dgI_b (c : Int) : ∀ i n, n ∈ dgI c i → 0 ≤ n ∧ n < 4
 | 0, n, h => by simp [dgI] at h
 | i + 1, n, h => by
  simp only [dgI, List.mem_append, List.mem_singleton] at h
  rcases h with h | rfl
  ·exact dgI_b c i n h
  ·omega
theorem valsOf_b (k : Nat) (c : Int) : ∀ n, n ∈ valsOf k c → 0 ≤ n ∧ n < 4 := by
 intro n hn
 unfold valsOf at hn
 split at hn
 ·exact dgI_b c k n (List.mem_reverse.1 hn)
 ·simp at hn
theorem pairs_at (vars : List ByteArray) (c : Int) (i : Nat) (h : i < (casePairs vars c).length) : ∃ v n, (casePairs vars c)[i] = (v, n) ∧ (vars.map encS).getD i [] = encS v ∧ ((valsOf vars.length c).map encI).getD i [] = encI n ∧ i < vars.length ∧ i < (valsOf vars.length c).length := by
 have h' := h
 simp only [casePairs, List.length_zip] at h
 have h1 : i < vars.length := by omega
 have h2 : i < (valsOf vars.length c).length := by omega
 exact ⟨vars[i], (valsOf vars.length c)[i], by simp [casePairs], map_getD h1, map_getD h2, h1, h2⟩
def bR (zs : List (ByteArray × Int)) : List (List AC) := zs.map fun p => [sC p.1, iC 3, iC p.2, sC ByteArray.empty, .nil]
theorem bR_len (zs : List (ByteArray × Int)) : (bR zs).length = zs.length := by simp [bR]
theorem bR_in (lb : Lk) (zs : List (ByteArray × Int)) : ∀ r, r ∈ bR zs → ∀ a, a ∈ r → inC lb a := by
 intro r hr a ha
 obtain ⟨p, _, rfl⟩ := List.mem_map.1 hr
 simp only [List.mem_cons, List.not_mem_nil, or_false] at ha
 rcases ha with rfl | rfl | rfl | rfl | rfl <;> trivial
theorem bR_isO (zs : List (ByteArray × Int)) : ∀ r, r ∈ bR zs → ∀ a, a ∈ r → isO a = true := by
 intro r hr a ha
 obtain ⟨p, _, rfl⟩ := List.mem_map.1 hr
 simp only [List.mem_cons, List.not_mem_nil, or_false] at ha
 rcases ha with rfl | rfl | rfl | rfl | rfl <;> rfl
theorem bR_toC (zs : List (ByteArray × Int)) : ((bR zs).map fun r => r.map toC) = (zs.map mkB).map GBind.enc := by
 simp [bR, mkB, GBind.enc, wordT, Tm.enc, Tm.encs, encS, toC]
theorem bR_snoc (zs : List (ByteArray × Int)) (v : ByteArray) (n : Int) : bR zs ++ [[sC v, iC 3, iC n, sC ByteArray.empty, .nil]] = bR (zs ++ [(v, n)]) := by simp [bR]
theorem specCaseSubst_sat (vars : List ByteArray) (c : Int) (hl : vars.length < 100000000) : Sat Tryz.prog 173 [slV (vars.map encS), intV c] (slV ((caseSubst vars c).map GBind.enc)) := by
 have hv := valsOf_len vars.length c
 have hzl := casePairs_len vars c
 have hcs : caseSubst vars c = (casePairs vars c).map mkB := rfl
 rw [hcs]
 refine sat_of_code tbOk mixed Tryz.func173 rfl rfl rfl (by decide +kernel) (by decide +kernel) (Nat.le_of_ble_eq_true rfl) ?_
 simp -implicitDefEqProofs (disch := omega) only [go_sem, List.length_map]
 refine CallK.mk (specValuesOf_sat vars.length (by omega) c) ?_
 simp -implicitDefEqProofs (disch := omega) only [go_sem, List.length_map]
 obtain ⟨ns, hns⟩ : ∃ ns, ns = valsOf vars.length c := ⟨_, rfl⟩
 have hat := pairs_at vars c
 rw [← hns] at hv hzl hat ⊢
 obtain ⟨zs, hzs⟩ : ∃ zs, zs = casePairs vars c := ⟨_, rfl⟩
 simp only [← hzs] at hzl hat ⊢
 refine loopA_rule (ι := Nat) (fun i => mk 33 [(0, slV (vars.map encS)), (5, .one (.own 8 (zs.take i).length)), (6, slV (ns.map encI)), (7, intV i)] [(8, .arr 171 5 (rowsOf GBind.enc ((zs.take i).map mkB)) false)]) (fun i => i ≤ zs.length) (fun i => zs.length - i) 0 (Nat.zero_le _) ?_ tbOk mixed (by decide +kernel) ?_
 ·exact le_mk (by simp [go_sem]) (by simp [go_sem, rowsOf])
 ·intro i hi
  have hln : (zs.take i).length ≤ zs.length := by rw [List.length_take]; omega
  rcases Nat.lt_or_ge i zs.length with hlt | hge
  ·have ht : zs.take (i + 1) = zs.take i ++ [zs[i]] := by rw [List.take_add_one, List.getElem?_eq_getElem hlt]; rfl
   obtain ⟨v, n, hvn, hg1, hg2, hi1, hi2⟩ := hat i hlt
   rw [hvn] at ht
   simp only [encS] at hg1
   simp only [encI] at hg2
   simp -implicitDefEqProofs (disch := omega) only [go_sem, hg1, hg2, hi1, hi2, List.length_map]
   refine CallK.mk (l3Word_sat n) ?_
   simp -implicitDefEqProofs (disch := omega) only [go_sem, List.length_map]
   refine ⟨⟨by simp [wordT, Tm.enc], by omega, by omega⟩, fun _ => ⟨i + 1, hlt, by omega, ?_⟩⟩
   rw [ht]
   generalize zs.take i = acc
   exact le_mk (by simp [go_sem]) (by simp [go_sem]; simp [rowsOf, mkB, GBind.enc, encS])
  ·have : i = zs.length := by omega
   subst this
   simp -implicitDefEqProofs (disch := omega) only [go_sem, hzl, Nat.lt_irrefl, List.take_length, List.length_map]
   rw [← hzl, List.take_length, hzs]
theorem implCaseSubstF_sat (vars : List ByteArray) (c : Int) (hl : vars.length < 100000000) : SatF Tryz.prog 105 [slV (vars.map encS), intV c] (slV ((caseSubst vars c).map GBind.enc)) := by
 have hv := valsOf_len vars.length c
 have hzl := casePairs_len vars c
 have hcs : caseSubst vars c = (casePairs vars c).map mkB := rfl
 rw [hcs]
 refine satF_of_code [slV (((casePairs vars c).map mkB).map GBind.enc)] rfl (fun _ h => by cases h) tbOk mixed Tryz.func105 rfl rfl rfl (by decide +kernel) (by decide +kernel) (Nat.le_of_ble_eq_true rfl) ?_
 simp -implicitDefEqProofs (disch := omega) only [go_sem, List.length_map]
 refine CallK.mk (implValuesOf_sat vars.length (by omega) c).sat ?_
 simp -implicitDefEqProofs (disch := omega) only [go_sem, List.length_map]
 obtain ⟨ns, hns⟩ : ∃ ns, ns = valsOf vars.length c := ⟨_, rfl⟩
 have hat := pairs_at vars c
 rw [← hns] at hv hzl hat ⊢
 obtain ⟨zs, hzs⟩ : ∃ zs, zs = casePairs vars c := ⟨_, rfl⟩
 simp only [← hzs] at hzl hat ⊢
 refine loopA_rule (ι := Nat) (fun i => match i with
  | 0 => mk 30 [(0, slV (vars.map encS)), (5, .one .nil), (11, slV (ns.map encI)), (12, intV ns.length), (13, intV (0 : Nat))] []
  | i + 1 => mk 30 [(0, slV (vars.map encS)), (5, .one (.own 27 (i + 1))), (11, slV (ns.map encI)), (12, intV ns.length), (13, intV (i + 1 : Nat))] [(27, .arr 171 5 (bR (zs.take (i + 1))) false)]) (fun i => i ≤ zs.length) (fun i => zs.length - i) 0 (Nat.zero_le _) ?_ tbOk mixed (by decide +kernel) ?_
 ·exact le_mk (by simp [go_sem]) (by simp [go_sem])
 ·intro i hi
  rcases Nat.lt_or_ge i zs.length with hlt | hge
  ·have ht : zs.take (i + 1) = zs.take i ++ [zs[i]] := by rw [List.take_add_one, List.getElem?_eq_getElem hlt]; rfl
   obtain ⟨v, n, hvn, hg1, hg2, hi1, hi2⟩ := hat i hlt
   rw [hvn] at ht
   simp only [encS] at hg1
   simp only [encI] at hg2
   cases i with
   | zero =>
    simp only [List.take_zero, List.nil_append] at ht
    simp -implicitDefEqProofs (disch := omega) only [go_sem, hg1, hg2, hi1, hi2, List.length_map]
    refine ⟨by simp, fun _ => ⟨1, by omega, by omega, ?_⟩⟩
    exact le_mk (by simp [go_sem]) (by simp [go_sem, ht, bR]; rfl)
   | succ i =>
    have hdl : (zs.take (i + 1)).length = i + 1 := by rw [List.length_take]; omega
    simp -implicitDefEqProofs (disch := omega) only [go_sem, hg1, hg2, hi1, hi2, List.length_map, bR_len, hdl]
    refine ⟨⟨by simp, by omega, by omega⟩, fun _ => ⟨i + 2, by omega, by omega, ?_⟩⟩
    refine le_mk (by simp [go_sem]) ?_
    refine ⟨?_, bR_in _ _, trivial⟩
    simp only [lookB_cons, if_true, ht, ← bR_snoc]
    rfl
  ·have : i = zs.length := by omega
   subst this
   cases hz : zs with
   | nil =>
    rw [hz] at hzl
    have hn0 : ns.length = 0 := hzl.symm
    simp -implicitDefEqProofs (disch := omega) only [go_sem, hn0, Nat.lt_irrefl, List.map_nil, List.length_nil]
    rw [← hzs, hz]
    trivial
   | cons z zs' =>
    rw [hz] at hzl
    have hn0 : ns.length = zs'.length + 1 := by rw [← hzl]; rfl
    simp -implicitDefEqProofs (disch := omega) only [go_sem, hn0, Nat.lt_irrefl, List.length_cons, bR_len, List.take_length]
    exact ⟨bR_isO _, by rw [bR_toC, ← hzs, hz]⟩
end Go.Ai
/- Substitution and reduction keep sizes and form. -/
namespace Go.Ai
open Go.Proofs
set_option maxRecDepth 100000
theorem caseSubst_zero (va : List ByteArray) (c : Int) : ∀ b, b ∈ caseSubst va c → b.t.size = 0 := by
 intro b hb
 obtain ⟨p, _, rfl⟩ := List.mem_map.1 hb
 rfl
theorem bnd_zero (bs : List GBind) (hb : ∀ b, b ∈ bs → b.t.size = 0) (s : ByteArray) (t : Tm) (h : bnd bs s = some t) : t.size = 0 := by
 obtain ⟨b, h1, rfl⟩ := bnd_mem bs s t h
 exact hb b h1
mutual
theorem sub_size (bs : List GBind) (hb : ∀ b, b ∈ bs → b.t.size = 0) : ∀ (t : Tm), (t.sub bs).size ≤ t.size
 | .mk k n s ts => by
  have h2 := subs_size bs hb ts
  simp only [Tm.sub]
  split
  ·cases h : bnd bs s with
   | none => simp only [Option.getD_none, Tm.size]; omega
   | some t => simp only [Option.getD_some]; have := bnd_zero bs hb s t h; omega
  ·simp only [Tm.size]; omega
theorem subs_size (bs : List GBind) (hb : ∀ b, b ∈ bs → b.t.size = 0) : ∀ (ts : List Tm), Tm.sizes (Tm.subs bs ts) ≤ Tm.sizes ts
 | [] => by simp [Tm.subs]
 | a :: ts => by
  have h1 := sub_size bs hb a
  have h2 := subs_size bs hb ts
  simp only [Tm.subs, Tm.sizes]; omega
end
theorem zeroT_wf : zeroT.wf := ⟨wfI_of 0 (by omega) (by omega), wfI_of 0 (by omega) (by omega), Nat.zero_le _, Nat.zero_le _, trivial⟩
theorem wordT_wf (n : Int) (h : 0 ≤ n ∧ n < 100) : (wordT n).wf := ⟨wfI_of 3 (by omega) (by omega), wfI_of n (by omega) (by omega), Nat.zero_le _, Nat.zero_le _, trivial⟩
mutual
theorem sub_wf (bs : List GBind) (hb : ∀ b, b ∈ bs → b.t.wf) : ∀ (t : Tm), t.wf → (t.sub bs).wf
 | .mk k n s ts, h => by
  obtain ⟨h1, h2, h3, h4, h5⟩ := h
  have hs := subs_wf bs hb ts h5
  have hl : (Tm.subs bs ts).length = ts.length := by rw [subs_map, List.length_map]
  simp only [Tm.sub]
  split
  ·cases h : bnd bs s with
   | none => exact ⟨h1, h2, h3, by rw [hl]; exact h4, hs⟩
   | some t =>
    obtain ⟨b, hb1, rfl⟩ := bnd_mem bs s t h
    exact hb b hb1
  ·exact ⟨h1, h2, h3, by rw [hl]; exact h4, hs⟩
theorem subs_wf (bs : List GBind) (hb : ∀ b, b ∈ bs → b.t.wf) : ∀ (ts : List Tm), Tm.wfs ts → Tm.wfs (Tm.subs bs ts)
 | [], _ => trivial
 | a :: ts, h => ⟨sub_wf bs hb a h.1, subs_wf bs hb ts h.2⟩
end
theorem opW_b (s : ByteArray) (a b : Int) : 0 ≤ opW s a b ∧ opW s a b < 100 := by
 unfold opW
 split
 ·omega
 ·split <;> omega
theorem redTop_wf (k n : Int) (s : ByteArray) (ts : List Tm) (h : (Tm.mk k n s ts).wf) : (redTop k n s ts).wf := by
 unfold redTop
 split
 ·split
  ·exact wordT_wf _ (opW_b _ _ _)
  ·exact h
 ·exact h
mutual
theorem red_wf : ∀ (t : Tm), t.wf → t.red.wf
 | .mk k n s ts, h => by
  obtain ⟨h1, h2, h3, h4, h5⟩ := h
  have hs := reds_wf ts h5
  have hl : (Tm.reds ts).length = ts.length := by rw [reds_map, List.length_map]
  simp only [Tm.red]
  exact redTop_wf k n s _ ⟨h1, h2, h3, by rw [hl]; exact h4, hs⟩
theorem reds_wf : ∀ (ts : List Tm), Tm.wfs ts → Tm.wfs (Tm.reds ts)
 | [], _ => trivial
 | a :: ts, h => ⟨red_wf a h.1, reds_wf ts h.2⟩
end
theorem caseSubst_twf (va : List ByteArray) (c : Int) : ∀ b, b ∈ caseSubst va c → b.t.wf := by
 intro b hb
 obtain ⟨p, h, rfl⟩ := List.mem_map.1 hb
 have := valsOf_b _ _ p.2 (List.of_mem_zip h).2
 exact wordT_wf _ (by omega)
end Go.Ai
