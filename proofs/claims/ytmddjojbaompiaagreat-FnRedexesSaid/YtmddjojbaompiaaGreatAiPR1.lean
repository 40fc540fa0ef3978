/- A step keeps the sort: matching, substituting, reducing, putting in. No program in sight. -/
import Derived.Test.YtmddjojbaompiaaGreatAiY2
import Derived.Test.YtmddjojbaompiaaGreatAiA4
import Derived.Test.YtmddjojbaompiaaGreatAiP12
set_option linter.unusedVariables false
set_option linter.unusedSimpArgs false
namespace Go.Ai
def Good (sg : GSignature) (vs : List GVarSort) (bs : List GBind) : Prop := ∀ v t, bnd bs v = some t → t.sort sg [] = (fvs vs v).getD sE
theorem leaf_nodes (n : Int) (s : ByteArray) (ts : List Tm) (k : Int) (hk : ¬ k = 2) (h : (Tm.mk k n s ts).nodes = true) : ts = [] := by
 simp only [Tm.nodes, Bool.and_eq_true] at h
 have hn := h.1
 apply List.eq_nil_of_length_eq_zero
 unfold nodeB at hn
 have hk2 : (k == 2) = false := by simpa using hk
 rw [hk2] at hn
 simp only [Bool.false_eq_true, if_false] at hn
 split at hn
 ·simp only [Bool.and_eq_true, beq_iff_eq] at hn; exact hn.2
 ·split at hn
  ·simp only [Bool.and_eq_true, beq_iff_eq] at hn; exact hn.2
  ·cases hn
theorem sort_app (sg : GSignature) (vs : List GVarSort) (n : Int) (s : ByteArray) (ts : List Tm) (h : (Tm.mk 2 n s ts).sort sg vs ≠ sE) : ∃ o, findOp sg s = some o ∧ o.ar.length = ts.length ∧ Tm.sorts sg vs ts o.ar = true ∧ (Tm.mk 2 n s ts).sort sg vs = o.re := by
 simp only [Tm.sort] at h ⊢
 cases hf : findOp sg s with
 | none => rw [hf] at h; exact absurd rfl h
 | some o =>
  rw [hf] at h
  by_cases hc : (o.ar.length == ts.length && Tm.sorts sg vs ts o.ar) = true
  ·have hc' := hc
   simp only [Bool.and_eq_true, beq_iff_eq] at hc'
   exact ⟨o, rfl, hc'.1, hc'.2, by simp [hc]⟩
  ·have hc : (o.ar.length == ts.length && Tm.sorts sg vs ts o.ar) = false := by simpa using hc
   simp [hc] at h
theorem sorts_cons (sg : GSignature) (vs : List GVarSort) (a : Tm) (ts : List Tm) (x : ByteArray) (xs : List ByteArray) : Tm.sorts sg vs (a :: ts) (x :: xs) = true ↔ (a.sort sg vs ≠ sE ∧ a.sort sg vs = x) ∧ Tm.sorts sg vs ts xs = true := by
 simp only [Tm.sorts, Bool.and_eq_true, Bool.not_eq_true', eqS_ne, eqS_eq]
theorem sorts_get (sg : GSignature) : ∀ (ts : List Tm) (xs : List ByteArray) (i : Nat) (h : i < ts.length), xs.length = ts.length → Tm.sorts sg [] ts xs = true → ts[i].sort sg [] ≠ sE
 | [], _, _, h, _, _ => by simp at h
 | a :: ts, [], _, _, h, _ => by simp at h
 | a :: ts, x :: xs, 0, _, _, h => by rw [sorts_cons] at h; exact h.1.1
 | a :: ts, x :: xs, i + 1, h, hl, hs => by
  rw [sorts_cons] at hs
  exact sorts_get sg ts xs i (by simpa using h) (by simpa using hl) hs.2
theorem atp_in (sg : GSignature) (i : Int) (p : List Int) (k n : Int) (s : ByteArray) (ts : List Tm) (u : Tm) (h : atp (i :: p) (.mk k n s ts) = some u) : ∃ (hl : i.toNat < ts.length), atp p ts[i.toNat] = some u ∧ ts.getD i.toNat zeroT = ts[i.toNat] := by
 simp only [atp] at h
 split at h
 ·rename_i hc
  simp only [Bool.and_eq_true, decide_eq_true_eq] at hc
  have hlt : i.toNat < ts.length := by omega
  have e : ts.getD i.toNat zeroT = ts[i.toNat] := by rw [List.getD_eq_getElem?_getD, List.getElem?_eq_getElem hlt, Option.getD_some]
  rw [e] at h
  exact ⟨hlt, h, e⟩
 ·cases h
theorem atp_sort (sg : GSignature) : ∀ (p : List Int) (t u : Tm), t.nodes = true → atp p t = some u → t.sort sg [] ≠ sE → u.sort sg [] ≠ sE
 | [], t, u, _, h, hs => by cases h; exact hs
 | i :: p, .mk k n s ts, u, hn, h, hs => by
  obtain ⟨hl, h1, _⟩ := atp_in sg i p k n s ts u h
  by_cases hk : k = 2
  ·subst hk
   obtain ⟨o, h2, h3, h4, _⟩ := sort_app sg [] n s ts hs
   simp only [Tm.nodes, Bool.and_eq_true] at hn
   have hn2 := hn.2
   rw [nodess_all] at hn2
   exact atp_sort sg p _ u (List.all_eq_true.1 hn2 _ (List.getElem_mem hl)) h1 (sorts_get sg ts o.ar _ hl h3 h4)
  ·have := leaf_nodes n s ts k hk hn
   subst this
   simp at hl
end Go.Ai
/- Places where something fires: there is a configuration, the place is strict, and the rule fires there. -/
namespace Go.Ai
open Go.Proofs
set_option maxRecDepth 100000
theorem cnts_mem : ∀ (ts : List Tm) (t : Tm), t ∈ ts → t.cnt ≤ Tm.cnts ts
 | a :: ts, t, h => by
  rcases List.mem_cons.1 h with rfl | h
  ·simp only [Tm.cnts]; omega
  ·have := cnts_mem ts t h; simp only [Tm.cnts]; omega
theorem deps_mem : ∀ (ts : List Tm) (t : Tm), t ∈ ts → t.dep ≤ Tm.deps ts
 | a :: ts, t, h => by
  rcases List.mem_cons.1 h with rfl | h
  ·simp only [Tm.deps]; omega
  ·have := deps_mem ts t h; simp only [Tm.deps]; omega
theorem varss_mem : ∀ (ts : List Tm) (t : Tm), t ∈ ts → Tm.varss ts = [] → t.vars = []
 | a :: ts, t, h, e => by
  simp only [Tm.varss, List.append_eq_nil_iff] at e
  rcases List.mem_cons.1 h with rfl | h
  ·exact e.1
  ·exact varss_mem ts t h e.2
theorem atp_parts : ∀ (p : List Int) (t u : Tm), atp p t = some u → u.cnt ≤ t.cnt ∧ u.dep ≤ t.dep ∧ (t.nodes = true → u.nodes = true) ∧ (t.vars = [] → u.vars = [])
 | [], t, u, h => by cases h; exact ⟨Nat.le_refl _, Nat.le_refl _, id, id⟩
 | i :: p, .mk k n s ts, u, h => by
  obtain ⟨hl, h1, _⟩ := atp_in ⟨[], []⟩ i p k n s ts u h
  have hm := List.getElem_mem hl
  obtain ⟨a, b, c, e⟩ := atp_parts p _ u h1
  have h2 := cnts_mem ts _ hm
  have h3 := deps_mem ts _ hm
  refine ⟨by simp only [Tm.cnt]; omega, by simp only [Tm.dep]; omega, fun hn => c ?_, fun hv => e ?_⟩
  ·simp only [Tm.nodes, Bool.and_eq_true] at hn
   have hn2 := hn.2
   rw [nodess_all] at hn2
   exact List.all_eq_true.1 hn2 _ hm
  ·simp only [Tm.vars, List.append_eq_nil_iff] at hv
   exact varss_mem ts _ hm hv.2
theorem cfg_at (d : GDefinition) (t : Tm) (h : cfgB d t = true) (p : List Int) (u : Tm) (hu : atp p t = some u) : cfgB d u = true := by
 simp only [cfgB, Bool.and_eq_true, Tm.valid, decide_eq_true_eq, Bool.not_eq_true', beq_iff_eq] at h ⊢
 obtain ⟨⟨⟨h1, ⟨h2, h3⟩, h4⟩, h5⟩, h6⟩ := h
 obtain ⟨a, b, c, e⟩ := atp_parts p t u hu
 have ht : t.sort d.si [] ≠ sE := fun e => by rw [e] at h6; simp [eqS] at h6
 have hs := atp_sort d.si p t u h4 hu ht
 refine ⟨⟨⟨h1, ⟨by omega, by omega⟩, c h4⟩, ?_⟩, ?_⟩
 ·rw [e (List.eq_nil_of_length_eq_zero h5)]; rfl
 ·rw [Bool.eq_false_iff]
  intro q
  exact hs ((eqS_eq _ _).1 q)
theorem all_at (st : List GStrict) (ro : Tm → List Int) : ∀ (t : Tm), rng st t → ∀ q, q ∈ t.all st ro → (∃ u, atp q.2 t = some u ∧ q.1 ∈ ro u) ∧ isSP st t q.2 = true := by
 refine Tm.ind (fun k n s ts ih hr q hq => ?_)
 rw [Tm.all, List.mem_append, List.mem_map] at hq
 rcases hq with ⟨x, hx, rfl⟩ | hq
 ·exact ⟨⟨_, rfl, hx⟩, isSP_nil _ _⟩
 ·obtain ⟨x, q', h1, h2, rfl⟩ := gather_mem _ _ _ hq
  by_cases hk : k = 2
  ·rw [if_pos hk] at h1
   have hxr := hr.1 hk x h1
   rw [alls_get st ro ts _ hxr.2] at h2
   obtain ⟨⟨u, h3, h4⟩, h5⟩ := ih _ (List.getElem_mem hxr.2) (rngs_mem st ts hr.2 _ (List.getElem_mem hxr.2)) q' h2
   refine ⟨⟨u, ?_, h4⟩, ?_⟩
   ·have e : (decide (0 ≤ x) && decide (x < (ts.length : Int))) = true := by
     simp only [Bool.and_eq_true, decide_eq_true_eq]; have := hxr.1; have := hxr.2; omega
    simp only [atp]
    rw [if_pos e, List.getD_eq_getElem?_getD, List.getElem?_eq_getElem hxr.2, Option.getD_some]
    exact h3
   ·simp only
    rw [isSP_in st k n s ts x q'.2 hxr.1 hxr.2, h5, hk]
    have : hasI (strictOf st s) x = true := List.any_eq_true.2 ⟨x, h1, by simp⟩
    rw [this]; rfl
  ·rw [if_neg hk] at h1; cases h1
theorem firesF_mem (p : GRule → Bool) : ∀ (rs : List GRule) (k x : Int), x ∈ firesF p rs k → ∃ (j : Nat) (hj : j < rs.length), x = k + j ∧ p rs[j] = true
 | r :: rs, k, x, h => by
  simp only [firesF, List.mem_append] at h
  rcases h with h | h
  ·split at h
   ·rename_i hp
    exact ⟨0, by simp, by simp at h; simp [h], by simpa using hp⟩
   ·cases h
  ·obtain ⟨j, hj, h1, h2⟩ := firesF_mem p rs (k + 1) x h
   exact ⟨j + 1, by simp only [List.length_cons]; omega, by omega, by simpa using h2⟩
theorem rootI_head (p : GRule → Bool) : ∀ (rs : List GRule) (k : Int), 0 ≤ rootI p rs k → ∃ tl, firesF p rs k = rootI p rs k :: tl
 | [], k, h => by simp [rootI] at h
 | r :: rs, k, h => by
  simp only [rootI, firesF] at h ⊢
  split
  ·exact ⟨_, rfl⟩
  ·rename_i hp
   rw [if_neg hp] at h
   obtain ⟨tl, e⟩ := rootI_head p rs (k + 1) h
   exact ⟨tl, by rw [e]; rfl⟩
theorem all_root (d : GDefinition) (t : Tm) (h : 0 ≤ rootB d t) : ∃ tl, allB d t = ⟨rootB d t, []⟩ :: tl := by
 unfold rootB at h ⊢
 unfold allB
 split at h
 ·rename_i hc
  rw [if_pos hc, if_pos hc]
  obtain ⟨tl, e⟩ := rootI_head _ _ _ h
  obtain ⟨k, n, s, ts⟩ := t
  rw [Tm.all]
  unfold firesI
  rw [e]
  exact ⟨_, rfl⟩
 ·omega
theorem all_fires (d : GDefinition) (t : Tm) (i : Nat) (hi : i < (allB d t).length) : ∃ u, atp (allB d t)[i].ps t = some u ∧ (fireB d (allB d t)[i].ru u).isSome = true ∧ isSP d.st t (allB d t)[i].ps = true ∧ cfgB d t = true := by
 have hm := List.getElem_mem hi
 generalize (allB d t)[i] = r at hm
 unfold allB at hm
 split at hm
 ·rename_i hc
  obtain ⟨q, hq, rfl⟩ := List.mem_map.1 hm
  obtain ⟨⟨u, h1, h2⟩, h3⟩ := all_at d.st (firesI d) t (cfg_rng d t hc) q hq
  refine ⟨u, h1, ?_, h3, hc⟩
  obtain ⟨j, hj, e, hp⟩ := firesF_mem _ _ _ _ h2
  have e : q.1 = (j : Int) := by omega
  simp only [rdG]
  rw [e, fireB_in d j hj u (cfg_at d t hc q.2 u h1), Option.isSome_map]
  exact hp
 ·cases hm
theorem atp_wf : ∀ (p : List Int) (t u : Tm), atp p t = some u → t.wf → u.wf
 | [], t, u, h, hw => by cases h; exact hw
 | i :: p, .mk k n s ts, u, h, hw => by
  obtain ⟨hl, h1, _⟩ := atp_in ⟨[], []⟩ i p k n s ts u h
  simp only [Tm.wf] at hw
  exact atp_wf p _ u h1 ((wfs_iff ts).1 hw.2.2.2.2 _ (List.getElem_mem hl))
end Go.Ai
