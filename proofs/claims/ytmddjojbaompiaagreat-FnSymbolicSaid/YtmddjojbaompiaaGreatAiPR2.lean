/- Instances of a symbolic term are configurations. -/
import Derived.Test.YtmddjojbaompiaaGreatAiU11
import Derived.Test.YtmddjojbaompiaaGreatAiI5
import Derived.Test.YtmddjojbaompiaaGreatAiSR
import Derived.Test.YtmddjojbaompiaaGreatAiH2
set_option linter.unusedVariables false
set_option linter.unusedSimpArgs false
namespace Go.Ai
open Go.Proofs
set_option maxRecDepth 100000
theorem word_nodes (m : Int) (h0 : 0 ≤ m) (h1 : m < 4) : (wordT m).nodes = true := by
 have : eqS ByteArray.empty sE = true := (eqS_eq _ _).2 rfl
 simp only [wordT, Tm.nodes, Tm.nodess, nodeB, this, Bool.and_true]
 simp; omega
theorem opW_4 (s : ByteArray) (a b : Int) : 0 ≤ opW s a b ∧ opW s a b < 4 := by
 unfold opW
 split
 ·omega
 ·split <;> omega
def Words (bs : List GBind) : Prop := ∀ v t, bnd bs v = some t → ∃ m, t = wordT m ∧ 0 ≤ m ∧ m < 4
theorem sub_cases (bs : List GBind) (hb : Words bs) (k n : Int) (s : ByteArray) (ts : List Tm) : (k = 1 ∧ ∃ m, (Tm.mk k n s ts).sub bs = wordT m ∧ 0 ≤ m ∧ m < 4) ∨ ((k = 1 → bnd bs s = none) ∧ (Tm.mk k n s ts).sub bs = .mk k n s (Tm.subs bs ts)) := by
 by_cases hk : k = 1
 ·cases hx : bnd bs s with
  | none => exact .inr ⟨fun _ => rfl, sub_none bs k n s ts (fun _ => hx)⟩
  | some t =>
   subst hk
   obtain ⟨m, rfl, h⟩ := hb s t hx
   exact .inl ⟨rfl, m, sub_var bs n s ts _ hx, h⟩
 ·exact .inr ⟨fun h => absurd h hk, sub_none bs k n s ts (fun h => absurd h hk)⟩
mutual
theorem sub_valid (bs : List GBind) (hb : Words bs) : ∀ (t : Tm), t.nodes = true → (t.sub bs).nodes = true ∧ (t.sub bs).cnt ≤ t.cnt ∧ (t.sub bs).dep ≤ t.dep
 | .mk k n s ts, h => by
  rcases sub_cases bs hb k n s ts with ⟨_, m, e, h0, h1⟩ | ⟨_, e⟩
  ·rw [e]
   exact ⟨word_nodes m h0 h1, by simp only [wordT, Tm.cnt, Tm.cnts]; omega, by simp only [wordT, Tm.dep, Tm.deps]; omega⟩
  ·rw [e]
   simp only [Tm.nodes, Bool.and_eq_true] at h
   obtain ⟨a, b, c⟩ := subs_valid bs hb ts h.2
   have hl : (Tm.subs bs ts).length = ts.length := by rw [subs_map, List.length_map]
   refine ⟨?_, by simp only [Tm.cnt]; omega, by simp only [Tm.dep]; omega⟩
   simp only [Tm.nodes, Bool.and_eq_true]
   exact ⟨by rw [hl]; exact h.1, a⟩
theorem subs_valid (bs : List GBind) (hb : Words bs) : ∀ (ts : List Tm), Tm.nodess ts = true → Tm.nodess (Tm.subs bs ts) = true ∧ Tm.cnts (Tm.subs bs ts) ≤ Tm.cnts ts ∧ Tm.deps (Tm.subs bs ts) ≤ Tm.deps ts
 | [], _ => ⟨rfl, Nat.le_refl _, Nat.le_refl _⟩
 | a :: ts, h => by
  simp only [Tm.nodess, Bool.and_eq_true] at h
  obtain ⟨h1, h2, h3⟩ := sub_valid bs hb a h.1
  obtain ⟨k1, k2, k3⟩ := subs_valid bs hb ts h.2
  refine ⟨?_, by simp only [Tm.subs, Tm.cnts]; omega, by simp only [Tm.subs, Tm.deps]; omega⟩
  simp only [Tm.subs, Tm.nodess, Bool.and_eq_true]
  exact ⟨h1, k1⟩
end
theorem redTop_word (k n : Int) (s : ByteArray) (ts : List Tm) : redTop k n s ts = .mk k n s ts ∨ ∃ m, redTop k n s ts = wordT m ∧ 0 ≤ m ∧ m < 4 := by
 unfold redTop
 split
 ·split
  ·exact .inr ⟨_, rfl, opW_4 _ _ _⟩
  ·exact .inl rfl
 ·exact .inl rfl
mutual
theorem red_valid : ∀ (t : Tm), t.nodes = true → t.red.nodes = true ∧ t.red.cnt ≤ t.cnt ∧ t.red.dep ≤ t.dep
 | .mk k n s ts, h => by
  rw [Tm.red]
  rcases redTop_word k n s (Tm.reds ts) with e | ⟨m, e, h0, h1⟩
  ·rw [e]
   simp only [Tm.nodes, Bool.and_eq_true] at h
   obtain ⟨a, b, c⟩ := reds_valid ts h.2
   have hl : (Tm.reds ts).length = ts.length := by rw [reds_map, List.length_map]
   refine ⟨?_, by simp only [Tm.cnt]; omega, by simp only [Tm.dep]; omega⟩
   simp only [Tm.nodes, Bool.and_eq_true]
   exact ⟨by rw [hl]; exact h.1, a⟩
  ·rw [e]
   exact ⟨word_nodes m h0 h1, by simp only [wordT, Tm.cnt, Tm.cnts]; omega, by simp only [wordT, Tm.dep, Tm.deps]; omega⟩
theorem reds_valid : ∀ (ts : List Tm), Tm.nodess ts = true → Tm.nodess (Tm.reds ts) = true ∧ Tm.cnts (Tm.reds ts) ≤ Tm.cnts ts ∧ Tm.deps (Tm.reds ts) ≤ Tm.deps ts
 | [], _ => ⟨rfl, Nat.le_refl _, Nat.le_refl _⟩
 | a :: ts, h => by
  simp only [Tm.nodess, Bool.and_eq_true] at h
  obtain ⟨h1, h2, h3⟩ := red_valid a h.1
  obtain ⟨k1, k2, k3⟩ := reds_valid ts h.2
  refine ⟨?_, by simp only [Tm.reds, Tm.cnts]; omega, by simp only [Tm.reds, Tm.deps]; omega⟩
  simp only [Tm.reds, Tm.nodess, Bool.and_eq_true]
  exact ⟨h1, k1⟩
end
mutual
theorem sub_novars (bs : List GBind) (hb : Words bs) : ∀ (t : Tm), t.nodes = true → (∀ v, v ∈ t.vars → (bnd bs v).isSome = true) → (t.sub bs).vars = []
 | .mk k n s ts, hn, h => by
  rcases sub_cases bs hb k n s ts with ⟨_, m, e, _⟩ | ⟨hk, e⟩
  ·rw [e]; rfl
  ·rw [e]
   simp only [Tm.nodes, Bool.and_eq_true] at hn
   simp only [Tm.vars] at h ⊢
   have h2 := subs_novars bs hb ts hn.2 (fun v hv => h v (List.mem_append_right _ hv))
   rw [h2]
   by_cases hk1 : k = 1
   ·have := h s (List.mem_append_left _ (by simp [hk1]))
    rw [hk hk1] at this; cases this
   ·have : (k == 1) = false := by simpa using hk1
    simp [this]
theorem subs_novars (bs : List GBind) (hb : Words bs) : ∀ (ts : List Tm), Tm.nodess ts = true → (∀ v, v ∈ Tm.varss ts → (bnd bs v).isSome = true) → Tm.varss (Tm.subs bs ts) = []
 | [], _, _ => rfl
 | a :: ts, hn, h => by
  simp only [Tm.nodess, Bool.and_eq_true] at hn
  simp only [Tm.subs, Tm.varss]
  rw [sub_novars bs hb a hn.1 (fun v hv => h v (by simp only [Tm.varss]; exact List.mem_append_left _ hv)), subs_novars bs hb ts hn.2 (fun v hv => h v (by simp only [Tm.varss]; exact List.mem_append_right _ hv))]
  rfl
end
theorem bnd_in : ∀ (bs : List GBind) (v : ByteArray) (t : Tm), bnd bs v = some t → ∃ b, b ∈ bs ∧ b.t = t ∧ b.na = v
 | b :: bs, v, t, h => by
  simp only [bnd] at h
  split at h
  ·rename_i e; exact ⟨b, by simp, Option.some.inj h, (eqS_eq _ _).1 e⟩
  ·obtain ⟨b', h1, h2, h3⟩ := bnd_in bs v t h; exact ⟨b', by simp [h1], h2, h3⟩
theorem case_words (va : List ByteArray) (c : Int) : Words (caseSubst va c) := by
 intro v t h
 obtain ⟨b, h1, rfl, _⟩ := bnd_in _ _ _ h
 obtain ⟨p, h2, rfl⟩ := List.mem_map.1 h1
 have := valsOf_b _ _ p.2 (List.of_mem_zip h2).2
 exact ⟨_, rfl, this⟩
theorem bnd_some : ∀ (bs : List GBind) (v : ByteArray), v ∈ bs.map GBind.na → (bnd bs v).isSome = true
 | b :: bs, v, h => by
  simp only [bnd]
  split
  ·rfl
  ·rename_i e
   simp only [List.map_cons, List.mem_cons] at h
   rcases h with rfl | h
   ·exact absurd ((eqS_eq _ _).2 rfl) e
   ·exact bnd_some bs v h
theorem case_bound (va : List ByteArray) (c : Int) (h0 : 0 ≤ c) (h1 : c < ccN va.length) (v : ByteArray) (hv : v ∈ va) : (bnd (caseSubst va c) v).isSome = true := by
 apply bnd_some
 have hl : (valsOf va.length c).length = va.length := by
  unfold valsOf
  rw [if_pos ⟨h0, h1⟩, List.length_reverse, dgI_len]
 have : (caseSubst va c).map GBind.na = va := by
  simp only [caseSubst, casePairs, List.map_map]
  have e : (GBind.na ∘ mkB) = Prod.fst := by funext p; rfl
  rw [e, List.map_fst_zip (by omega)]
 rw [this]; exact hv
theorem fvs_word : ∀ (va : List ByteArray) (v : ByteArray), v ∈ va → fvs (wordVs va) v = some sWord
 | a :: va, v, h => by
  simp only [wordVs, List.map_cons, fvs]
  split
  ·rfl
  ·rename_i e
   rcases List.mem_cons.1 h with rfl | h
   ·exact absurd ((eqS_eq _ _).2 rfl) e
   ·exact fvs_word va v h
theorem sym_inst (d : GDefinition) (s : GSymbolic) (h : symB d s = true) (k : Nat) (hk : k < s.ca.length) : (0 ≤ s.ca[k] ∧ s.ca[k] < ccN s.va.length) ∧ cfgB d (s.t.sub (caseSubst s.va s.ca[k])).red = true := by
 simp only [symB, Bool.and_eq_true, Bool.not_eq_true'] at h
 obtain ⟨⟨⟨⟨⟨⟨⟨h1, h2⟩, h3⟩, h4⟩, h5⟩, h6⟩, h7⟩, h8⟩ := h
 have hc := List.all_eq_true.1 h7 k (List.mem_range.2 hk)
 simp only [caseAt, List.getD_eq_getElem?_getD, List.getElem?_eq_getElem hk, Option.getD_some, Bool.and_eq_true, decide_eq_true_eq] at hc
 obtain ⟨⟨c0, c1⟩, _⟩ := hc
 generalize s.ca[k] = c at c0 c1
 refine ⟨⟨c0, c1⟩, ?_⟩
 have hw := case_words s.va c
 have hin : ∀ v, v ∈ s.t.vars → v ∈ s.va := fun v hv => by
  have := List.all_eq_true.1 h6 v hv
  simp only [hasS, List.any_eq_true] at this
  obtain ⟨x, hx, e⟩ := this
  rw [(eqS_eq _ _).1 e] at hx; exact hx
 have hbd : ∀ v, v ∈ s.t.vars → (bnd (caseSubst s.va c) v).isSome = true := fun v hv => case_bound s.va c c0 c1 v (hin v hv)
 simp only [Tm.valid, Bool.and_eq_true, decide_eq_true_eq] at h5
 obtain ⟨a1, a2, a3⟩ := sub_valid _ hw s.t h5.2
 obtain ⟨b1, b2, b3⟩ := red_valid _ a1
 have hg : Good d.si (wordVs s.va) (caseSubst s.va c) := fun v t hb => by
  obtain ⟨b, e1, e2, e3⟩ := bnd_in _ _ _ hb
  obtain ⟨m, rfl, _⟩ := hw v t hb
  obtain ⟨p, q, rfl⟩ := List.mem_map.1 e1
  have hv : v ∈ s.va := by rw [← e3]; exact (List.of_mem_zip q).1
  rw [fvs_word s.va v hv]
  simp [wordT, Tm.sort]
 have hso := sub_sort d.si (wordVs s.va) _ hg s.t hbd
 have hne : s.t.sort d.si (wordVs s.va) ≠ sE := (eqS_ne _ _).1 h8
 have hso2 := red_sort d.si (s.t.sub (caseSubst s.va c)) (by rw [hso]; exact hne)
 simp only [cfgB, Bool.and_eq_true, Bool.not_eq_true', Tm.valid, decide_eq_true_eq]
 refine ⟨⟨⟨h1, ⟨by omega, by omega⟩, b1⟩, ?_⟩, ?_⟩
 ·rw [red_vars, sub_novars _ hw s.t h5.2 hbd]; rfl
 ·rw [hso2, hso]; exact (eqS_ne _ _).2 hne
end Go.Ai
