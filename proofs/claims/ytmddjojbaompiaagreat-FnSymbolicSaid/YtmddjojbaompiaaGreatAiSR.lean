/- A step keeps the sort: matching, substituting, reducing, putting in. No program in sight. -/
import Derived.Test.YtmddjojbaompiaaGreatAiY2
import Derived.Test.YtmddjojbaompiaaGreatAiA1
set_option linter.unusedVariables false
set_option linter.unusedSimpArgs false
namespace Go.Ai
def Good (sg : GSignature) (vs : List GVarSort) (bs : List GBind) : Prop := ∀ v t, bnd bs v = some t → t.sort sg [] = (fvs vs v).getD sE
theorem sort_app (sg : GSignature) (vs : List GVarSort) (n : Int) (s : ByteArray) (ts : List Tm) (h : (Tm.mk 2 n s ts).sort sg vs ≠ sE) : ∃ o, findOp sg s = some o ∧ o.ar.length = ts.length ∧ Tm.sorts sg vs ts o.ar = true ∧ (Tm.mk 2 n s ts).sort sg vs = o.re := by
 simp only [Tm.sort] at h ⊢
 cases hf : findOp sg s with
 | none => rw [hf] at h; exact absurd rfl h
 | some o =>
  rw [hf] at h
  by_cases hc : (o.ar.length == ts.length && Tm.sorts sg vs ts o.ar) = true
  ·have hc' := hc
   simp only [Bool.and_eq_true, beq_iff_eq] at hc'
   exact ⟨o, rfl, hc'.1, hc'.2, by simp [hc]⟩
  ·have hc : (o.ar.length == ts.length && Tm.sorts sg vs ts o.ar) = false := by simpa using hc
   simp [hc] at h
theorem sort_of (sg : GSignature) (vs : List GVarSort) (n : Int) (s : ByteArray) (ts : List Tm) (o : GOp) (h1 : findOp sg s = some o) (h2 : o.ar.length = ts.length) (h3 : Tm.sorts sg vs ts o.ar = true) : (Tm.mk 2 n s ts).sort sg vs = o.re := by
 simp [Tm.sort, h1, h2, h3]
theorem sort_kind (sg : GSignature) (vs : List GVarSort) (k n : Int) (s : ByteArray) (ts : List Tm) (h : (Tm.mk k n s ts).sort sg vs ≠ sE) : k = 1 ∨ k = 2 ∨ k = 3 := by
 rcases Classical.em (k = 3) with h3 | h3
 ·exact .inr (.inr h3)
 ·rcases Classical.em (k = 1) with h1 | h1
  ·exact .inl h1
  ·rcases Classical.em (k = 2) with h2 | h2
   ·exact .inr (.inl h2)
   ·simp [Tm.sort, h1, h2, h3] at h
theorem sort_ground (sg : GSignature) (n : Int) (s : ByteArray) (ts : List Tm) : (Tm.mk 1 n s ts).sort sg [] = sE := by simp [Tm.sort, fvs]
theorem sorts_cons (sg : GSignature) (vs : List GVarSort) (a : Tm) (ts : List Tm) (x : ByteArray) (xs : List ByteArray) : Tm.sorts sg vs (a :: ts) (x :: xs) = true ↔ (a.sort sg vs ≠ sE ∧ a.sort sg vs = x) ∧ Tm.sorts sg vs ts xs = true := by
 simp only [Tm.sorts, Bool.and_eq_true, Bool.not_eq_true', eqS_ne, eqS_eq]
mutual
theorem sub_sort (sg : GSignature) (vs : List GVarSort) (bs : List GBind) (hg : Good sg vs bs) : ∀ (t : Tm), (∀ v, v ∈ t.vars → (bnd bs v).isSome = true) → (t.sub bs).sort sg [] = t.sort sg vs
 | .mk k n s ts, h => by
  by_cases hk : k = 1
  ·subst hk
   have := h s (by simp [Tm.vars])
   cases hb : bnd bs s with
   | none => rw [hb] at this; cases this
   | some t =>
    rw [sub_var bs n s ts t hb, hg s t hb]
    simp [Tm.sort]
  ·rw [sub_none bs k n s ts (fun h => absurd h hk)]
   have ih := fun xs => subs_sorts sg vs bs hg ts xs (fun v hv => h v (by simp only [Tm.vars]; exact List.mem_append_right _ hv))
   have hl : (Tm.subs bs ts).length = ts.length := by rw [subs_map, List.length_map]
   simp only [Tm.sort, hl, ih, show (k == 1) = false by simpa using hk]
   rfl
theorem subs_sorts (sg : GSignature) (vs : List GVarSort) (bs : List GBind) (hg : Good sg vs bs) : ∀ (ts : List Tm) (xs : List ByteArray), (∀ v, v ∈ Tm.varss ts → (bnd bs v).isSome = true) → Tm.sorts sg [] (Tm.subs bs ts) xs = Tm.sorts sg vs ts xs
 | [], xs, _ => by simp [Tm.subs, Tm.sorts]
 | a :: ts, [], _ => by simp [Tm.subs, Tm.sorts]
 | a :: ts, x :: xs, h => by
  simp only [Tm.subs, Tm.sorts]
  rw [sub_sort sg vs bs hg a (fun v hv => h v (by simp only [Tm.varss]; exact List.mem_append_left _ hv)), subs_sorts sg vs bs hg ts xs (fun v hv => h v (by simp only [Tm.varss]; exact List.mem_append_right _ hv))]
end
theorem redTop_cases (k n : Int) (s : ByteArray) (ts : List Tm) : redTop k n s ts = .mk k n s ts ∨ (k = 2 ∧ isBi s = true ∧ ∃ m, redTop k n s ts = wordT m) := by
 unfold redTop
 split
 ·split
  ·rename_i h
   simp only [Bool.and_eq_true, beq_iff_eq] at h
   exact .inr ⟨h.1.1.1.1, h.1.1.2, _, rfl⟩
  ·exact .inl rfl
 ·exact .inl rfl
mutual
theorem red_sort (sg : GSignature) : ∀ (t : Tm), t.sort sg [] ≠ sE → (t.red).sort sg [] = t.sort sg []
 | .mk k n s ts, h => by
  rw [Tm.red]
  rcases sort_kind sg [] k n s ts h with rfl | rfl | rfl
  ·exact absurd (sort_ground sg n s ts) h
  ·obtain ⟨o, h1, h2, h3, h4⟩ := sort_app sg [] n s ts h
   rcases redTop_cases 2 n s (Tm.reds ts) with e | ⟨_, hb, m, e⟩
   ·rw [e, h4]
    exact sort_of sg [] n s _ o h1 (by rw [h2, reds_map, List.length_map]) (reds_sorts sg ts o.ar h3)
   ·rw [e, h4]
    have : findOp sg s = some ⟨s, [sWord, sWord], sWord⟩ := by simp [findOp, hb]
    rw [this] at h1
    cases h1
    rfl
  ·rcases redTop_cases 3 n s (Tm.reds ts) with e | ⟨h, _⟩
   ·rw [e]; rfl
   ·cases h
theorem reds_sorts (sg : GSignature) : ∀ (ts : List Tm) (xs : List ByteArray), Tm.sorts sg [] ts xs = true → Tm.sorts sg [] (Tm.reds ts) xs = true
 | [], xs, _ => by simp [Tm.reds, Tm.sorts]
 | a :: ts, [], _ => by simp [Tm.reds, Tm.sorts]
 | a :: ts, x :: xs, h => by
  rw [sorts_cons] at h
  simp only [Tm.reds]
  rw [sorts_cons, red_sort sg a h.1.1]
  exact ⟨h.1, reds_sorts sg ts xs h.2⟩
end
end Go.Ai
