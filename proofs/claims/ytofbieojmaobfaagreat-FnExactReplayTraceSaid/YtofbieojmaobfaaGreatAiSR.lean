/- A step keeps the sort: matching, substituting, reducing, putting in. No program in sight. -/
import Derived.Test.YtofbieojmaobfaaGreatAiY3
import Derived.Test.YtofbieojmaobfaaGreatAiA3
set_option linter.unusedVariables false
set_option linter.unusedSimpArgs false
namespace Go.Ai
def Good (sg : GSignature) (vs : List GVarSort) (bs : List GBind) : Prop := ∀ v t, bnd bs v = some t → t.sort sg [] = (fvs vs v).getD sE
theorem bnd_snoc (s : ByteArray) (y : Tm) (v : ByteArray) : ∀ (bs : List GBind), bnd (bs ++ [⟨s, y⟩]) v = match bnd bs v with
  | some t => some t
  | none => if eqS s v then some y else none
 | [] => by simp [bnd]
 | b :: bs => by
  simp only [List.cons_append, bnd]
  split
  ·rfl
  ·exact bnd_snoc s y v bs
theorem leaf_nodes (n : Int) (s : ByteArray) (ts : List Tm) (k : Int) (hk : ¬ k = 2) (h : (Tm.mk k n s ts).nodes = true) : ts = [] := by
 simp only [Tm.nodes, Bool.and_eq_true] at h
 have hn := h.1
 apply List.eq_nil_of_length_eq_zero
 unfold nodeB at hn
 have hk2 : (k == 2) = false := by simpa using hk
 rw [hk2] at hn
 simp only [Bool.false_eq_true, if_false] at hn
 split at hn
 ·simp only [Bool.and_eq_true, beq_iff_eq] at hn; exact hn.2
 ·split at hn
  ·simp only [Bool.and_eq_true, beq_iff_eq] at hn; exact hn.2
  ·cases hn
theorem sort_app (sg : GSignature) (vs : List GVarSort) (n : Int) (s : ByteArray) (ts : List Tm) (h : (Tm.mk 2 n s ts).sort sg vs ≠ sE) : ∃ o, findOp sg s = some o ∧ o.ar.length = ts.length ∧ Tm.sorts sg vs ts o.ar = true ∧ (Tm.mk 2 n s ts).sort sg vs = o.re := by
 simp only [Tm.sort] at h ⊢
 cases hf : findOp sg s with
 | none => rw [hf] at h; exact absurd rfl h
 | some o =>
  rw [hf] at h
  by_cases hc : (o.ar.length == ts.length && Tm.sorts sg vs ts o.ar) = true
  ·have hc' := hc
   simp only [Bool.and_eq_true, beq_iff_eq] at hc'
   exact ⟨o, rfl, hc'.1, hc'.2, by simp [hc]⟩
  ·have hc : (o.ar.length == ts.length && Tm.sorts sg vs ts o.ar) = false := by simpa using hc
   simp [hc] at h
theorem sort_of (sg : GSignature) (vs : List GVarSort) (n : Int) (s : ByteArray) (ts : List Tm) (o : GOp) (h1 : findOp sg s = some o) (h2 : o.ar.length = ts.length) (h3 : Tm.sorts sg vs ts o.ar = true) : (Tm.mk 2 n s ts).sort sg vs = o.re := by
 simp [Tm.sort, h1, h2, h3]
theorem sort_kind (sg : GSignature) (vs : List GVarSort) (k n : Int) (s : ByteArray) (ts : List Tm) (h : (Tm.mk k n s ts).sort sg vs ≠ sE) : k = 1 ∨ k = 2 ∨ k = 3 := by
 rcases Classical.em (k = 3) with h3 | h3
 ·exact .inr (.inr h3)
 ·rcases Classical.em (k = 1) with h1 | h1
  ·exact .inl h1
  ·rcases Classical.em (k = 2) with h2 | h2
   ·exact .inr (.inl h2)
   ·simp [Tm.sort, h1, h2, h3] at h
theorem sort_ground (sg : GSignature) (n : Int) (s : ByteArray) (ts : List Tm) : (Tm.mk 1 n s ts).sort sg [] = sE := by simp [Tm.sort, fvs]
theorem sorts_cons (sg : GSignature) (vs : List GVarSort) (a : Tm) (ts : List Tm) (x : ByteArray) (xs : List ByteArray) : Tm.sorts sg vs (a :: ts) (x :: xs) = true ↔ (a.sort sg vs ≠ sE ∧ a.sort sg vs = x) ∧ Tm.sorts sg vs ts xs = true := by
 simp only [Tm.sorts, Bool.and_eq_true, Bool.not_eq_true', eqS_ne, eqS_eq]
mutual
theorem mat_good (sg : GSignature) (vs : List GVarSort) : ∀ (t y : Tm) (bs r : List GBind), t.nodes = true → t.mat y bs = some r → y.sort sg [] = t.sort sg vs → t.sort sg vs ≠ sE → Good sg vs bs → Good sg vs r
 | .mk k n s ts, y, bs, r, hn, hm, hy, hs, hg => by
  simp only [Tm.mat] at hm
  split at hm
  ·rename_i hk
   have hk : k = 1 := by simpa using hk
   subst hk
   cases hb : bnd bs s with
   | some x =>
    rw [hb] at hm
    simp only at hm
    split at hm
    ·cases hm; exact hg
    ·cases hm
   | none =>
    rw [hb] at hm
    cases hm
    intro v t ht
    rw [bnd_snoc] at ht
    cases hv : bnd bs v with
    | some t' => rw [hv] at ht; exact hg v t (by rw [hv]; exact ht)
    | none =>
     rw [hv] at ht
     simp only at ht
     split at ht
     ·rename_i he
      cases ht
      have he := (eqS_eq _ _).1 he
      subst he
      rw [hy]; simp [Tm.sort]
     ·cases ht
  ·rename_i hk1
   split at hm
   ·rename_i hne
    obtain ⟨k2, n2, s2, ts2⟩ := y
    simp only [nodeE, Bool.and_eq_true, beq_iff_eq] at hne
    obtain ⟨⟨⟨rfl, rfl⟩, he⟩, hl⟩ := hne
    have he := (eqS_eq _ _).1 he
    subst he
    by_cases hk : k = 2
    ·subst hk
     obtain ⟨o, h1, h2, h3, h4⟩ := sort_app sg vs n s ts hs
     have hys : (Tm.mk 2 n s ts2).sort sg [] ≠ sE := by rw [hy]; exact hs
     obtain ⟨o', h5, h6, h7, h8⟩ := sort_app sg [] n s ts2 hys
     rw [h1] at h5
     cases h5
     simp only [Tm.nodes, Bool.and_eq_true] at hn
     exact mats_good sg vs ts ts2 o.ar bs r hn.2 hl h2 hm h3 h7 hg
    ·have := leaf_nodes n s ts k hk hn
     subst this
     simp only [Tm.mats] at hm
     cases hm; exact hg
   ·cases hm
theorem mats_good (sg : GSignature) (vs : List GVarSort) : ∀ (ts ys : List Tm) (xs : List ByteArray) (bs r : List GBind), Tm.nodess ts = true → ts.length = ys.length → xs.length = ts.length → Tm.mats ts ys bs = some r → Tm.sorts sg vs ts xs = true → Tm.sorts sg [] ys xs = true → Good sg vs bs → Good sg vs r
 | [], ys, xs, bs, r, _, _, _, hm, _, _, hg => by simp only [Tm.mats] at hm; cases hm; exact hg
 | a :: ts, [], _, _, _, _, h, _, _, _, _, _ => by simp at h
 | a :: ts, y :: ys, [], _, _, _, _, h, _, _, _, _ => by simp at h
 | a :: ts, y :: ys, x :: xs, bs, r, hn, hl, hx, hm, hs, hys, hg => by
  simp only [Tm.nodess, Bool.and_eq_true] at hn
  rw [sorts_cons] at hs hys
  simp only [Tm.mats, List.headD_cons, List.tail_cons] at hm
  split at hm
  ·rename_i bs' hb
   exact mats_good sg vs ts ys xs bs' r hn.2 (by simpa using hl) (by simpa using hx) hm hs.2 hys.2 (mat_good sg vs a y bs bs' hn.1 hb (by rw [hs.1.2, hys.1.2]) hs.1.1 hg)
  ·cases hm
end
mutual
theorem mat_binds : ∀ (t y : Tm) (bs r : List GBind), t.nodes = true → t.mat y bs = some r → (∀ v, v ∈ t.vars → (bnd r v).isSome = true) ∧ ∀ v, (bnd bs v).isSome = true → (bnd r v).isSome = true
 | .mk k n s ts, y, bs, r, hn, hm => by
  simp only [Tm.mat] at hm
  split at hm
  ·rename_i hk
   have hk : k = 1 := by simpa using hk
   subst hk
   have hts := leaf_nodes n s ts 1 (by decide) hn
   subst hts
   have hv : ∀ v, v ∈ (Tm.mk 1 n s []).vars → v = s := by
    intro v hv
    simpa [Tm.vars, Tm.varss] using hv
   cases hb : bnd bs s with
   | some x =>
    rw [hb] at hm
    simp only at hm
    split at hm
    ·cases hm
     exact ⟨fun v h => by rw [hv v h, hb]; rfl, fun v h => h⟩
    ·cases hm
   | none =>
    rw [hb] at hm
    cases hm
    refine ⟨fun v h => ?_, fun v h => ?_⟩
    ·rw [hv v h, bnd_snoc, hb]
     simp [(eqS_eq s s).2 rfl]
    ·rw [bnd_snoc]
     cases hq : bnd bs v with
     | some t => rfl
     | none => rw [hq] at h; cases h
  ·rename_i hk1
   split at hm
   ·have hvv : (Tm.mk k n s ts).vars = Tm.varss ts := by simp [Tm.vars, hk1]
    rw [hvv]
    simp only [Tm.nodes, Bool.and_eq_true] at hn
    exact mats_binds ts y.args bs r hn.2 hm
   ·cases hm
theorem mats_binds : ∀ (ts ys : List Tm) (bs r : List GBind), Tm.nodess ts = true → Tm.mats ts ys bs = some r → (∀ v, v ∈ Tm.varss ts → (bnd r v).isSome = true) ∧ ∀ v, (bnd bs v).isSome = true → (bnd r v).isSome = true
 | [], ys, bs, r, _, hm => by
  simp only [Tm.mats] at hm
  cases hm
  exact ⟨fun v h => by simp [Tm.varss] at h, fun v h => h⟩
 | a :: ts, ys, bs, r, hn, hm => by
  simp only [Tm.nodess, Bool.and_eq_true] at hn
  simp only [Tm.mats] at hm
  split at hm
  ·rename_i bs' hb
   obtain ⟨h1, h2⟩ := mat_binds a _ bs bs' hn.1 hb
   obtain ⟨h3, h4⟩ := mats_binds ts _ bs' r hn.2 hm
   refine ⟨fun v hv => ?_, fun v hv => h4 v (h2 v hv)⟩
   simp only [Tm.varss, List.mem_append] at hv
   rcases hv with hv | hv
   ·exact h4 v (h1 v hv)
   ·exact h3 v hv
  ·cases hm
end
mutual
theorem sub_sort (sg : GSignature) (vs : List GVarSort) (bs : List GBind) (hg : Good sg vs bs) : ∀ (t : Tm), (∀ v, v ∈ t.vars → (bnd bs v).isSome = true) → (t.sub bs).sort sg [] = t.sort sg vs
 | .mk k n s ts, h => by
  by_cases hk : k = 1
  ·subst hk
   have := h s (by simp [Tm.vars])
   cases hb : bnd bs s with
   | none => rw [hb] at this; cases this
   | some t =>
    rw [sub_var bs n s ts t hb, hg s t hb]
    simp [Tm.sort]
  ·rw [sub_none bs k n s ts (fun h => absurd h hk)]
   have ih := fun xs => subs_sorts sg vs bs hg ts xs (fun v hv => h v (by simp only [Tm.vars]; exact List.mem_append_right _ hv))
   have hl : (Tm.subs bs ts).length = ts.length := by rw [subs_map, List.length_map]
   simp only [Tm.sort, hl, ih, show (k == 1) = false by simpa using hk]
   rfl
theorem subs_sorts (sg : GSignature) (vs : List GVarSort) (bs : List GBind) (hg : Good sg vs bs) : ∀ (ts : List Tm) (xs : List ByteArray), (∀ v, v ∈ Tm.varss ts → (bnd bs v).isSome = true) → Tm.sorts sg [] (Tm.subs bs ts) xs = Tm.sorts sg vs ts xs
 | [], xs, _ => by simp [Tm.subs, Tm.sorts]
 | a :: ts, [], _ => by simp [Tm.subs, Tm.sorts]
 | a :: ts, x :: xs, h => by
  simp only [Tm.subs, Tm.sorts]
  rw [sub_sort sg vs bs hg a (fun v hv => h v (by simp only [Tm.varss]; exact List.mem_append_left _ hv)), subs_sorts sg vs bs hg ts xs (fun v hv => h v (by simp only [Tm.varss]; exact List.mem_append_right _ hv))]
end
theorem redTop_cases (k n : Int) (s : ByteArray) (ts : List Tm) : redTop k n s ts = .mk k n s ts ∨ (k = 2 ∧ isBi s = true ∧ ∃ m, redTop k n s ts = wordT m) := by
 unfold redTop
 split
 ·split
  ·rename_i h
   simp only [Bool.and_eq_true, beq_iff_eq] at h
   exact .inr ⟨h.1.1.1.1, h.1.1.2, _, rfl⟩
  ·exact .inl rfl
 ·exact .inl rfl
mutual
theorem red_sort (sg : GSignature) : ∀ (t : Tm), t.sort sg [] ≠ sE → (t.red).sort sg [] = t.sort sg []
 | .mk k n s ts, h => by
  rw [Tm.red]
  rcases sort_kind sg [] k n s ts h with rfl | rfl | rfl
  ·exact absurd (sort_ground sg n s ts) h
  ·obtain ⟨o, h1, h2, h3, h4⟩ := sort_app sg [] n s ts h
   rcases redTop_cases 2 n s (Tm.reds ts) with e | ⟨_, hb, m, e⟩
   ·rw [e, h4]
    exact sort_of sg [] n s _ o h1 (by rw [h2, reds_map, List.length_map]) (reds_sorts sg ts o.ar h3)
   ·rw [e, h4]
    have : findOp sg s = some ⟨s, [sWord, sWord], sWord⟩ := by simp [findOp, hb]
    rw [this] at h1
    cases h1
    rfl
  ·rcases redTop_cases 3 n s (Tm.reds ts) with e | ⟨h, _⟩
   ·rw [e]; rfl
   ·cases h
theorem reds_sorts (sg : GSignature) : ∀ (ts : List Tm) (xs : List ByteArray), Tm.sorts sg [] ts xs = true → Tm.sorts sg [] (Tm.reds ts) xs = true
 | [], xs, _ => by simp [Tm.reds, Tm.sorts]
 | a :: ts, [], _ => by simp [Tm.reds, Tm.sorts]
 | a :: ts, x :: xs, h => by
  rw [sorts_cons] at h
  simp only [Tm.reds]
  rw [sorts_cons, red_sort sg a h.1.1]
  exact ⟨h.1, reds_sorts sg ts xs h.2⟩
end
theorem sorts_get (sg : GSignature) : ∀ (ts : List Tm) (xs : List ByteArray) (i : Nat) (h : i < ts.length), xs.length = ts.length → Tm.sorts sg [] ts xs = true → ts[i].sort sg [] ≠ sE
 | [], _, _, h, _, _ => by simp at h
 | a :: ts, [], _, _, h, _ => by simp at h
 | a :: ts, x :: xs, 0, _, _, h => by rw [sorts_cons] at h; exact h.1.1
 | a :: ts, x :: xs, i + 1, h, hl, hs => by
  rw [sorts_cons] at hs
  exact sorts_get sg ts xs i (by simpa using h) (by simpa using hl) hs.2
theorem sorts_set (sg : GSignature) (u : Tm) : ∀ (ts : List Tm) (xs : List ByteArray) (i : Nat) (h : i < ts.length), u.sort sg [] = ts[i].sort sg [] → Tm.sorts sg [] ts xs = true → Tm.sorts sg [] (ts.set i u) xs = true
 | [], _, _, h, _, _ => by simp at h
 | a :: ts, [], i, _, _, _ => by cases i <;> simp [Tm.sorts]
 | a :: ts, x :: xs, 0, _, he, h => by
  rw [sorts_cons] at h
  simp only [List.set_cons_zero]
  rw [sorts_cons]
  have he : u.sort sg [] = a.sort sg [] := he
  rw [he]; exact h
 | a :: ts, x :: xs, i + 1, h, he, hs => by
  rw [sorts_cons] at hs
  simp only [List.set_cons_succ]
  rw [sorts_cons]
  exact ⟨hs.1, sorts_set sg u ts xs i (by simpa using h) he hs.2⟩
theorem atp_in (sg : GSignature) (i : Int) (p : List Int) (k n : Int) (s : ByteArray) (ts : List Tm) (u : Tm) (h : atp (i :: p) (.mk k n s ts) = some u) : ∃ (hl : i.toNat < ts.length), atp p ts[i.toNat] = some u ∧ ts.getD i.toNat zeroT = ts[i.toNat] := by
 simp only [atp] at h
 split at h
 ·rename_i hc
  simp only [Bool.and_eq_true, decide_eq_true_eq] at hc
  have hlt : i.toNat < ts.length := by omega
  have e : ts.getD i.toNat zeroT = ts[i.toNat] := by rw [List.getD_eq_getElem?_getD, List.getElem?_eq_getElem hlt, Option.getD_some]
  rw [e] at h
  exact ⟨hlt, h, e⟩
 ·cases h
theorem atp_sort (sg : GSignature) : ∀ (p : List Int) (t u : Tm), t.nodes = true → atp p t = some u → t.sort sg [] ≠ sE → u.sort sg [] ≠ sE
 | [], t, u, _, h, hs => by cases h; exact hs
 | i :: p, .mk k n s ts, u, hn, h, hs => by
  obtain ⟨hl, h1, _⟩ := atp_in sg i p k n s ts u h
  by_cases hk : k = 2
  ·subst hk
   obtain ⟨o, h2, h3, h4, _⟩ := sort_app sg [] n s ts hs
   simp only [Tm.nodes, Bool.and_eq_true] at hn
   have hn2 := hn.2
   rw [nodess_all] at hn2
   exact atp_sort sg p _ u (List.all_eq_true.1 hn2 _ (List.getElem_mem hl)) h1 (sorts_get sg ts o.ar _ hl h3 h4)
  ·have := leaf_nodes n s ts k hk hn
   subst this
   simp at hl
theorem putp_sort (sg : GSignature) (v : Tm) : ∀ (p : List Int) (t u : Tm), t.nodes = true → atp p t = some u → t.sort sg [] ≠ sE → v.sort sg [] = u.sort sg [] → (putp p t v).sort sg [] = t.sort sg []
 | [], t, u, _, h, hs, hv => by cases h; simpa [putp] using hv
 | i :: p, .mk k n s ts, u, hn, h, hs, hv => by
  obtain ⟨hl, h1, e⟩ := atp_in sg i p k n s ts u h
  by_cases hk : k = 2
  ·subst hk
   obtain ⟨o, h2, h3, h4, h5⟩ := sort_app sg [] n s ts hs
   simp only [Tm.nodes, Bool.and_eq_true] at hn
   have hn2 := hn.2
   rw [nodess_all] at hn2
   have ih := putp_sort sg v p _ u (List.all_eq_true.1 hn2 _ (List.getElem_mem hl)) h1 (sorts_get sg ts o.ar _ hl h3 h4) hv
   simp only [putp, e]
   rw [h5]
   exact sort_of sg [] n s _ o h2 (by rw [h3, List.length_set]) (sorts_set sg _ ts o.ar _ hl ih h4)
  ·have := leaf_nodes n s ts k hk hn
   subst this
   simp at hl
theorem fire_sort (sg : GSignature) (x : GRule) (y : Tm) (hr : ruleB sg x = true) (bs : List GBind) (hf : fireI x y = some bs) (hy : y.sort sg [] ≠ sE) : ((x.ri.sub bs).red).sort sg [] = y.sort sg [] := by
 simp only [ruleB, Bool.and_eq_true] at hr
 obtain ⟨⟨⟨⟨⟨⟨⟨⟨⟨_, hlv⟩, hrv⟩, hkd⟩, _⟩, _⟩, hinf⟩, hrs⟩, hvr⟩, _⟩ := hr
 unfold fireI at hf
 cases hm : x.le.mat y [] with
 | none => rw [hm] at hf; cases hf
 | some bs' =>
  rw [hm] at hf
  simp only at hf
  split at hf
  ·cases hf
   simp only [Tm.valid, Bool.and_eq_true] at hlv hrv
   unfold inferV at hinf hrs
   split at hinf
   ·rename_i hc
    rw [if_pos hc] at hrs
    simp only [Bool.and_eq_true, Bool.not_eq_true', eqS_ne, eqS_eq] at hc hrs
    obtain ⟨⟨_, hso⟩, hls⟩ := hc
    generalize (x.le.inf sg ((findOp sg x.le.name).getD opD).re []).1 = vs at hls hrs
    have hys : y.sort sg [] = x.le.sort sg vs := by
     rw [hls]
     generalize x.le = le at hm hkd hlv
     obtain ⟨k, n, s, ts⟩ := le
     obtain ⟨k2, n2, s2, ts2⟩ := y
     simp only [Tm.kind, beq_iff_eq] at hkd
     subst hkd
     simp only [Tm.mat] at hm
     rw [if_neg (by decide)] at hm
     split at hm
     ·rename_i hne
      simp only [nodeE, Bool.and_eq_true, beq_iff_eq] at hne
      obtain ⟨⟨⟨rfl, rfl⟩, he⟩, hl⟩ := hne
      have he := (eqS_eq _ _).1 he
      subst he
      obtain ⟨o, h1, _, _, h4⟩ := sort_app sg [] n s ts2 hy
      rw [h4]; simp [Tm.name, h1]
     ·cases hm
    have hg : Good sg vs bs := mat_good sg vs x.le y [] bs hlv.2 hm hys (by rw [← hys]; exact hy) (fun v t h => by simp [bnd] at h)
    have hbv := (mat_binds x.le y [] bs hlv.2 hm).1
    have hsub := sub_sort sg vs bs hg x.ri (fun v hv => by
     have := List.all_eq_true.1 hvr v hv
     simp only [hasS, List.any_eq_true] at this
     obtain ⟨w, hw, he⟩ := this
     have he := (eqS_eq _ _).1 he
     subst he
     exact hbv w hw)
    rw [red_sort sg _ (by rw [hsub, hrs, ← hls, ← hys]; exact hy), hsub, hrs, ← hls, ← hys]
   ·cases hinf
  ·cases hf
theorem do_sort (d : GDefinition) (hd : ∀ x, x ∈ d.ru → ruleB d.si x = true) (t : Tm) (hn : t.nodes = true) (ht : t.sort d.si [] ≠ sE) (q : Int × List Int) (hq : redOk d t q) : (doB d t q).sort d.si [] = t.sort d.si [] := by
 obtain ⟨_, j, hj, u, hk, hat, hu, hfi⟩ := hq
 have e1 : d.ru.getD q.1.toNat ⟨sE, zeroT, zeroT, []⟩ = d.ru[j] := by rw [hk, Int.toNat_natCast, List.getD_eq_getElem?_getD, List.getElem?_eq_getElem hj, Option.getD_some]
 unfold doB
 rw [e1, hat, Option.getD_some]
 obtain ⟨bs, hbs⟩ := Option.isSome_iff_exists.1 hfi
 have hus := atp_sort d.si q.2 t u hn hat ht
 have hft : (fireT d.ru[j] u).sort d.si [] = u.sort d.si [] := by
  unfold fireT
  rw [hbs]
  exact fire_sort d.si d.ru[j] u (hd _ (List.getElem_mem hj)) bs hbs hus
 exact putp_sort d.si _ q.2 t u hn hat ht hft
end Go.Ai
