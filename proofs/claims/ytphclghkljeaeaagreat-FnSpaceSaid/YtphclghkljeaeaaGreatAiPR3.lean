/- A step keeps the sort: matching, substituting, reducing, putting in. No program in sight. -/
import Derived.Test.YtphclghkljeaeaaGreatAiY3
import Derived.Test.YtphclghkljeaeaaGreatAiA4
import Derived.Test.YtphclghkljeaeaaGreatAiP12
import Derived.Test.YtphclghkljeaeaaGreatAiRow2
import Derived.Test.YtphclghkljeaeaaGreatAiAccX
import Derived.Test.YtphclghkljeaeaaGreatAiG1
set_option linter.unusedVariables false
set_option linter.unusedSimpArgs false
namespace Go.Ai
def pS1 (sg : GSignature) (vs : List GVarSort) (bs : List GBind) : Prop := ∀ v t, bnd bs v = some t → t.sort sg [] = (fvs vs v).getD sE
theorem pU0 (s : ByteArray) (y : Tm) (v : ByteArray) : ∀ (bs : List GBind), bnd (bs ++ [⟨s, y⟩]) v = match bnd bs v with
  | some t => some t
  | none => if eqS s v then some y else none
 | [] => by simp [bnd]
 | b :: bs => by
  simp only [List.cons_append, bnd]
  split
  ·rfl
  ·exact pU0 s y v bs
theorem yx0 (n : Int) (s : ByteArray) (ts : List Tm) (k : Int) (hk : ¬ k = 2) (h : (Tm.mk k n s ts).nodes = true) : ts = [] := by
 simp only [Tm.nodes, Bool.and_eq_true] at h
 have hn := h.1
 apply List.eq_nil_of_length_eq_zero
 unfold fe0 at hn
 have hk2 : (k == 2) = false := by simpa using hk
 rw [hk2] at hn
 simp only [Bool.false_eq_true, if_false] at hn
 split at hn
 ·simp only [Bool.and_eq_true, beq_iff_eq] at hn; exact hn.2
 ·split at hn
  ·simp only [Bool.and_eq_true, beq_iff_eq] at hn; exact hn.2
  ·cases hn
theorem ja0 (sg : GSignature) (vs : List GVarSort) (n : Int) (s : ByteArray) (ts : List Tm) (h : (Tm.mk 2 n s ts).sort sg vs ≠ sE) : ∃ o, zK0 sg s = some o ∧ o.ar.length = ts.length ∧ Tm.sorts sg vs ts o.ar = true ∧ (Tm.mk 2 n s ts).sort sg vs = o.re := by
 simp only [Tm.sort] at h ⊢
 cases hf : zK0 sg s with
 | none => rw [hf] at h; exact absurd rfl h
 | some o =>
  rw [hf] at h
  by_cases hc : (o.ar.length == ts.length && Tm.sorts sg vs ts o.ar) = true
  ·have hc' := hc
   simp only [Bool.and_eq_true, beq_iff_eq] at hc'
   exact ⟨o, rfl, hc'.1, hc'.2, by simp [hc]⟩
  ·have hc : (o.ar.length == ts.length && Tm.sorts sg vs ts o.ar) = false := by simpa using hc
   simp [hc] at h
theorem kR1 (sg : GSignature) (vs : List GVarSort) (n : Int) (s : ByteArray) (ts : List Tm) (o : GOp) (h1 : zK0 sg s = some o) (h2 : o.ar.length = ts.length) (h3 : Tm.sorts sg vs ts o.ar = true) : (Tm.mk 2 n s ts).sort sg vs = o.re := by
 simp [Tm.sort, h1, h2, h3]
theorem mr0 (sg : GSignature) (vs : List GVarSort) (k n : Int) (s : ByteArray) (ts : List Tm) (h : (Tm.mk k n s ts).sort sg vs ≠ sE) : k = 1 ∨ k = 2 ∨ k = 3 := by
 rcases Classical.em (k = 3) with h3 | h3
 ·exact .inr (.inr h3)
 ·rcases Classical.em (k = 1) with h1 | h1
  ·exact .inl h1
  ·rcases Classical.em (k = 2) with h2 | h2
   ·exact .inr (.inl h2)
   ·simp [Tm.sort, h1, h2, h3] at h
theorem bF0 (sg : GSignature) (n : Int) (s : ByteArray) (ts : List Tm) : (Tm.mk 1 n s ts).sort sg [] = sE := by simp [Tm.sort, fvs]
theorem qZ0 (sg : GSignature) (vs : List GVarSort) (a : Tm) (ts : List Tm) (x : ByteArray) (xs : List ByteArray) : Tm.sorts sg vs (a :: ts) (x :: xs) = true ↔ (a.sort sg vs ≠ sE ∧ a.sort sg vs = x) ∧ Tm.sorts sg vs ts xs = true := by
 simp only [Tm.sorts, Bool.and_eq_true, Bool.not_eq_true', eqS_ne, qQ0]
mutual
theorem tY0 (sg : GSignature) (vs : List GVarSort) : ∀ (t y : Tm) (bs r : List GBind), t.nodes = true → t.mat y bs = some r → y.sort sg [] = t.sort sg vs → t.sort sg vs ≠ sE → pS1 sg vs bs → pS1 sg vs r
 | .mk k n s ts, y, bs, r, hn, hm, hy, hs, hg => by
  simp only [Tm.mat] at hm
  split at hm
  ·rename_i hk
   have hk : k = 1 := by simpa using hk
   subst hk
   cases hb : bnd bs s with
   | some x =>
    rw [hb] at hm
    simp only at hm
    split at hm
    ·cases hm; exact hg
    ·cases hm
   | none =>
    rw [hb] at hm
    cases hm
    intro v t ht
    rw [pU0] at ht
    cases hv : bnd bs v with
    | some t' => rw [hv] at ht; exact hg v t (by rw [hv]; exact ht)
    | none =>
     rw [hv] at ht
     simp only at ht
     split at ht
     ·rename_i he
      cases ht
      have he := (qQ0 _ _).1 he
      subst he
      rw [hy]; simp [Tm.sort]
     ·cases ht
  ·rename_i hk1
   split at hm
   ·rename_i hne
    obtain ⟨k2, n2, s2, ts2⟩ := y
    simp only [yz0, Bool.and_eq_true, beq_iff_eq] at hne
    obtain ⟨⟨⟨rfl, rfl⟩, he⟩, hl⟩ := hne
    have he := (qQ0 _ _).1 he
    subst he
    by_cases hk : k = 2
    ·subst hk
     obtain ⟨o, h1, h2, h3, h4⟩ := ja0 sg vs n s ts hs
     have hys : (Tm.mk 2 n s ts2).sort sg [] ≠ sE := by rw [hy]; exact hs
     obtain ⟨o', h5, h6, h7, h8⟩ := ja0 sg [] n s ts2 hys
     rw [h1] at h5
     cases h5
     simp only [Tm.nodes, Bool.and_eq_true] at hn
     exact mats_good sg vs ts ts2 o.ar bs r hn.2 hl h2 hm h3 h7 hg
    ·have := yx0 n s ts k hk hn
     subst this
     simp only [Tm.mats] at hm
     cases hm; exact hg
   ·cases hm
theorem mats_good (sg : GSignature) (vs : List GVarSort) : ∀ (ts ys : List Tm) (xs : List ByteArray) (bs r : List GBind), Tm.nodess ts = true → ts.length = ys.length → xs.length = ts.length → Tm.mats ts ys bs = some r → Tm.sorts sg vs ts xs = true → Tm.sorts sg [] ys xs = true → pS1 sg vs bs → pS1 sg vs r
 | [], ys, xs, bs, r, _, _, _, hm, _, _, hg => by simp only [Tm.mats] at hm; cases hm; exact hg
 | a :: ts, [], _, _, _, _, h, _, _, _, _, _ => by simp at h
 | a :: ts, y :: ys, [], _, _, _, _, h, _, _, _, _ => by simp at h
 | a :: ts, y :: ys, x :: xs, bs, r, hn, hl, hx, hm, hs, hys, hg => by
  simp only [Tm.nodess, Bool.and_eq_true] at hn
  rw [qZ0] at hs hys
  simp only [Tm.mats, List.headD_cons, List.tail_cons] at hm
  split at hm
  ·rename_i bs' hb
   exact mats_good sg vs ts ys xs bs' r hn.2 (by simpa using hl) (by simpa using hx) hm hs.2 hys.2 (tY0 sg vs a y bs bs' hn.1 hb (by rw [hs.1.2, hys.1.2]) hs.1.1 hg)
  ·cases hm
end
mutual
theorem mL0 : ∀ (t y : Tm) (bs r : List GBind), t.nodes = true → t.mat y bs = some r → (∀ v, v ∈ t.vars → (bnd r v).isSome = true) ∧ ∀ v, (bnd bs v).isSome = true → (bnd r v).isSome = true
 | .mk k n s ts, y, bs, r, hn, hm => by
  simp only [Tm.mat] at hm
  split at hm
  ·rename_i hk
   have hk : k = 1 := by simpa using hk
   subst hk
   have hts := yx0 n s ts 1 (by decide) hn
   subst hts
   have hv : ∀ v, v ∈ (Tm.mk 1 n s []).vars → v = s := by
    intro v hv
    simpa [Tm.vars, Tm.varss] using hv
   cases hb : bnd bs s with
   | some x =>
    rw [hb] at hm
    simp only at hm
    split at hm
    ·cases hm
     exact ⟨fun v h => by rw [hv v h, hb]; rfl, fun v h => h⟩
    ·cases hm
   | none =>
    rw [hb] at hm
    cases hm
    refine ⟨fun v h => ?_, fun v h => ?_⟩
    ·rw [hv v h, pU0, hb]
     simp [(qQ0 s s).2 rfl]
    ·rw [pU0]
     cases hq : bnd bs v with
     | some t => rfl
     | none => rw [hq] at h; cases h
  ·rename_i hk1
   split at hm
   ·have hvv : (Tm.mk k n s ts).vars = Tm.varss ts := by simp [Tm.vars, hk1]
    rw [hvv]
    simp only [Tm.nodes, Bool.and_eq_true] at hn
    exact mats_binds ts y.args bs r hn.2 hm
   ·cases hm
theorem mats_binds : ∀ (ts ys : List Tm) (bs r : List GBind), Tm.nodess ts = true → Tm.mats ts ys bs = some r → (∀ v, v ∈ Tm.varss ts → (bnd r v).isSome = true) ∧ ∀ v, (bnd bs v).isSome = true → (bnd r v).isSome = true
 | [], ys, bs, r, _, hm => by
  simp only [Tm.mats] at hm
  cases hm
  exact ⟨fun v h => by simp [Tm.varss] at h, fun v h => h⟩
 | a :: ts, ys, bs, r, hn, hm => by
  simp only [Tm.nodess, Bool.and_eq_true] at hn
  simp only [Tm.mats] at hm
  split at hm
  ·rename_i bs' hb
   obtain ⟨h1, h2⟩ := mL0 a _ bs bs' hn.1 hb
   obtain ⟨h3, h4⟩ := mats_binds ts _ bs' r hn.2 hm
   refine ⟨fun v hv => ?_, fun v hv => h4 v (h2 v hv)⟩
   simp only [Tm.varss, List.mem_append] at hv
   rcases hv with hv | hv
   ·exact h4 v (h1 v hv)
   ·exact h3 v hv
  ·cases hm
end
mutual
theorem ts0 (sg : GSignature) (vs : List GVarSort) (bs : List GBind) (hg : pS1 sg vs bs) : ∀ (t : Tm), (∀ v, v ∈ t.vars → (bnd bs v).isSome = true) → (t.sub bs).sort sg [] = t.sort sg vs
 | .mk k n s ts, h => by
  by_cases hk : k = 1
  ·subst hk
   have := h s (by simp [Tm.vars])
   cases hb : bnd bs s with
   | none => rw [hb] at this; cases this
   | some t =>
    rw [sT0 bs n s ts t hb, hg s t hb]
    simp [Tm.sort]
  ·rw [gZ0 bs k n s ts (fun h => absurd h hk)]
   have ih := fun xs => subs_sorts sg vs bs hg ts xs (fun v hv => h v (by simp only [Tm.vars]; exact List.mem_append_right _ hv))
   have hl : (Tm.subs bs ts).length = ts.length := by rw [je0, List.length_map]
   simp only [Tm.sort, hl, ih, show (k == 1) = false by simpa using hk]
   rfl
theorem subs_sorts (sg : GSignature) (vs : List GVarSort) (bs : List GBind) (hg : pS1 sg vs bs) : ∀ (ts : List Tm) (xs : List ByteArray), (∀ v, v ∈ Tm.varss ts → (bnd bs v).isSome = true) → Tm.sorts sg [] (Tm.subs bs ts) xs = Tm.sorts sg vs ts xs
 | [], xs, _ => by simp [Tm.subs, Tm.sorts]
 | a :: ts, [], _ => by simp [Tm.subs, Tm.sorts]
 | a :: ts, x :: xs, h => by
  simp only [Tm.subs, Tm.sorts]
  rw [ts0 sg vs bs hg a (fun v hv => h v (by simp only [Tm.varss]; exact List.mem_append_left _ hv)), subs_sorts sg vs bs hg ts xs (fun v hv => h v (by simp only [Tm.varss]; exact List.mem_append_right _ hv))]
end
theorem xi0 (k n : Int) (s : ByteArray) (ts : List Tm) : wP0 k n s ts = .mk k n s ts ∨ (k = 2 ∧ pa0 s = true ∧ ∃ m, wP0 k n s ts = wordT m) := by
 unfold wP0
 split
 ·split
  ·rename_i h
   simp only [Bool.and_eq_true, beq_iff_eq] at h
   exact .inr ⟨h.1.1.1.1, h.1.1.2, _, rfl⟩
  ·exact .inl rfl
 ·exact .inl rfl
mutual
theorem tl0 (sg : GSignature) : ∀ (t : Tm), t.sort sg [] ≠ sE → (t.red).sort sg [] = t.sort sg []
 | .mk k n s ts, h => by
  rw [Tm.red]
  rcases mr0 sg [] k n s ts h with rfl | rfl | rfl
  ·exact absurd (bF0 sg n s ts) h
  ·obtain ⟨o, h1, h2, h3, h4⟩ := ja0 sg [] n s ts h
   rcases xi0 2 n s (Tm.reds ts) with e | ⟨_, hb, m, e⟩
   ·rw [e, h4]
    exact kR1 sg [] n s _ o h1 (by rw [h2, jU0, List.length_map]) (reds_sorts sg ts o.ar h3)
   ·rw [e, h4]
    have : zK0 sg s = some ⟨s, [kB0, kB0], kB0⟩ := by simp [zK0, hb]
    rw [this] at h1
    cases h1
    rfl
  ·rcases xi0 3 n s (Tm.reds ts) with e | ⟨h, _⟩
   ·rw [e]; rfl
   ·cases h
theorem reds_sorts (sg : GSignature) : ∀ (ts : List Tm) (xs : List ByteArray), Tm.sorts sg [] ts xs = true → Tm.sorts sg [] (Tm.reds ts) xs = true
 | [], xs, _ => by simp [Tm.reds, Tm.sorts]
 | a :: ts, [], _ => by simp [Tm.reds, Tm.sorts]
 | a :: ts, x :: xs, h => by
  rw [qZ0] at h
  simp only [Tm.reds]
  rw [qZ0, tl0 sg a h.1.1]
  exact ⟨h.1, reds_sorts sg ts xs h.2⟩
end
theorem va0 (sg : GSignature) : ∀ (ts : List Tm) (xs : List ByteArray) (i : Nat) (h : i < ts.length), xs.length = ts.length → Tm.sorts sg [] ts xs = true → ts[i].sort sg [] ≠ sE
 | [], _, _, h, _, _ => by simp at h
 | a :: ts, [], _, _, h, _ => by simp at h
 | a :: ts, x :: xs, 0, _, _, h => by rw [qZ0] at h; exact h.1.1
 | a :: ts, x :: xs, i + 1, h, hl, hs => by
  rw [qZ0] at hs
  exact va0 sg ts xs i (by simpa using h) (by simpa using hl) hs.2
theorem mt0 (sg : GSignature) (u : Tm) : ∀ (ts : List Tm) (xs : List ByteArray) (i : Nat) (h : i < ts.length), u.sort sg [] = ts[i].sort sg [] → Tm.sorts sg [] ts xs = true → Tm.sorts sg [] (ts.set i u) xs = true
 | [], _, _, h, _, _ => by simp at h
 | a :: ts, [], i, _, _, _ => by cases i <;> simp [Tm.sorts]
 | a :: ts, x :: xs, 0, _, he, h => by
  rw [qZ0] at h
  simp only [List.set_cons_zero]
  rw [qZ0]
  have he : u.sort sg [] = a.sort sg [] := he
  rw [he]; exact h
 | a :: ts, x :: xs, i + 1, h, he, hs => by
  rw [qZ0] at hs
  simp only [List.set_cons_succ]
  rw [qZ0]
  exact ⟨hs.1, mt0 sg u ts xs i (by simpa using h) he hs.2⟩
theorem xt1 (sg : GSignature) (i : Int) (p : List Int) (k n : Int) (s : ByteArray) (ts : List Tm) (u : Tm) (h : atp (i :: p) (.mk k n s ts) = some u) : ∃ (hl : i.toNat < ts.length), atp p ts[i.toNat] = some u ∧ ts.getD i.toNat qE0 = ts[i.toNat] := by
 simp only [atp] at h
 split at h
 ·rename_i hc
  simp only [Bool.and_eq_true, decide_eq_true_eq] at hc
  have hlt : i.toNat < ts.length := by omega
  have e : ts.getD i.toNat qE0 = ts[i.toNat] := by rw [List.getD_eq_getElem?_getD, List.getElem?_eq_getElem hlt, Option.getD_some]
  rw [e] at h
  exact ⟨hlt, h, e⟩
 ·cases h
theorem sn0 (sg : GSignature) : ∀ (p : List Int) (t u : Tm), t.nodes = true → atp p t = some u → t.sort sg [] ≠ sE → u.sort sg [] ≠ sE
 | [], t, u, _, h, hs => by cases h; exact hs
 | i :: p, .mk k n s ts, u, hn, h, hs => by
  obtain ⟨hl, h1, _⟩ := xt1 sg i p k n s ts u h
  by_cases hk : k = 2
  ·subst hk
   obtain ⟨o, h2, h3, h4, _⟩ := ja0 sg [] n s ts hs
   simp only [Tm.nodes, Bool.and_eq_true] at hn
   have hn2 := hn.2
   rw [xE0] at hn2
   exact sn0 sg p _ u (List.all_eq_true.1 hn2 _ (List.getElem_mem hl)) h1 (va0 sg ts o.ar _ hl h3 h4)
  ·have := yx0 n s ts k hk hn
   subst this
   simp at hl
theorem mU0 (sg : GSignature) (v : Tm) : ∀ (p : List Int) (t u : Tm), t.nodes = true → atp p t = some u → t.sort sg [] ≠ sE → v.sort sg [] = u.sort sg [] → (xK0 p t v).sort sg [] = t.sort sg []
 | [], t, u, _, h, hs, hv => by cases h; simpa [xK0] using hv
 | i :: p, .mk k n s ts, u, hn, h, hs, hv => by
  obtain ⟨hl, h1, e⟩ := xt1 sg i p k n s ts u h
  by_cases hk : k = 2
  ·subst hk
   obtain ⟨o, h2, h3, h4, h5⟩ := ja0 sg [] n s ts hs
   simp only [Tm.nodes, Bool.and_eq_true] at hn
   have hn2 := hn.2
   rw [xE0] at hn2
   have ih := mU0 sg v p _ u (List.all_eq_true.1 hn2 _ (List.getElem_mem hl)) h1 (va0 sg ts o.ar _ hl h3 h4) hv
   simp only [xK0, e]
   rw [h5]
   exact kR1 sg [] n s _ o h2 (by rw [h3, List.length_set]) (mt0 sg _ ts o.ar _ hl ih h4)
  ·have := yx0 n s ts k hk hn
   subst this
   simp at hl
theorem ya1 (sg : GSignature) (x : GRule) (y : Tm) (hr : qk0 sg x = true) (bs : List GBind) (hf : wn0 x y = some bs) (hy : y.sort sg [] ≠ sE) : ((x.ri.sub bs).red).sort sg [] = y.sort sg [] := by
 simp only [qk0, Bool.and_eq_true] at hr
 obtain ⟨⟨⟨⟨⟨⟨⟨⟨⟨_, hlv⟩, hrv⟩, hkd⟩, _⟩, _⟩, hinf⟩, hrs⟩, hvr⟩, _⟩ := hr
 unfold wn0 at hf
 cases hm : x.le.mat y [] with
 | none => rw [hm] at hf; cases hf
 | some bs' =>
  rw [hm] at hf
  simp only at hf
  split at hf
  ·cases hf
   simp only [Tm.valid, Bool.and_eq_true] at hlv hrv
   unfold ze0 at hinf hrs
   split at hinf
   ·rename_i hc
    rw [if_pos hc] at hrs
    simp only [Bool.and_eq_true, Bool.not_eq_true', eqS_ne, qQ0] at hc hrs
    obtain ⟨⟨_, hso⟩, hls⟩ := hc
    generalize (x.le.inf sg ((zK0 sg x.le.name).getD opD).re []).1 = vs at hls hrs
    have hys : y.sort sg [] = x.le.sort sg vs := by
     rw [hls]
     generalize x.le = le at hm hkd hlv
     obtain ⟨k, n, s, ts⟩ := le
     obtain ⟨k2, n2, s2, ts2⟩ := y
     simp only [Tm.kind, beq_iff_eq] at hkd
     subst hkd
     simp only [Tm.mat] at hm
     rw [if_neg (by decide)] at hm
     split at hm
     ·rename_i hne
      simp only [yz0, Bool.and_eq_true, beq_iff_eq] at hne
      obtain ⟨⟨⟨rfl, rfl⟩, he⟩, hl⟩ := hne
      have he := (qQ0 _ _).1 he
      subst he
      obtain ⟨o, h1, _, _, h4⟩ := ja0 sg [] n s ts2 hy
      rw [h4]; simp [Tm.name, h1]
     ·cases hm
    have hg : pS1 sg vs bs := tY0 sg vs x.le y [] bs hlv.2 hm hys (by rw [← hys]; exact hy) (fun v t h => by simp [bnd] at h)
    have hbv := (mL0 x.le y [] bs hlv.2 hm).1
    have hsub := ts0 sg vs bs hg x.ri (fun v hv => by
     have := List.all_eq_true.1 hvr v hv
     simp only [vu0, List.any_eq_true] at this
     obtain ⟨w, hw, he⟩ := this
     have he := (qQ0 _ _).1 he
     subst he
     exact hbv w hw)
    rw [tl0 sg _ (by rw [hsub, hrs, ← hls, ← hys]; exact hy), hsub, hrs, ← hls, ← hys]
   ·cases hinf
  ·cases hf
theorem pk1 (d : GDefinition) (hd : ∀ x, x ∈ d.ru → qk0 d.si x = true) (t : Tm) (hn : t.nodes = true) (ht : t.sort d.si [] ≠ sE) (q : Int × List Int) (hq : bk0 d t q) : (doB d t q).sort d.si [] = t.sort d.si [] := by
 obtain ⟨_, j, hj, u, hk, hat, hu, hfi⟩ := hq
 have e1 : d.ru.getD q.1.toNat ⟨sE, qE0, qE0, []⟩ = d.ru[j] := by rw [hk, Int.toNat_natCast, List.getD_eq_getElem?_getD, List.getElem?_eq_getElem hj, Option.getD_some]
 unfold doB
 rw [e1, hat, Option.getD_some]
 obtain ⟨bs, hbs⟩ := Option.isSome_iff_exists.1 hfi
 have hus := sn0 d.si q.2 t u hn hat ht
 have hft : (wL0 d.ru[j] u).sort d.si [] = u.sort d.si [] := by
  unfold wL0
  rw [hbs]
  exact ya1 d.si d.ru[j] u (hd _ (List.getElem_mem hj)) bs hbs hus
 exact mU0 d.si _ q.2 t u hn hat ht hft
open Go.Proofs
set_option maxRecDepth 100000
theorem cm0 (p : GRule → Bool) : ∀ (rs : List GRule) (k : Int), 0 ≤ wx0 p rs k → ∃ tl, zo0 p rs k = wx0 p rs k :: tl
 | [], k, h => by simp [wx0] at h
 | r :: rs, k, h => by
  simp only [wx0, zo0] at h ⊢
  split
  ·exact ⟨_, rfl⟩
  ·rename_i hp
   rw [if_neg hp] at h
   obtain ⟨tl, e⟩ := cm0 p rs (k + 1) h
   exact ⟨tl, by rw [e]; rfl⟩
end Go.Ai
namespace Go.Ai
open Go.Proofs
set_option maxRecDepth 100000
theorem te1 (xs ys : List Int) : eqL eqI xs ys = decide (xs = ys) := by
 induction xs generalizing ys with
 | nil => cases ys <;> simp [eqL]
 | cons x xs ih =>
  cases ys with
  | nil => simp [eqL]
  | cons y ys => simp [eqL, eqI, ih, Bool.beq_eq_decide_eq]
theorem mu0 (xs : List Int) (hl : xs.length ≤ 140737488355328) (ys : List Int) : Sat Tryz.prog 138 [slV (xs.map encI), slV (ys.map encI)] (boolV (eqL eqI xs ys)) := by
 refine soc zE0 zA0 Tryz.func138 ?_
 refine wj0 ?_
 refine ⟨fun h4 => ?_, fun h4 => ?_⟩
 ·rw [yW1 eqI xs ys (by omega)]
 ·have hll : xs.length = ys.length := by simp at h4; omega
  refine zB0 (ι := Nat) (fun i => mk 26 [(0, slV (xs.map encI)), (1, slV (ys.map encI)), (5, zG0 i)] [])
   (fun i => i ≤ xs.length ∧ eqL eqI (xs.drop i) (ys.drop i) = eqL eqI xs ys) (fun i => xs.length - i) 0 ⟨Nat.zero_le _, by simp⟩ ?_ zE0 zA0 (by decide +kernel) ?_
  ·exact lek
  ·rintro i ⟨hi, he⟩
   rcases Nat.lt_or_ge i xs.length with hlt | hge
   ·have hlt' : i < ys.length := by omega
    have hg := zD0 (ec := encI) hlt
    have hg' := zD0 (ec := encI) hlt'
    rw [vi1 eqI xs ys i hlt hlt'] at he
    generalize xs[i] = x at hg he
    generalize ys[i] = y at hg' he
    simp only [encI] at hg hg'
    simp only [eqI] at he
    refine mc1 ?_
    refine ⟨fun h => ?_, fun h => ⟨i + 1, ⟨hlt, ?_⟩, by omega, lek⟩⟩
    ·grind
    ·grind
   ·have e1 : xs.drop i = [] := List.drop_of_length_le hge
    have e2 : ys.drop i = [] := List.drop_of_length_le (by omega)
    rw [e1, e2] at he
    refine xG1 ?_
    rw [← he]; rfl
theorem ld0 (p : GRule → Bool) : ∀ (rs : List GRule) (k x : Int), x ∈ zo0 p rs k → ∃ (j : Nat) (h : j < rs.length), x = k + j ∧ p rs[j] = true
 | [], _, _, h => by simp [zo0] at h
 | r :: rs, k, x, h => by
  simp only [zo0, List.mem_append] at h
  rcases h with h | h
  ·split at h
   ·rename_i hp
    simp at h
    exact ⟨0, by simp, by simp [h], hp⟩
   ·cases h
  ·obtain ⟨j, hj, e, hp⟩ := ld0 p rs (k + 1) x h
   exact ⟨j + 1, by simpa using hj, by rw [e]; push_cast; omega, hp⟩
theorem pU1 (d : GDefinition) : ∀ (t : Tm), kc0 t → rng d.st t → ∀ q, q ∈ t.all d.st (zp0 d) → q.2.length ≤ t.size ∧ ∃ (j : Nat) (hj : j < d.ru.length) (u : Tm), q.1 = (j : Int) ∧ atp q.2 t = some u ∧ kc0 u ∧ (wn0 d.ru[j] u).isSome = true := by
 refine Tm.ind (fun k n s ts ih ht hr q hq => ?_)
 rw [Tm.all, List.mem_append, List.mem_map] at hq
 rcases hq with ⟨x, hx, rfl⟩ | hq
 ·obtain ⟨j, hj, e, hp⟩ := ld0 _ d.ru 0 x hx
  exact ⟨Nat.zero_le _, j, hj, _, by rw [e]; simp, rfl, ht, hp⟩
 ·obtain ⟨x, q', h1, h2, rfl⟩ := cN0 _ _ _ hq
  by_cases hk : k = 2
  ·rw [if_pos hk] at h1
   have hxr := hr.1 hk x h1
   rw [pT0 d.st (zp0 d) ts _ hxr.2] at h2
   obtain ⟨h3, j, hj, u, h4, h5, h6, h7⟩ := ih _ (List.getElem_mem hxr.2) (kL0 k n s ts ht _ (List.getElem_mem hxr.2)) (yf0 d.st ts hr.2 _ (List.getElem_mem hxr.2)) q' h2
   have hs := zQ0 ts _ (List.getElem_mem hxr.2)
   have hl := zH0 ts
   refine ⟨by simp only [List.length_cons, Tm.size]; omega, j, hj, u, h4, ?_, h6, h7⟩
   simp only [atp]
   rw [if_pos (by simp; omega), List.getD_eq_getElem?_getD, List.getElem?_eq_getElem hxr.2, Option.getD_some]
   exact h5
  ·rw [if_neg hk] at h1; cases h1
def kO0 (d : GDefinition) (t : Tm) : Prop := kc0 t ∧ t.nodes = true ∧ t.sort d.si [] ≠ sE
theorem vS0 (d : GDefinition) (hst : cy0 d.si d.st = true) (t : Tm) (h : kO0 d t) : rng d.st t := kC1 d.si d.st hst t h.2.1 ((eqS_ne _ _).2 h.2.2)
theorem vR0 (d : GDefinition) (hw : d.wf) (t : Tm) (htw : t.wf) (h : yu0 d t = true) : kO0 d t ∧ cy0 d.si d.st = true := by
 have h1 := vH0 d hw t htw h
 simp only [yu0, dW0, Bool.and_eq_true] at h
 have h2 := h.1.1.2
 simp only [Tm.valid, Bool.and_eq_true] at h2
 exact ⟨⟨h1.2.1, h2.2, by rw [← eqS_ne]; simpa using h.2⟩, h.1.1.1.1.2⟩
theorem wX0 (d : GDefinition) (hst : cy0 d.si d.st = true) (t : Tm) (h : kO0 d t) (q : Int × List Int) (hq : q ∈ t.all d.st (zp0 d)) : bk0 d t q := by
 obtain ⟨h1, h2⟩ := pU1 d t h.1 (vS0 d hst t h) q hq
 have := h.1.1
 exact ⟨by omega, h2⟩
theorem yr1 (d : GDefinition) (hd : ∀ x, x ∈ d.ru → qS0 x ∧ qk0 d.si x = true) (t : Tm) (h : kO0 d t) (q : Int × List Int) (hq : bk0 d t q) (hv : (doB d t q).valid = true) : kO0 d (doB d t q) := by
 have hn := hv
 simp only [Tm.valid, Bool.and_eq_true] at hn
 exact ⟨xU0 _ hv (xy1 d (fun x hx => (hd x hx).1) t h.1.2.2 q hq), hn.2, by rw [pk1 d (fun x hx => (hd x hx).2) t h.2.1 h.2.2 q hq]; exact h.2.2⟩
def wW1 (l : List (Int × List Int)) (x : Int × List Int) : Bool := l.any fun y => decide (y = x)
def jE0 (d : GDefinition) : Tm → List (Int × List Int) → Option Tm
 | t, [] => some t
 | t, x :: xs => if wW1 (t.all d.st (zp0 d)) x && (doB d t x).valid then jE0 d (doB d t x) xs else none
def fq0 (d : GDefinition) (t : Tm) (xs : List (Int × List Int)) : Option Tm := if yu0 d t then jE0 d t xs else none
theorem rP0 (l : List (Int × List Int)) (x : Int × List Int) : wW1 l x = true ↔ x ∈ l := by
 simp [wW1]
theorem rx0 (a b : Int × List Int) : decide (a = b) = (decide (a.1 = b.1) && decide (a.2 = b.2)) := by
 rw [← Bool.decide_and]
 exact decide_eq_decide.2 Prod.ext_iff
theorem qF1 (l : List (Int × List Int)) (hl : l.length < 1000000000) (hp : ∀ y, y ∈ l → y.2.length ≤ 100000000) (x : Int × List Int) : Sat Tryz.prog 68 [slV (l.map kg0), .agg [iC x.1, .c (.sl (x.2.map encI))]] (boolV (wW1 l x)) := by
 obtain ⟨r, hr⟩ : ∃ r, r = wW1 l x := ⟨_, rfl⟩
 rw [← hr]
 refine soc zE0 zA0 Tryz.func68 ?_
 refine bW0 ?_
 refine zB0 (ι := Nat) (fun i => mk 30 [(0, slV (l.map kg0)), (3, .one (.ptr 3 0)), (5, zG0 i)] [(3, .var [iC x.1, .c (.sl (x.2.map encI))])]) (fun i => i ≤ l.length ∧ r = wW1 (l.drop i) x) (fun i => l.length - i) 0 ⟨Nat.zero_le _, by simpa using hr⟩ ?_ zE0 zA0 (by decide +kernel) ?_
 ·exact lek
 ·rintro i ⟨hi, hr⟩
  rcases Nat.lt_or_ge i l.length with hlt | hge
  ·have hg := zD0 (ec := kg0) hlt
   rw [List.drop_eq_getElem_cons hlt] at hr
   simp only [wW1, List.any_cons, rx0] at hr
   have hy := hp _ (List.getElem_mem hlt)
   generalize l[i] = y at hg hr hy
   have hq := mu0 y.2 (by omega) x.2
   rw [te1] at hq
   simp only [kg0] at hg
   refine xF0 ?_
   refine ⟨fun h => CallK.mk hq ?_, fun h => ?_⟩
   ·refine xF0 ?_
    refine ⟨fun h2 => ?_, fun h2 => ⟨i + 1, ⟨hlt, ?_⟩, by omega, lek⟩⟩
    ·rw [hr, decide_eq_true h, decide_eq_true h2]; rfl
    ·rw [hr, decide_eq_false h2, Bool.and_false, Bool.false_or]; simp only [wW1, rx0]
   ·refine ⟨i + 1, ⟨hlt, ?_⟩, by omega, lek⟩
    rw [hr, decide_eq_false (by simpa using h), Bool.false_and, Bool.false_or]; simp only [wW1, rx0]
  ·have : i = l.length := by omega
   subst this
   rw [List.drop_length] at hr
   refine ru0 ?_
   rw [hr]; rfl
def ji0 : Tm → List AC
 | .mk k n s ts => [iC k, iC n, sC s, tC ts]
theorem pZ0 (d : GDefinition) (hru : d.ru.length ≤ 16) (hnd : ndS d.st) (hst : cy0 d.si d.st = true) (t : Tm) (h : kO0 d t) : (t.all d.st (zp0 d)).length ≤ 960 := by
 have h1 := nm0 d.st (zp0 d) d.ru.length (fun t => wQ0 _ _ _) hnd t (vS0 d hst t h)
 have := Nat.mul_le_mul hru h.1.2.1
 omega
theorem bp0 (d : GDefinition) (hw : d.wf) (hs : d.size < 1048577) (t : Tm) (htw : t.wf) (ht : t.size < 1048577) (xs : List (Int × List Int)) (hxl : xs.length < 1000000000) (hxp : ∀ x, x ∈ xs → x.2.length ≤ 100000000) :
  Sat Tryz.prog 16 [zz0 d.enc, tmV t, slV (xs.map kg0)] (.tup [tmV ((fq0 d t xs).getD qE0), boolV (fq0 d t xs).isSome]) := by
 have hc := yT0 d hs t (by omega)
 have hcp := qy0 t ht
 have hgc := vR0 d hw t htw
 have hru := yD1 d t
 have hnd := yC1 d t
 have hok := vH0 d hw t htw
 have hl2 := qB0 GStrict.size d.st
 have hs' := hs
 simp only [GDefinition.size] at hs'
 have hall : yu0 d t = true → ∀ u, kO0 d u → SatA Tryz.prog 69 [zz0 d.enc, tmV u, slV []] [] 100 2 (rowsOf kg0 []) (rowsOf kg0 (u.all d.st (zp0 d))) [] := fun h u hu => by
  have h1 := ka0 d (by have := hru h; omega) (by omega) (hnd h) (fun x hx => ⟨(hok h).1 x hx, (hok h).2.2 x hx⟩) u hu.1 (vS0 d (hgc h).2 u hu) [] [] (by have := hu.1.1; simp; omega) (by
   have h1 := hu.1.2.1
   have := Nat.mul_le_mul (hru h) h1
   simp only [List.length_nil]; omega)
  simpa [qu0] using h1
 have hdo : yu0 d t = true → ∀ u, kO0 d u → ∀ q, bk0 d u q → Sat Tryz.prog 70 [zz0 d.enc, tmV u, .agg [iC q.1, .c (.sl (q.2.map encI))]] (.tup [tmV (doB d u q), boolV (doB d u q).valid]) := fun h u hu q hq =>
  xN0 d (by have := hru h; omega) (fun x hx => ⟨(hok h).1 x hx, (hok h).2.2 x hx⟩) u (by have := hu.1.1; omega) q hq
 obtain ⟨r, hr⟩ : ∃ r, r = fq0 d t xs := ⟨_, rfl⟩
 rw [← hr]
 unfold fq0 at hr
 generalize hb : yu0 d t = b at hc hr
 have hde := dE' d
 obtain ⟨t0, ht0⟩ : ∃ t0, t0 = t := ⟨_, rfl⟩
 obtain ⟨k2, n2, s2, ts2⟩ := t
 refine svc [(7, ([⟨4, 5, [25, 26, 27, 28], [2]⟩, ⟨4, 6, [25, 26, 27, 28], [9]⟩, ⟨4, 7, [25, 26, 27, 28], [30, 31]⟩, ⟨4, 8, [25, 26, 27, 28], [32]⟩], [4]))] zE0 zA0 Tryz.func16 ?_
 refine cJ1 ?_
 refine CallK.mk hc ?_
 refine mW1 ?_
 refine ⟨fun h => ?_, fun h => CallK.mk hcp ?_⟩
 ·have : r = none := by rw [hr, h]; rfl
  rw [this]; rfl
 ·rw [h, if_pos rfl] at hr
  have hb : yu0 d (.mk k2 n2 s2 ts2) = true := by rw [hb, h]
  obtain ⟨hg0, hst⟩ := hgc hb
  have hru := hru hb
  have hnd := hnd hb
  have hall := hall hb
  have hdo := hdo hb
  have hok := hok hb
  clear hgc hc hcp
  refine fQ1 ?_
  refine zn0 [(7, ([⟨4, 5, [25, 26, 27, 28], [2]⟩, ⟨4, 6, [25, 26, 27, 28], [9]⟩, ⟨4, 7, [25, 26, 27, 28], [30, 31]⟩, ⟨4, 8, [25, 26, 27, 28], [32]⟩], [4]))] (ι := Nat × Tm) (fun q => mk 52 [(2, slV (xs.map kg0)), (3, .one (.ptr 3 0)), (6, .one (.ptr 6 0)), (8, .one (.ptr 8 0)), (9, zG0 q.1)] [(3, .var [.c (.sl (d.si.so.map encS)), .c (.sl (d.si.op.map GOp.enc)), .c (.sl (d.ru.map GRule.enc)), .c (.sl (d.st.map GStrict.enc))]), (6, .var [iC 0, iC 0, sC ⟨⟨[]⟩⟩, .nil]), (8, .var (ji0 q.2))])
   (fun q => q.1 ≤ xs.length ∧ kO0 d q.2 ∧ r = jE0 d q.2 (xs.drop q.1)) (fun q => xs.length - q.1) (0, .mk k2 n2 s2 ts2) ⟨Nat.zero_le _, hg0, by simpa using hr⟩ ?_ zE0 zA0 (by decide +kernel) ?_
  ·simp only [ji0]
   exact lek
  ·rintro ⟨i, u⟩ ⟨hi, hg, hr⟩
   simp only at hi hg hr
   rcases Nat.lt_or_ge i xs.length with hlt | hge
   ·have hx := zD0 (ec := kg0) hlt
    rw [List.drop_eq_getElem_cons hlt] at hr
    simp only [jE0] at hr
    have hau := hall u hg
    have hal := pZ0 d hru hnd hst u hg
    have hre : xs[i]'hlt ∈ u.all d.st (zp0 d) → bk0 d u (xs[i]'hlt) := fun h => wX0 d hst u hg _ h
    have hhas := qF1 (u.all d.st (zp0 d)) (by omega) (fun y hy => by
     have := (wX0 d hst u hg y hy).1
     omega) xs[i]
    have hdq := fun (h : wW1 (u.all d.st (zp0 d)) (xs[i]'hlt) = true) => hdo u hg _ (hre ((rP0 _ _).1 h))
    have hgd := fun (h : wW1 (u.all d.st (zp0 d)) (xs[i]'hlt) = true) (hv : (doB d u (xs[i]'hlt)).valid = true) => yr1 d (fun x hx => ⟨hok.1 x hx, hok.2.2 x hx⟩) u hg _ (hre ((rP0 _ _).1 h)) hv
    generalize wW1 (u.all d.st (zp0 d)) xs[i] = b2 at hr hhas hdq hgd
    generalize u.all d.st (zp0 d) = l at hau hhas
    generalize doB d u xs[i] = v at hr hdq hgd
    generalize v.valid = b3 at hr hdq hgd
    generalize xs[i] = x at hx hhas hdq
    obtain ⟨xr, xp⟩ := x
    obtain ⟨k, n, s, ts⟩ := u
    obtain ⟨vk, vn, vs, vt⟩ := v
    simp only [kg0, ji0] at hx ⊢
    cases l
    case' nil =>
     have hxx := hau.toX0 rfl rfl
     refine cN1 ?_
     refine UvC.mk [28] hxx (by simp [go_sem, encS, encI, hde, Tm.enc, rowsOf]) (by simp [go_sem]) ?_
     refine cN1 ?_
     refine CallK.mk hhas ?_
    case' cons l0 l =>
     have hxx := hau.toX rfl rfl (by simp [rowsOf])
     refine cN1 ?_
     refine UvC.mk [28] hxx (by simp [go_sem, encS, encI, hde, Tm.enc, rowsOf]) (by simp [go_sem]) ?_
     refine cN1 ?_
     refine CallK.bor hhas rfl ?_
    all_goals
     refine cN1 ?_
     refine ⟨fun h2 => ?_, fun h2 => CallK.mk (hdq h2) ?_⟩
     ·have : r = none := by rw [hr, h2]; rfl
      rw [this]; rfl
     ·simp -implicitDefEqProofs (disch := omega) only [go_sem, hx, hlt, List.length_map, hde, Tm.enc]
      refine ⟨fun h3 => ?_, fun h3 => ⟨(i + 1, .mk vk vn vs vt), ⟨hlt, hgd h2 h3, ?_⟩, by simp only; omega, ?_⟩⟩
      ·have : r = none := by rw [hr, h2, h3]; rfl
       rw [this]; rfl
      ·rw [hr, h2, h3]; rfl
      ·simp only [ji0]
       exact lek
   ·have : i = xs.length := by omega
    subst this
    rw [List.drop_length] at hr
    simp only [jE0] at hr
    obtain ⟨k, n, s, ts⟩ := u
    simp only [ji0]
    refine dP1 ?_
    rw [hr]; rfl
theorem cX0 (rs : List (List (Int × List Int))) (x : Int) (q' : Int × List Int) : ∀ (xs : List Int), x ∈ xs → q' ∈ rs.getD x.toNat [] → (q'.1, x :: q'.2) ∈ zi0 rs xs
 | y :: xs, h, hq => by
  simp only [zi0, List.mem_append, List.mem_map]
  rcases List.mem_cons.1 h with rfl | h
  ·exact .inl ⟨q', hq, rfl⟩
  ·exact .inr (cX0 rs x q' xs h hq)
theorem fP1 (st : List GStrict) (root : Tm → Int) (ro : Tm → List Int) (hr : ∀ t, 0 ≤ root t → root t ∈ ro t) : ∀ (t : Tm), rng st t → ∀ q, t.nxt st root = some q → q ∈ t.all st ro := by
 refine Tm.ind (fun k n s ts ih hrg q hq => ?_)
 rw [Tm.nxt] at hq
 rw [Tm.all, List.mem_append]
 cases hf : wh0 (Tm.nxts st root ts) (if k = 2 then zI0 st s else []) with
 | some q' =>
  rw [hf] at hq
  cases hq
  obtain ⟨x, p, hx, hp, hg⟩ := kj0 _ _ _ hf
  right
  by_cases hk : k = 2
  ·have hx2 := hx
   rw [if_pos hk] at hx2
   have hx2 := hrg.1 hk x hx2
   rw [pd0 st root ts x.toNat hx2.2] at hg
   have hm := List.getElem_mem hx2.2
   have h1 := ih _ hm (yf0 st ts hrg.2 _ hm) _ hg
   have h2 := cX0 (Tm.alls st ro ts) x (q.1, p) _ hx (by rw [pT0 st ro ts _ hx2.2]; exact h1)
   have e : q = (q.1, x :: p) := by rw [← hp]
   rw [e]
   exact h2
  ·rw [if_neg hk] at hx; cases hx
 | none =>
  rw [hf] at hq
  simp only at hq
  split at hq
  ·cases hq
  ·cases hq
   exact .inl (List.mem_map.2 ⟨_, hr _ (by omega), rfl⟩)
theorem xE1 (d : GDefinition) (t : Tm) (hrg : rng d.st t) (q : Int × List Int) (h : t.nxt d.st (yQ0 d) = some q) : q ∈ t.all d.st (zp0 d) := by
 refine fP1 d.st (yQ0 d) (zp0 d) (fun u hu => ?_) t hrg q h
 obtain ⟨tl, e⟩ := cm0 _ _ _ hu
 unfold zp0
 rw [e]
 exact List.mem_cons_self
end Go.Ai
