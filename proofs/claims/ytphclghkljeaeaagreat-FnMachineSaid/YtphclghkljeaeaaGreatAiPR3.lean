/- A step keeps the sort: matching, substituting, reducing, putting in. No program in sight. -/
import Derived.Test.YtphclghkljeaeaaGreatAiY3
import Derived.Test.YtphclghkljeaeaaGreatAiA4
import Derived.Test.YtphclghkljeaeaaGreatAiRow2
import Derived.Test.YtphclghkljeaeaaGreatAiAccX
import Derived.Test.YtphclghkljeaeaaGreatAiG1
import Derived.Test.YtphclghkljeaeaaGreatAiP12
set_option linter.unusedVariables false
set_option linter.unusedSimpArgs false
namespace Go.Ai
def pG1 (sg : GSignature) (vs : List GVarSort) (bs : List GBind) : Prop := ∀ v t, bnd bs v = some t → t.sort sg [] = (fvs vs v).getD sE
theorem pf0 (s : ByteArray) (y : Tm) (v : ByteArray) : ∀ (bs : List GBind), bnd (bs ++ [⟨s, y⟩]) v = match bnd bs v with
  | some t => some t
  | none => if eqS s v then some y else none
 | [] => by simp [bnd]
 | b :: bs => by
  simp only [List.cons_append, bnd]
  split
  ·rfl
  ·exact pf0 s y v bs
theorem jL0 (n : Int) (s : ByteArray) (ts : List Tm) (k : Int) (hk : ¬ k = 2) (h : (Tm.mk k n s ts).nodes = true) : ts = [] := by
 simp only [Tm.nodes, Bool.and_eq_true] at h
 have hn := h.1
 apply List.eq_nil_of_length_eq_zero
 unfold fd0 at hn
 have hk2 : (k == 2) = false := by simpa using hk
 rw [hk2] at hn
 simp only [Bool.false_eq_true, if_false] at hn
 split at hn
 ·simp only [Bool.and_eq_true, beq_iff_eq] at hn; exact hn.2
 ·split at hn
  ·simp only [Bool.and_eq_true, beq_iff_eq] at hn; exact hn.2
  ·cases hn
theorem jp0 (sg : GSignature) (vs : List GVarSort) (n : Int) (s : ByteArray) (ts : List Tm) (h : (Tm.mk 2 n s ts).sort sg vs ≠ sE) : ∃ o, zJ0 sg s = some o ∧ o.ar.length = ts.length ∧ Tm.sorts sg vs ts o.ar = true ∧ (Tm.mk 2 n s ts).sort sg vs = o.re := by
 simp only [Tm.sort] at h ⊢
 cases hf : zJ0 sg s with
 | none => rw [hf] at h; exact absurd rfl h
 | some o =>
  rw [hf] at h
  by_cases hc : (o.ar.length == ts.length && Tm.sorts sg vs ts o.ar) = true
  ·have hc' := hc
   simp only [Bool.and_eq_true, beq_iff_eq] at hc'
   exact ⟨o, rfl, hc'.1, hc'.2, by simp [hc]⟩
  ·have hc : (o.ar.length == ts.length && Tm.sorts sg vs ts o.ar) = false := by simpa using hc
   simp [hc] at h
theorem kK1 (sg : GSignature) (vs : List GVarSort) (n : Int) (s : ByteArray) (ts : List Tm) (o : GOp) (h1 : zJ0 sg s = some o) (h2 : o.ar.length = ts.length) (h3 : Tm.sorts sg vs ts o.ar = true) : (Tm.mk 2 n s ts).sort sg vs = o.re := by
 simp [Tm.sort, h1, h2, h3]
theorem md0 (sg : GSignature) (vs : List GVarSort) (k n : Int) (s : ByteArray) (ts : List Tm) (h : (Tm.mk k n s ts).sort sg vs ≠ sE) : k = 1 ∨ k = 2 ∨ k = 3 := by
 rcases Classical.em (k = 3) with h3 | h3
 ·exact .inr (.inr h3)
 ·rcases Classical.em (k = 1) with h1 | h1
  ·exact .inl h1
  ·rcases Classical.em (k = 2) with h2 | h2
   ·exact .inr (.inl h2)
   ·simp [Tm.sort, h1, h2, h3] at h
theorem bD0 (sg : GSignature) (n : Int) (s : ByteArray) (ts : List Tm) : (Tm.mk 1 n s ts).sort sg [] = sE := by simp [Tm.sort, fvs]
theorem qk0 (sg : GSignature) (vs : List GVarSort) (a : Tm) (ts : List Tm) (x : ByteArray) (xs : List ByteArray) : Tm.sorts sg vs (a :: ts) (x :: xs) = true ↔ (a.sort sg vs ≠ sE ∧ a.sort sg vs = x) ∧ Tm.sorts sg vs ts xs = true := by
 simp only [Tm.sorts, Bool.and_eq_true, Bool.not_eq_true', eqS_ne, qZ0]
mutual
theorem tM0 (sg : GSignature) (vs : List GVarSort) : ∀ (t y : Tm) (bs r : List GBind), t.nodes = true → t.mat y bs = some r → y.sort sg [] = t.sort sg vs → t.sort sg vs ≠ sE → pG1 sg vs bs → pG1 sg vs r
 | .mk k n s ts, y, bs, r, hn, hm, hy, hs, hg => by
  simp only [Tm.mat] at hm
  split at hm
  ·rename_i hk
   have hk : k = 1 := by simpa using hk
   subst hk
   cases hb : bnd bs s with
   | some x =>
    rw [hb] at hm
    simp only at hm
    split at hm
    ·cases hm; exact hg
    ·cases hm
   | none =>
    rw [hb] at hm
    cases hm
    intro v t ht
    rw [pf0] at ht
    cases hv : bnd bs v with
    | some t' => rw [hv] at ht; exact hg v t (by rw [hv]; exact ht)
    | none =>
     rw [hv] at ht
     simp only at ht
     split at ht
     ·rename_i he
      cases ht
      have he := (qZ0 _ _).1 he
      subst he
      rw [hy]; simp [Tm.sort]
     ·cases ht
  ·rename_i hk1
   split at hm
   ·rename_i hne
    obtain ⟨k2, n2, s2, ts2⟩ := y
    simp only [jM0, Bool.and_eq_true, beq_iff_eq] at hne
    obtain ⟨⟨⟨rfl, rfl⟩, he⟩, hl⟩ := hne
    have he := (qZ0 _ _).1 he
    subst he
    by_cases hk : k = 2
    ·subst hk
     obtain ⟨o, h1, h2, h3, h4⟩ := jp0 sg vs n s ts hs
     have hys : (Tm.mk 2 n s ts2).sort sg [] ≠ sE := by rw [hy]; exact hs
     obtain ⟨o', h5, h6, h7, h8⟩ := jp0 sg [] n s ts2 hys
     rw [h1] at h5
     cases h5
     simp only [Tm.nodes, Bool.and_eq_true] at hn
     exact mats_good sg vs ts ts2 o.ar bs r hn.2 hl h2 hm h3 h7 hg
    ·have := jL0 n s ts k hk hn
     subst this
     simp only [Tm.mats] at hm
     cases hm; exact hg
   ·cases hm
theorem mats_good (sg : GSignature) (vs : List GVarSort) : ∀ (ts ys : List Tm) (xs : List ByteArray) (bs r : List GBind), Tm.nodess ts = true → ts.length = ys.length → xs.length = ts.length → Tm.mats ts ys bs = some r → Tm.sorts sg vs ts xs = true → Tm.sorts sg [] ys xs = true → pG1 sg vs bs → pG1 sg vs r
 | [], ys, xs, bs, r, _, _, _, hm, _, _, hg => by simp only [Tm.mats] at hm; cases hm; exact hg
 | a :: ts, [], _, _, _, _, h, _, _, _, _, _ => by simp at h
 | a :: ts, y :: ys, [], _, _, _, _, h, _, _, _, _ => by simp at h
 | a :: ts, y :: ys, x :: xs, bs, r, hn, hl, hx, hm, hs, hys, hg => by
  simp only [Tm.nodess, Bool.and_eq_true] at hn
  rw [qk0] at hs hys
  simp only [Tm.mats, List.headD_cons, List.tail_cons] at hm
  split at hm
  ·rename_i bs' hb
   exact mats_good sg vs ts ys xs bs' r hn.2 (by simpa using hl) (by simpa using hx) hm hs.2 hys.2 (tM0 sg vs a y bs bs' hn.1 hb (by rw [hs.1.2, hys.1.2]) hs.1.1 hg)
  ·cases hm
end
mutual
theorem ly0 : ∀ (t y : Tm) (bs r : List GBind), t.nodes = true → t.mat y bs = some r → (∀ v, v ∈ t.vars → (bnd r v).isSome = true) ∧ ∀ v, (bnd bs v).isSome = true → (bnd r v).isSome = true
 | .mk k n s ts, y, bs, r, hn, hm => by
  simp only [Tm.mat] at hm
  split at hm
  ·rename_i hk
   have hk : k = 1 := by simpa using hk
   subst hk
   have hts := jL0 n s ts 1 (by decide) hn
   subst hts
   have hv : ∀ v, v ∈ (Tm.mk 1 n s []).vars → v = s := by
    intro v hv
    simpa [Tm.vars, Tm.varss] using hv
   cases hb : bnd bs s with
   | some x =>
    rw [hb] at hm
    simp only at hm
    split at hm
    ·cases hm
     exact ⟨fun v h => by rw [hv v h, hb]; rfl, fun v h => h⟩
    ·cases hm
   | none =>
    rw [hb] at hm
    cases hm
    refine ⟨fun v h => ?_, fun v h => ?_⟩
    ·rw [hv v h, pf0, hb]
     simp [(qZ0 s s).2 rfl]
    ·rw [pf0]
     cases hq : bnd bs v with
     | some t => rfl
     | none => rw [hq] at h; cases h
  ·rename_i hk1
   split at hm
   ·have hvv : (Tm.mk k n s ts).vars = Tm.varss ts := by simp [Tm.vars, hk1]
    rw [hvv]
    simp only [Tm.nodes, Bool.and_eq_true] at hn
    exact mats_binds ts y.args bs r hn.2 hm
   ·cases hm
theorem mats_binds : ∀ (ts ys : List Tm) (bs r : List GBind), Tm.nodess ts = true → Tm.mats ts ys bs = some r → (∀ v, v ∈ Tm.varss ts → (bnd r v).isSome = true) ∧ ∀ v, (bnd bs v).isSome = true → (bnd r v).isSome = true
 | [], ys, bs, r, _, hm => by
  simp only [Tm.mats] at hm
  cases hm
  exact ⟨fun v h => by simp [Tm.varss] at h, fun v h => h⟩
 | a :: ts, ys, bs, r, hn, hm => by
  simp only [Tm.nodess, Bool.and_eq_true] at hn
  simp only [Tm.mats] at hm
  split at hm
  ·rename_i bs' hb
   obtain ⟨h1, h2⟩ := ly0 a _ bs bs' hn.1 hb
   obtain ⟨h3, h4⟩ := mats_binds ts _ bs' r hn.2 hm
   refine ⟨fun v hv => ?_, fun v hv => h4 v (h2 v hv)⟩
   simp only [Tm.varss, List.mem_append] at hv
   rcases hv with hv | hv
   ·exact h4 v (h1 v hv)
   ·exact h3 v hv
  ·cases hm
end
mutual
theorem tl0 (sg : GSignature) (vs : List GVarSort) (bs : List GBind) (hg : pG1 sg vs bs) : ∀ (t : Tm), (∀ v, v ∈ t.vars → (bnd bs v).isSome = true) → (t.sub bs).sort sg [] = t.sort sg vs
 | .mk k n s ts, h => by
  by_cases hk : k = 1
  ·subst hk
   have := h s (by simp [Tm.vars])
   cases hb : bnd bs s with
   | none => rw [hb] at this; cases this
   | some t =>
    rw [sF0 bs n s ts t hb, hg s t hb]
    simp [Tm.sort]
  ·rw [gN0 bs k n s ts (fun h => absurd h hk)]
   have ih := fun xs => subs_sorts sg vs bs hg ts xs (fun v hv => h v (by simp only [Tm.vars]; exact List.mem_append_right _ hv))
   have hl : (Tm.subs bs ts).length = ts.length := by rw [jr0, List.length_map]
   simp only [Tm.sort, hl, ih, show (k == 1) = false by simpa using hk]
   rfl
theorem subs_sorts (sg : GSignature) (vs : List GVarSort) (bs : List GBind) (hg : pG1 sg vs bs) : ∀ (ts : List Tm) (xs : List ByteArray), (∀ v, v ∈ Tm.varss ts → (bnd bs v).isSome = true) → Tm.sorts sg [] (Tm.subs bs ts) xs = Tm.sorts sg vs ts xs
 | [], xs, _ => by simp [Tm.subs, Tm.sorts]
 | a :: ts, [], _ => by simp [Tm.subs, Tm.sorts]
 | a :: ts, x :: xs, h => by
  simp only [Tm.subs, Tm.sorts]
  rw [tl0 sg vs bs hg a (fun v hv => h v (by simp only [Tm.varss]; exact List.mem_append_left _ hv)), subs_sorts sg vs bs hg ts xs (fun v hv => h v (by simp only [Tm.varss]; exact List.mem_append_right _ hv))]
end
theorem xx0 (k n : Int) (s : ByteArray) (ts : List Tm) : we0 k n s ts = .mk k n s ts ∨ (k = 2 ∧ pj0 s = true ∧ ∃ m, we0 k n s ts = wordT m) := by
 unfold we0
 split
 ·split
  ·rename_i h
   simp only [Bool.and_eq_true, beq_iff_eq] at h
   exact .inr ⟨h.1.1.1.1, h.1.1.2, _, rfl⟩
  ·exact .inl rfl
 ·exact .inl rfl
mutual
theorem tb0 (sg : GSignature) : ∀ (t : Tm), t.sort sg [] ≠ sE → (t.red).sort sg [] = t.sort sg []
 | .mk k n s ts, h => by
  rw [Tm.red]
  rcases md0 sg [] k n s ts h with rfl | rfl | rfl
  ·exact absurd (bD0 sg n s ts) h
  ·obtain ⟨o, h1, h2, h3, h4⟩ := jp0 sg [] n s ts h
   rcases xx0 2 n s (Tm.reds ts) with e | ⟨_, hb, m, e⟩
   ·rw [e, h4]
    exact kK1 sg [] n s _ o h1 (by rw [h2, jk0, List.length_map]) (reds_sorts sg ts o.ar h3)
   ·rw [e, h4]
    have : zJ0 sg s = some ⟨s, [kQ0, kQ0], kQ0⟩ := by simp [zJ0, hb]
    rw [this] at h1
    cases h1
    rfl
  ·rcases xx0 3 n s (Tm.reds ts) with e | ⟨h, _⟩
   ·rw [e]; rfl
   ·cases h
theorem reds_sorts (sg : GSignature) : ∀ (ts : List Tm) (xs : List ByteArray), Tm.sorts sg [] ts xs = true → Tm.sorts sg [] (Tm.reds ts) xs = true
 | [], xs, _ => by simp [Tm.reds, Tm.sorts]
 | a :: ts, [], _ => by simp [Tm.reds, Tm.sorts]
 | a :: ts, x :: xs, h => by
  rw [qk0] at h
  simp only [Tm.reds]
  rw [qk0, tb0 sg a h.1.1]
  exact ⟨h.1, reds_sorts sg ts xs h.2⟩
end
theorem vo0 (sg : GSignature) : ∀ (ts : List Tm) (xs : List ByteArray) (i : Nat) (h : i < ts.length), xs.length = ts.length → Tm.sorts sg [] ts xs = true → ts[i].sort sg [] ≠ sE
 | [], _, _, h, _, _ => by simp at h
 | a :: ts, [], _, _, h, _ => by simp at h
 | a :: ts, x :: xs, 0, _, _, h => by rw [qk0] at h; exact h.1.1
 | a :: ts, x :: xs, i + 1, h, hl, hs => by
  rw [qk0] at hs
  exact vo0 sg ts xs i (by simpa using h) (by simpa using hl) hs.2
theorem mf0 (sg : GSignature) (u : Tm) : ∀ (ts : List Tm) (xs : List ByteArray) (i : Nat) (h : i < ts.length), u.sort sg [] = ts[i].sort sg [] → Tm.sorts sg [] ts xs = true → Tm.sorts sg [] (ts.set i u) xs = true
 | [], _, _, h, _, _ => by simp at h
 | a :: ts, [], i, _, _, _ => by cases i <;> simp [Tm.sorts]
 | a :: ts, x :: xs, 0, _, he, h => by
  rw [qk0] at h
  simp only [List.set_cons_zero]
  rw [qk0]
  have he : u.sort sg [] = a.sort sg [] := he
  rw [he]; exact h
 | a :: ts, x :: xs, i + 1, h, he, hs => by
  rw [qk0] at hs
  simp only [List.set_cons_succ]
  rw [qk0]
  exact ⟨hs.1, mf0 sg u ts xs i (by simpa using h) he hs.2⟩
theorem wq1 (sg : GSignature) (i : Int) (p : List Int) (k n : Int) (s : ByteArray) (ts : List Tm) (u : Tm) (h : atp (i :: p) (.mk k n s ts) = some u) : ∃ (hl : i.toNat < ts.length), atp p ts[i.toNat] = some u ∧ ts.getD i.toNat zeroT = ts[i.toNat] := by
 simp only [atp] at h
 split at h
 ·rename_i hc
  simp only [Bool.and_eq_true, decide_eq_true_eq] at hc
  have hlt : i.toNat < ts.length := by omega
  have e : ts.getD i.toNat zeroT = ts[i.toNat] := by rw [List.getD_eq_getElem?_getD, List.getElem?_eq_getElem hlt, Option.getD_some]
  rw [e] at h
  exact ⟨hlt, h, e⟩
 ·cases h
theorem cw0 (sg : GSignature) : ∀ (p : List Int) (t u : Tm), t.nodes = true → atp p t = some u → t.sort sg [] ≠ sE → u.sort sg [] ≠ sE
 | [], t, u, _, h, hs => by cases h; exact hs
 | i :: p, .mk k n s ts, u, hn, h, hs => by
  obtain ⟨hl, h1, _⟩ := wq1 sg i p k n s ts u h
  by_cases hk : k = 2
  ·subst hk
   obtain ⟨o, h2, h3, h4, _⟩ := jp0 sg [] n s ts hs
   simp only [Tm.nodes, Bool.and_eq_true] at hn
   have hn2 := hn.2
   rw [kW0] at hn2
   exact cw0 sg p _ u (List.all_eq_true.1 hn2 _ (List.getElem_mem hl)) h1 (vo0 sg ts o.ar _ hl h3 h4)
  ·have := jL0 n s ts k hk hn
   subst this
   simp at hl
theorem mK0 (sg : GSignature) (v : Tm) : ∀ (p : List Int) (t u : Tm), t.nodes = true → atp p t = some u → t.sort sg [] ≠ sE → v.sort sg [] = u.sort sg [] → (xc0 p t v).sort sg [] = t.sort sg []
 | [], t, u, _, h, hs, hv => by cases h; simpa [xc0] using hv
 | i :: p, .mk k n s ts, u, hn, h, hs, hv => by
  obtain ⟨hl, h1, e⟩ := wq1 sg i p k n s ts u h
  by_cases hk : k = 2
  ·subst hk
   obtain ⟨o, h2, h3, h4, h5⟩ := jp0 sg [] n s ts hs
   simp only [Tm.nodes, Bool.and_eq_true] at hn
   have hn2 := hn.2
   rw [kW0] at hn2
   have ih := mK0 sg v p _ u (List.all_eq_true.1 hn2 _ (List.getElem_mem hl)) h1 (vo0 sg ts o.ar _ hl h3 h4) hv
   simp only [xc0, e]
   rw [h5]
   exact kK1 sg [] n s _ o h2 (by rw [h3, List.length_set]) (mf0 sg _ ts o.ar _ hl ih h4)
  ·have := jL0 n s ts k hk hn
   subst this
   simp at hl
theorem yX1 (sg : GSignature) (x : GRule) (y : Tm) (hr : qz0 sg x = true) (bs : List GBind) (hf : fireI x y = some bs) (hy : y.sort sg [] ≠ sE) : ((x.ri.sub bs).red).sort sg [] = y.sort sg [] := by
 simp only [qz0, Bool.and_eq_true] at hr
 obtain ⟨⟨⟨⟨⟨⟨⟨⟨⟨_, hlv⟩, hrv⟩, hkd⟩, _⟩, _⟩, hinf⟩, hrs⟩, hvr⟩, _⟩ := hr
 unfold fireI at hf
 cases hm : x.le.mat y [] with
 | none => rw [hm] at hf; cases hf
 | some bs' =>
  rw [hm] at hf
  simp only at hf
  split at hf
  ·cases hf
   simp only [Tm.valid, Bool.and_eq_true] at hlv hrv
   unfold zg0 at hinf hrs
   split at hinf
   ·rename_i hc
    rw [if_pos hc] at hrs
    simp only [Bool.and_eq_true, Bool.not_eq_true', eqS_ne, qZ0] at hc hrs
    obtain ⟨⟨_, hso⟩, hls⟩ := hc
    generalize (x.le.inf sg ((zJ0 sg x.le.name).getD opD).re []).1 = vs at hls hrs
    have hys : y.sort sg [] = x.le.sort sg vs := by
     rw [hls]
     generalize x.le = le at hm hkd hlv
     obtain ⟨k, n, s, ts⟩ := le
     obtain ⟨k2, n2, s2, ts2⟩ := y
     simp only [Tm.kind, beq_iff_eq] at hkd
     subst hkd
     simp only [Tm.mat] at hm
     rw [if_neg (by decide)] at hm
     split at hm
     ·rename_i hne
      simp only [jM0, Bool.and_eq_true, beq_iff_eq] at hne
      obtain ⟨⟨⟨rfl, rfl⟩, he⟩, hl⟩ := hne
      have he := (qZ0 _ _).1 he
      subst he
      obtain ⟨o, h1, _, _, h4⟩ := jp0 sg [] n s ts2 hy
      rw [h4]; simp [Tm.name, h1]
     ·cases hm
    have hg : pG1 sg vs bs := tM0 sg vs x.le y [] bs hlv.2 hm hys (by rw [← hys]; exact hy) (fun v t h => by simp [bnd] at h)
    have hbv := (ly0 x.le y [] bs hlv.2 hm).1
    have hsub := tl0 sg vs bs hg x.ri (fun v hv => by
     have := List.all_eq_true.1 hvr v hv
     simp only [xN0, List.any_eq_true] at this
     obtain ⟨w, hw, he⟩ := this
     have he := (qZ0 _ _).1 he
     subst he
     exact hbv w hw)
    rw [tb0 sg _ (by rw [hsub, hrs, ← hls, ← hys]; exact hy), hsub, hrs, ← hls, ← hys]
   ·cases hinf
  ·cases hf
theorem pU1 (d : GDefinition) (hd : ∀ x, x ∈ d.ru → qz0 d.si x = true) (t : Tm) (hn : t.nodes = true) (ht : t.sort d.si [] ≠ sE) (q : Int × List Int) (hq : qc1 d t q) : (doB d t q).sort d.si [] = t.sort d.si [] := by
 obtain ⟨_, j, hj, u, hk, hat, hu, hfi⟩ := hq
 have e1 : d.ru.getD q.1.toNat ⟨sE, zeroT, zeroT, []⟩ = d.ru[j] := by rw [hk, Int.toNat_natCast, List.getD_eq_getElem?_getD, List.getElem?_eq_getElem hj, Option.getD_some]
 unfold doB
 rw [e1, hat, Option.getD_some]
 obtain ⟨bs, hbs⟩ := Option.isSome_iff_exists.1 hfi
 have hus := cw0 d.si q.2 t u hn hat ht
 have hft : (fireT d.ru[j] u).sort d.si [] = u.sort d.si [] := by
  unfold fireT
  rw [hbs]
  exact yX1 d.si d.ru[j] u (hd _ (List.getElem_mem hj)) bs hbs hus
 exact mK0 d.si _ q.2 t u hn hat ht hft
open Go.Proofs
set_option maxRecDepth 100000
theorem lM0 (p : GRule → Bool) : ∀ (rs : List GRule) (k x : Int), x ∈ xq0 p rs k → ∃ (j : Nat) (h : j < rs.length), x = k + j ∧ p rs[j] = true
 | [], _, _, h => by simp [xq0] at h
 | r :: rs, k, x, h => by
  simp only [xq0, List.mem_append] at h
  rcases h with h | h
  ·split at h
   ·rename_i hp
    simp at h
    exact ⟨0, by simp, by simp [h], hp⟩
   ·cases h
  ·obtain ⟨j, hj, e, hp⟩ := lM0 p rs (k + 1) x h
   exact ⟨j + 1, by simpa using hj, by rw [e]; push_cast; omega, hp⟩
theorem pI1 (d : GDefinition) : ∀ (t : Tm), tmOk t → rng d.st t → ∀ q, q ∈ t.all d.st (kE0 d) → q.2.length ≤ t.size ∧ ∃ (j : Nat) (hj : j < d.ru.length) (u : Tm), q.1 = (j : Int) ∧ atp q.2 t = some u ∧ tmOk u ∧ (fireI d.ru[j] u).isSome = true := by
 refine Tm.ind (fun k n s ts ih ht hr q hq => ?_)
 rw [Tm.all, List.mem_append, List.mem_map] at hq
 rcases hq with ⟨x, hx, rfl⟩ | hq
 ·obtain ⟨j, hj, e, hp⟩ := lM0 _ d.ru 0 x hx
  exact ⟨Nat.zero_le _, j, hj, _, by rw [e]; simp, rfl, ht, hp⟩
 ·obtain ⟨x, q', h1, h2, rfl⟩ := cF0 _ _ _ hq
  by_cases hk : k = 2
  ·rw [if_pos hk] at h1
   have hxr := hr.1 hk x h1
   rw [sR0 d.st (kE0 d) ts _ hxr.2] at h2
   obtain ⟨h3, j, hj, u, h4, h5, h6, h7⟩ := ih _ (List.getElem_mem hxr.2) (gP0 k n s ts ht _ (List.getElem_mem hxr.2)) (po0 d.st ts hr.2 _ (List.getElem_mem hxr.2)) q' h2
   have hs := zQ0 ts _ (List.getElem_mem hxr.2)
   have hl := zI0 ts
   refine ⟨by simp only [List.length_cons, Tm.size]; omega, j, hj, u, h4, ?_, h6, h7⟩
   simp only [atp]
   rw [if_pos (by simp; omega), List.getD_eq_getElem?_getD, List.getElem?_eq_getElem hxr.2, Option.getD_some]
   exact h5
  ·rw [if_neg hk] at h1; cases h1
def goodT (d : GDefinition) (t : Tm) : Prop := tmOk t ∧ t.nodes = true ∧ t.sort d.si [] ≠ sE
theorem good_rng (d : GDefinition) (hst : ms0 d.si d.st = true) (t : Tm) (h : goodT d t) : rng d.st t := jy1 d.si d.st hst t h.2.1 ((eqS_ne _ _).2 h.2.2)
theorem good_cfg (d : GDefinition) (hw : d.wf) (t : Tm) (htw : t.wf) (h : wf0 d t = true) : goodT d t ∧ ms0 d.si d.st = true := by
 have h1 := cfg_ok d hw t htw h
 simp only [wf0, dJ0, Bool.and_eq_true] at h
 have h2 := h.1.1.2
 simp only [Tm.valid, Bool.and_eq_true] at h2
 exact ⟨⟨h1.2.1, h2.2, by rw [← eqS_ne]; simpa using h.2⟩, h.1.1.1.1.2⟩
theorem good_red (d : GDefinition) (hst : ms0 d.si d.st = true) (t : Tm) (h : goodT d t) (q : Int × List Int) (hq : q ∈ t.all d.st (kE0 d)) : qc1 d t q := by
 obtain ⟨h1, h2⟩ := pI1 d t h.1 (good_rng d hst t h) q hq
 have := h.1.1
 exact ⟨by omega, h2⟩
theorem good_do (d : GDefinition) (hd : ∀ x, x ∈ d.ru → ruleOk x ∧ qz0 d.si x = true) (t : Tm) (h : goodT d t) (q : Int × List Int) (hq : qc1 d t q) (hv : (doB d t q).valid = true) : goodT d (doB d t q) := by
 have hn := hv
 simp only [Tm.valid, Bool.and_eq_true] at hn
 exact ⟨vP0 _ hv (ba1 d (fun x hx => (hd x hx).1) t h.1.2.2 q hq), hn.2, by rw [pU1 d (fun x hx => (hd x hx).2) t h.2.1 h.2.2 q hq]; exact h.2.2⟩
def ta1 (l : List (Int × List Int)) (x : Int × List Int) : Bool := l.any fun y => decide (y = x)
def xx1 (d : GDefinition) : Tm → List (Int × List Int) → Option Tm
 | t, [] => some t
 | t, x :: xs => if ta1 (t.all d.st (kE0 d)) x && (doB d t x).valid then xx1 d (doB d t x) xs else none
def mY1 (d : GDefinition) (t : Tm) (xs : List (Int × List Int)) : Option Tm := if wf0 d t then xx1 d t xs else none
def kS1 : Tm → List AC
 | .mk k n s ts => [iC k, iC n, sC s, tC ts]
end Go.Ai
namespace Go.Ai
open Go.Proofs
set_option maxRecDepth 100000
theorem sk0 : ∀ (ts : List Tm) (t : Tm), t ∈ ts → t.cnt ≤ Tm.cnts ts
 | a :: ts, t, h => by
  rcases List.mem_cons.1 h with rfl | h
  ·simp only [Tm.cnts]; omega
  ·have := sk0 ts t h; simp only [Tm.cnts]; omega
theorem sq0 : ∀ (ts : List Tm) (t : Tm), t ∈ ts → t.dep ≤ Tm.deps ts
 | a :: ts, t, h => by
  rcases List.mem_cons.1 h with rfl | h
  ·simp only [Tm.deps]; omega
  ·have := sq0 ts t h; simp only [Tm.deps]; omega
theorem mu0 : ∀ (ts : List Tm) (t : Tm), t ∈ ts → Tm.varss ts = [] → t.vars = []
 | a :: ts, t, h, e => by
  simp only [Tm.varss, List.append_eq_nil_iff] at e
  rcases List.mem_cons.1 h with rfl | h
  ·exact e.1
  ·exact mu0 ts t h e.2
theorem gk0 : ∀ (p : List Int) (t u : Tm), atp p t = some u → u.cnt ≤ t.cnt ∧ u.dep ≤ t.dep ∧ (t.nodes = true → u.nodes = true) ∧ (t.vars = [] → u.vars = [])
 | [], t, u, h => by cases h; exact ⟨Nat.le_refl _, Nat.le_refl _, id, id⟩
 | i :: p, .mk k n s ts, u, h => by
  obtain ⟨hl, h1, _⟩ := wq1 ⟨[], []⟩ i p k n s ts u h
  have hm := List.getElem_mem hl
  obtain ⟨a, b, c, e⟩ := gk0 p _ u h1
  have h2 := sk0 ts _ hm
  have h3 := sq0 ts _ hm
  refine ⟨by simp only [Tm.cnt]; omega, by simp only [Tm.dep]; omega, fun hn => c ?_, fun hv => e ?_⟩
  ·simp only [Tm.nodes, Bool.and_eq_true] at hn
   have hn2 := hn.2
   rw [kW0] at hn2
   exact List.all_eq_true.1 hn2 _ hm
  ·simp only [Tm.vars, List.append_eq_nil_iff] at hv
   exact mu0 ts _ hm hv.2
theorem cfg_at (d : GDefinition) (t : Tm) (h : wf0 d t = true) (p : List Int) (u : Tm) (hu : atp p t = some u) : wf0 d u = true := by
 simp only [wf0, Bool.and_eq_true, Tm.valid, decide_eq_true_eq, Bool.not_eq_true', beq_iff_eq] at h ⊢
 obtain ⟨⟨⟨h1, ⟨h2, h3⟩, h4⟩, h5⟩, h6⟩ := h
 obtain ⟨a, b, c, e⟩ := gk0 p t u hu
 have ht : t.sort d.si [] ≠ sE := fun e => by rw [e] at h6; simp [eqS] at h6
 have hs := cw0 d.si p t u h4 hu ht
 refine ⟨⟨⟨h1, ⟨by omega, by omega⟩, c h4⟩, ?_⟩, ?_⟩
 ·rw [e (List.eq_nil_of_length_eq_zero h5)]; rfl
 ·rw [Bool.eq_false_iff]
  intro q
  exact hs ((qZ0 _ _).1 q)
theorem cg0 (p : GRule → Bool) : ∀ (rs : List GRule) (k : Int), 0 ≤ rootI p rs k → ∃ tl, xq0 p rs k = rootI p rs k :: tl
 | [], k, h => by simp [rootI] at h
 | r :: rs, k, h => by
  simp only [rootI, xq0] at h ⊢
  split
  ·exact ⟨_, rfl⟩
  ·rename_i hp
   rw [if_neg hp] at h
   obtain ⟨tl, e⟩ := cg0 p rs (k + 1) h
   exact ⟨tl, by rw [e]; rfl⟩
theorem cO0 (rs : List (List (Int × List Int))) (x : Int) (q' : Int × List Int) : ∀ (xs : List Int), x ∈ xs → q' ∈ rs.getD x.toNat [] → (q'.1, x :: q'.2) ∈ fM0 rs xs
 | y :: xs, h, hq => by
  simp only [fM0, List.mem_append, List.mem_map]
  rcases List.mem_cons.1 h with rfl | h
  ·exact .inl ⟨q', hq, rfl⟩
  ·exact .inr (cO0 rs x q' xs h hq)
theorem fD1 (st : List GStrict) (root : Tm → Int) (ro : Tm → List Int) (hr : ∀ t, 0 ≤ root t → root t ∈ ro t) : ∀ (t : Tm), rng st t → ∀ q, t.nxt st root = some q → q ∈ t.all st ro := by
 refine Tm.ind (fun k n s ts ih hrg q hq => ?_)
 rw [Tm.nxt] at hq
 rw [Tm.all, List.mem_append]
 cases hf : firstR (Tm.nxts st root ts) (if k = 2 then zD0 st s else []) with
 | some q' =>
  rw [hf] at hq
  cases hq
  obtain ⟨x, p, hx, hp, hg⟩ := fH0 _ _ _ hf
  right
  by_cases hk : k = 2
  ·have hx2 := hx
   rw [if_pos hk] at hx2
   have hx2 := hrg.1 hk x hx2
   rw [pm0 st root ts x.toNat hx2.2] at hg
   have hm := List.getElem_mem hx2.2
   have h1 := ih _ hm (po0 st ts hrg.2 _ hm) _ hg
   have h2 := cO0 (Tm.alls st ro ts) x (q.1, p) _ hx (by rw [sR0 st ro ts _ hx2.2]; exact h1)
   have e : q = (q.1, x :: p) := by rw [← hp]
   rw [e]
   exact h2
  ·rw [if_neg hk] at hx; cases hx
 | none =>
  rw [hf] at hq
  simp only at hq
  split at hq
  ·cases hq
  ·cases hq
   exact .inl (List.mem_map.2 ⟨_, hr _ (by omega), rfl⟩)
theorem next_mem (d : GDefinition) (t : Tm) (hrg : rng d.st t) (q : Int × List Int) (h : t.nxt d.st (rootF d) = some q) : q ∈ t.all d.st (kE0 d) := by
 refine fD1 d.st (rootF d) (kE0 d) (fun u hu => ?_) t hrg q h
 obtain ⟨tl, e⟩ := cg0 _ _ _ hu
 unfold kE0
 rw [e]
 exact List.mem_cons_self
end Go.Ai
