/- The program's rules and the reference's: the same are valid. No program in sight. -/
import Derived.Test.YtgdmjekkdcjipaaGreatAiU6
set_option linter.unusedVariables false
set_option linter.unusedSimpArgs false
namespace Go.Ai
theorem zf1 : ∀ (vs : List GVarSort) (s x : ByteArray), fvs vs s = some x → s ∈ vs.map GVarSort.na
 | [], _, _, h => by cases h
 | v :: vs, s, x, h => by
  simp only [fvs] at h
  split at h
  ·rename_i he
   have := (zw0 v.na s).1 he
   simp [this]
  ·have := zf1 vs s x h
   simp only [List.map_cons, List.mem_cons]
   exact .inr this
theorem ma0 (sg : GSignature) (h : sg.size < 1048577) : cn0 sg := by
 have h1 := zQ0 GOp.size sg.op
 simp only [GSignature.size] at h
 refine ⟨by omega, fun o ho => ?_⟩
 have h2 := qT0 GOp.size sg.op o ho
 have h3 := zQ0 szS o.ar
 simp only [GOp.size] at h2
 omega
mutual
theorem gc0 (sg : GSignature) (vs : List GVarSort) : ∀ (t : Tm), t.nodes = true → eqS (t.sort sg vs) sE = false → ∀ v, v ∈ t.vars → v ∈ vs.map GVarSort.na
 | .mk k n s ts, hn, hs, v, hv => by
  simp only [Tm.nodes, pY0, Bool.and_eq_true] at hn
  simp only [Tm.sort] at hs
  simp only [Tm.vars] at hv
  by_cases h1 : k = 1
  ·subst h1
   have hl : ts = [] := by
    have := hn.1
    simp at this
    exact this.2
   subst hl
   simp [Tm.varss] at hv
   subst hv
   simp at hs
   cases hf : fvs vs v with
   | none => rw [hf] at hs; rw [Option.getD_none, qf0] at hs; cases hs
   | some x => exact zf1 vs v x hf
  ·by_cases h2 : k = 2
   ·subst h2
    simp at hs hv
    cases hf : zI0 sg s with
    | none => rw [hf] at hs; simp only [qf0] at hs; cases hs
    | some o =>
     rw [hf] at hs
     simp only at hs
     split at hs
     ·rename_i hq
      exact sorts_vars sg vs ts o.ar hn.2 hq.1 hq.2 v hv
     ·rw [qf0] at hs; cases hs
   ·have h3 : k = 3 := by
     have := hn.1
     simp [h1, h2] at this
     exact this.1
    subst h3
    have hl : ts = [] := by
     have := hn.1
     simp at this
     exact this.2
    subst hl
    simp [Tm.varss] at hv
theorem sorts_vars (sg : GSignature) (vs : List GVarSort) : ∀ (ts : List Tm) (xs : List ByteArray), Tm.nodess ts = true → xs.length = ts.length → Tm.sorts sg vs ts xs = true → ∀ v, v ∈ Tm.varss ts → v ∈ vs.map GVarSort.na
 | [], _, _, _, _, v, hv => by simp [Tm.varss] at hv
 | a :: ts, [], _, hl, _, _, _ => by simp at hl
 | a :: ts, x :: xs, hn, hl, hs, v, hv => by
  simp only [Tm.nodess, Bool.and_eq_true] at hn
  simp only [Tm.sorts, Bool.and_eq_true, Bool.not_eq_true'] at hs
  simp only [Tm.varss, List.mem_append] at hv
  rcases hv with hv | hv
  ·exact gc0 sg vs a hn.1 hs.1.1 v hv
  ·exact sorts_vars sg vs ts xs hn.2 (by simpa using hl) hs.2 v hv
end
mutual
theorem dt0 (sg : GSignature) : ∀ (t : Tm) (so : ByteArray) (vs : List GVarSort) (v : ByteArray), v ∈ (t.inf sg so vs).1.map GVarSort.na → v ∈ vs.map GVarSort.na ∨ v ∈ t.vars
 | .mk k n s ts, so, vs, v, h => by
  simp only [Tm.inf] at h
  simp only [Tm.vars]
  split at h
  ·rename_i hk
   rw [if_pos hk]
   split at h
   ·exact .inl h
   ·simp only [List.map_append, List.mem_append, List.map_cons, List.map_nil, List.mem_singleton] at h
    rcases h with h | h
    ·exact .inl h
    ·exact .inr (by simp [h])
  ·rename_i hk
   rw [if_neg hk, List.nil_append]
   exact infs_names sg ts _ vs v h
theorem infs_names (sg : GSignature) : ∀ (ts : List Tm) (xs : List ByteArray) (vs : List GVarSort) (v : ByteArray), v ∈ (Tm.infs sg ts xs vs).1.map GVarSort.na → v ∈ vs.map GVarSort.na ∨ v ∈ Tm.varss ts
 | [], _, vs, v, h => .inl h
 | a :: ts, xs, vs, v, h => by
  simp only [Tm.infs] at h
  simp only [Tm.varss, List.mem_append]
  split at h
  ·rcases infs_names sg ts _ _ v h with h | h
   ·rcases dt0 sg a _ vs v h with h | h
    ·exact .inl h
    ·exact .inr (.inl h)
   ·exact .inr (.inr h)
  ·simp at h
end
theorem du0 (sg : GSignature) (t : Tm) (so : ByteArray) (v : ByteArray) (h : v ∈ (zd0 sg t so).1.map GVarSort.na) : v ∈ t.vars := by
 unfold zd0 at h
 split at h
 ·rcases dt0 sg t so [] v h with h | h
  ·simp at h
  ·exact h
 ·simp at h
theorem sT0 (sg : GSignature) (t : Tm) : (zd0 sg t sE).2 = false := by
 unfold zd0
 rw [qf0]
 simp
theorem mD0 (sg : GSignature) (t : Tm) (so : ByteArray) (g : GGuard) : jr0 sg (zd0 sg t so).1 t.vars g = yQ0 sg (zd0 sg t so).1 g := by
 unfold jr0 yQ0
 rw [Bool.eq_iff_iff]
 have key : ∀ (x : Tm), x.valid = true → eqS (x.sort sg (zd0 sg t so).1) sE = false → x.vars.all (vF0 t.vars) = true := by
  intro x hv hs
  simp only [Tm.valid, Bool.and_eq_true] at hv
  rw [List.all_eq_true]
  intro v hm
  exact (xs0 _ _).2 (du0 sg t so v (gc0 sg _ x hv.2 hs v hm))
 have sym : ∀ a b : ByteArray, eqS a b = eqS b a := fun a b => by
  rw [Bool.eq_iff_iff, zw0, zw0]; exact ⟨Eq.symm, Eq.symm⟩
 have kl := key g.le
 have kr := key g.ri
 simp only [Bool.and_eq_true, Bool.not_eq_true', Bool.or_eq_true, Bool.and_eq_false_iff, Bool.not_eq_false']
 constructor
 ·rintro ⟨⟨⟨⟨⟨⟨⟨h1, h2⟩, h3⟩, h4⟩, h5⟩, h6⟩, h7⟩, h8⟩
  exact ⟨⟨⟨⟨⟨h2, h3⟩, h1⟩, h6⟩, by rw [sym]; exact h7⟩, h8⟩
 ·rintro ⟨⟨⟨⟨⟨h2, h3⟩, h1⟩, h6⟩, h7⟩, h8⟩
  have he : g.ri.sort sg (zd0 sg t so).1 = g.le.sort sg (zd0 sg t so).1 := (zw0 _ _).1 h7
  exact ⟨⟨⟨⟨⟨⟨⟨h1, h2⟩, h3⟩, kl h2 h6⟩, kr h3 (by rw [he]; exact h6)⟩, h6⟩, by rw [sym]; exact h7⟩, h8⟩
theorem qs1 (sg : GSignature) (r : GRule) : qr1 sg r = cQ0 sg r := by
 unfold qr1 cQ0
 have hg : r.gu.all (jr0 sg (zd0 sg r.le ((zI0 sg r.le.name).getD opD).re).1 r.le.vars) = r.gu.all (yQ0 sg (zd0 sg r.le ((zI0 sg r.le.name).getD opD).re).1) := by
  congr 1
  funext g
  exact mD0 sg r.le _ g
 rw [hg]
 have hn : (zI0 sg r.le.name).isSome = false → (zd0 sg r.le ((zI0 sg r.le.name).getD opD).re).2 = false := by
  intro h
  cases hf : zI0 sg r.le.name with
  | none => exact sT0 sg r.le
  | some o => rw [hf] at h; cases h
 generalize (zd0 sg r.le ((zI0 sg r.le.name).getD opD).re) = iv at hn ⊢
 generalize (zI0 sg r.le.name).isSome = b at hn ⊢
 generalize mQ0 r.na = c1
 generalize r.le.valid = c2
 generalize r.ri.valid = c3
 generalize (r.le.kind == 2) = c4
 generalize r.le.bi = c5
 generalize decide (r.gu.length ≤ 2) = c6
 generalize eqS (r.ri.sort sg iv.1) ((zI0 sg r.le.name).getD opD).re = c7
 generalize r.ri.vars.all (vF0 r.le.vars) = c8
 generalize r.gu.all (yQ0 sg iv.1) = c9
 generalize iv.2 = c10 at hn ⊢
 revert hn
 cases c1 <;> cases c2 <;> cases c3 <;> cases c4 <;> cases c5 <;> cases c6 <;> cases c7 <;> cases c8 <;> cases c9 <;> cases c10 <;> cases b <;> simp
end Go.Ai
