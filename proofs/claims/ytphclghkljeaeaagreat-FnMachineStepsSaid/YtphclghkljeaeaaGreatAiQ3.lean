/- What fires: the two sides agree. -/
import Derived.Test.YtphclghkljeaeaaGreatAiP3
import Derived.Test.YtphclghkljeaeaaGreatAiQ2
import Derived.Test.YtphclghkljeaeaaGreatAiH1
import Derived.Test.YtphclghkljeaeaaGreatAiU9
set_option linter.unusedVariables false
set_option linter.unusedSimpArgs false
namespace Go.Ai
open Go.Proofs
set_option maxRecDepth 100000
theorem ws1 (k n : Int) (s : ByteArray) (l : Nat) (h : bD0 k n s l = true) : s.size ≤ 8 := by
 unfold bD0 at h
 split at h
 ·simp only [xx1, nV0, Bool.and_eq_true, decide_eq_true_eq] at h
  omega
 ·split at h
  ·simp only [nJ0, nV0, Bool.and_eq_true, decide_eq_true_eq] at h
   omega
  ·split at h
   ·simp only [Bool.and_eq_true] at h
    have := (yT0 s sE).1 h.1.1.1
    rw [this]; decide
   ·cases h
mutual
theorem bl0 : ∀ (t : Tm), t.nodes = true → t.size + 1 ≤ 9 * t.cnt
 | .mk k n s ts, h => by
  simp only [Tm.nodes, Bool.and_eq_true] at h
  have h1 := ws1 _ _ _ _ h.1
  have h2 := nodess_size ts h.2
  simp only [Tm.size, Tm.cnt]; omega
theorem nodess_size : ∀ (ts : List Tm), Tm.nodess ts = true → Tm.sizes ts ≤ 9 * Tm.cnts ts
 | [], _ => by simp [Tm.sizes, Tm.cnts]
 | a :: ts, h => by
  simp only [Tm.nodess, Bool.and_eq_true] at h
  have h1 := bl0 a h.1
  have h2 := nodess_size ts h.2
  simp only [Tm.sizes, Tm.cnts]; omega
end
mutual
theorem kz0 (bs : List GBind) (hb : ∀ b, b ∈ bs → b.t.size < 540) : ∀ (t : Tm), (t.sub bs).size ≤ t.size + 540 * t.cnt
 | .mk k n s ts => by
  have ih := subs_size540 bs hb ts
  simp only [Tm.sub, Tm.cnt]
  have hq : (Tm.mk k n s (Tm.subs bs ts)).size ≤ (Tm.mk k n s ts).size + 540 * (1 + Tm.cnts ts) := by simp only [Tm.size]; omega
  split
  ·cases h : bnd bs s with
   | none => exact hq
   | some t =>
    obtain ⟨b, hb1, rfl⟩ := vq0 bs s t h
    have := hb b hb1
    simp only [Option.getD_some]; omega
  ·exact hq
theorem subs_size540 (bs : List GBind) (hb : ∀ b, b ∈ bs → b.t.size < 540) : ∀ (ts : List Tm), Tm.sizes (Tm.subs bs ts) ≤ Tm.sizes ts + 540 * Tm.cnts ts
 | [] => by simp [Tm.subs, Tm.sizes]
 | a :: ts => by
  have h1 := kz0 bs hb a
  have h2 := subs_size540 bs hb ts
  simp only [Tm.subs, Tm.sizes, Tm.cnts]; omega
end
mutual
theorem vi0 (bs bs' : List GBind) : ∀ (t : Tm), (∀ v, v ∈ t.vars → bnd bs v = bnd bs' v) → t.sub bs = t.sub bs'
 | .mk k n s ts, h => by
  have ih := subs_congr bs bs' ts (fun v hv => h v (by simp only [Tm.vars]; exact List.mem_append_right _ hv))
  simp only [Tm.sub]
  split
  ·rename_i hk
   rw [h s (by simp only [Tm.vars, hk, if_true]; simp), ih]
  ·rw [ih]
theorem subs_congr (bs bs' : List GBind) : ∀ (ts : List Tm), (∀ v, v ∈ Tm.varss ts → bnd bs v = bnd bs' v) → Tm.subs bs ts = Tm.subs bs' ts
 | [], _ => rfl
 | a :: ts, h => by
  simp only [Tm.subs]
  rw [vi0 bs bs' a (fun v hv => h v (by simp only [Tm.varss]; exact List.mem_append_left _ hv)), subs_congr bs bs' ts (fun v hv => h v (by simp only [Tm.varss]; exact List.mem_append_right _ hv))]
end
def jn0 (bs : List GBind) (ns : List ByteArray) : List GBind := ns.filterMap fun v => (bnd bs v).map fun t => ⟨v, t⟩
theorem zO1 (bs : List GBind) (ns : List ByteArray) (i : Nat) (h : i < ns.length) : jn0 bs (ns.take (i + 1)) = jn0 bs (ns.take i) ++ (match bnd bs ns[i] with | some t => [⟨ns[i], t⟩] | none => []) := by
 unfold jn0
 rw [List.take_add_one, List.getElem?_eq_getElem h, Option.toList, List.filterMap_append]
 congr 1
 cases hq : bnd bs ns[i] <;> simp [List.filterMap, hq]
theorem fQ0 (bs : List GBind) (ns : List ByteArray) : (jn0 bs ns).length ≤ ns.length := List.length_filterMap_le _ _
theorem lO0 (bs : List GBind) (ns : List ByteArray) (b : GBind) (h : b ∈ jn0 bs ns) : ∃ b', b' ∈ bs ∧ b'.t = b.t := by
 obtain ⟨v, _, hv⟩ := List.mem_filterMap.1 h
 cases hq : bnd bs v with
 | none => rw [hq] at hv; cases hv
 | some t =>
  rw [hq] at hv
  obtain ⟨b', hb, rfl⟩ := vq0 bs v t hq
  refine ⟨b', hb, ?_⟩
  simp only [Option.map_some, Option.some.injEq] at hv
  rw [← hv]
theorem kY0 (bs : List GBind) (v : ByteArray) (hv : bnd bs v = none) : ∀ (ns : List ByteArray), bnd (jn0 bs ns) v = none
 | [] => rfl
 | n :: ns => by
  have ih := kY0 bs v hv ns
  simp only [jn0, List.filterMap_cons] at ih ⊢
  cases hq : bnd bs n with
  | none => exact ih
  | some t =>
   have : eqS n v = false := (eqS_ne n v).2 (fun e => by rw [e, hv] at hq; cases hq)
   simp only [Option.map_some, bnd, this, Bool.false_eq_true, if_false]
   exact ih
theorem pa0 (bs : List GBind) (v : ByteArray) : ∀ (ns : List ByteArray), v ∈ ns → bnd (jn0 bs ns) v = bnd bs v
 | [], h => by cases h
 | n :: ns, h => by
  cases hv : bnd bs v with
  | none => exact kY0 bs v hv _
  | some t =>
   simp only [jn0, List.filterMap_cons]
   by_cases e : n = v
   ·subst e
    simp only [hv, Option.map_some, bnd, (yT0 n n).2 rfl, if_true]
   ·have ih := pa0 bs v ns (by rcases List.mem_cons.1 h with h | h; exact absurd h.symm e; exact h)
    rw [hv] at ih
    have e' : eqS n v = false := (eqS_ne n v).2 e
    cases hq : bnd bs n with
    | none => exact ih
    | some t' =>
     simp only [Option.map_some, bnd, e', Bool.false_eq_true, if_false]
     exact ih
def tmOk (t : Tm) : Prop := t.size < 540 ∧ t.cnt ≤ 60 ∧ t.wf
def ruleOk (r : GRule) : Prop := tmOk r.le ∧ tmOk r.ri ∧ r.gu.length ≤ 2 ∧ ∀ g, g ∈ r.gu → tmOk g.le ∧ tmOk g.ri
theorem xT0 (t : Tm) (h : t.valid = true) (hw : t.wf) : tmOk t := by
 simp only [Tm.valid, Bool.and_eq_true, decide_eq_true_eq] at h
 have := bl0 t h.2
 exact ⟨by omega, h.1.1, hw⟩
def bM0 (r : GRule) (bs : List GBind) : List GBind := jn0 bs (qp0 (qp0 r.le.vars))
def fireS (r : GRule) (t : Tm) : List GBind × Bool :=
 match r.le.mat t [] with
 | none => ([], false)
 | some bs => (bM0 r bs, r.gu.all fun g => wI0 (g.sub (bM0 r bs)))
def fireI (r : GRule) (t : Tm) : Option (List GBind) :=
 match r.le.mat t [] with
 | none => none
 | some bs => if r.gu.all fun g => wI0 (g.sub bs) then some bs else none
theorem bP0 {α : Type} (p q : α → Bool) : ∀ (xs : List α), (∀ x, x ∈ xs → p x = q x) → xs.all p = xs.all q
 | [], _ => rfl
 | x :: xs, h => by
  simp only [List.all_cons]
  rw [h x (by simp), bP0 p q xs (fun y hy => h y (by simp [hy]))]
theorem tV0 (sg : GSignature) (le : Tm) (so : ByteArray) (g : GGuard) (h : wz0 sg (zh0 sg le so).1 g = true) (v : ByteArray) (hv : v ∈ g.le.vars ∨ v ∈ g.ri.vars) : v ∈ le.vars := by
 simp only [wz0, Bool.and_eq_true] at h
 obtain ⟨⟨⟨⟨⟨h1, h2⟩, h3⟩, h4⟩, h5⟩, h6⟩ := h
 simp only [Bool.not_eq_true'] at h4
 simp only [Tm.valid, Bool.and_eq_true] at h1 h2
 have h5' : eqS (g.ri.sort sg (zh0 sg le so).1) sE = false := by
  have := (yT0 _ _).1 h5
  rw [this]; exact h4
 rcases hv with hv | hv
 ·exact jw0 sg le so v (vZ0 sg _ g.le h1.2 h4 v hv)
 ·exact jw0 sg le so v (vZ0 sg _ g.ri h2.2 h5' v hv)
theorem fire_same (sg : GSignature) (r : GRule) (t : Tm) (h : yb0 sg r = true) : (fireS r t).2 = (fireI r t).isSome := by
 unfold fireS fireI
 cases hm : r.le.mat t [] with
 | none => rfl
 | some bs =>
  simp only [yb0, Bool.and_eq_true] at h
  have hg := List.all_eq_true.1 h.2
  have : (r.gu.all fun g => wI0 (g.sub (bM0 r bs))) = r.gu.all fun g => wI0 (g.sub bs) := by
   refine bP0 _ _ _ (fun g hgm => ?_)
   have hv := tV0 sg r.le _ g (hg g hgm)
   have hb : ∀ v, v ∈ r.le.vars → bnd (bM0 r bs) v = bnd bs v := fun v hv => pa0 bs v _ ((kF0 _ v).2 ((kF0 _ v).2 hv))
   simp only [GGuard.sub]
   rw [vi0 (bM0 r bs) bs g.le (fun v hv' => hb v (hv v (.inl hv'))), vi0 (bM0 r bs) bs g.ri (fun v hv' => hb v (hv v (.inr hv')))]
  simp only [this]
  split <;> rename_i e <;> simp_all
def rootI (p : GRule → Bool) : List GRule → Int → Int
 | [], _ => -1
 | r :: rs, k => if p r then k else rootI p rs (k + 1)
theorem bx0 (p : GRule → Bool) (rs : List GRule) (i : Nat) (k : Int) (h : i < rs.length) : rootI p (rs.drop i) k = if p rs[i] then k else rootI p (rs.drop (i + 1)) (k + 1) := by
 rw [List.drop_eq_getElem_cons h]; simp only [rootI]
theorem jb0 (p q : GRule → Bool) : ∀ (rs : List GRule) (k : Int), (∀ r, r ∈ rs → p r = q r) → rootI p rs k = rootI q rs k
 | [], _, _ => rfl
 | r :: rs, k, h => by
  simp only [rootI]
  rw [h r (by simp), jb0 p q rs (k + 1) (fun r hr => h r (by simp [hr]))]
end Go.Ai
