/- What fires: the two sides agree. -/
import Derived.Test.YtphclghkljeaeaaGreatAiP3
import Derived.Test.YtphclghkljeaeaaGreatAiQ2
import Derived.Test.YtphclghkljeaeaaGreatAiH1
import Derived.Test.YtphclghkljeaeaaGreatAiU10
set_option linter.unusedVariables false
set_option linter.unusedSimpArgs false
namespace Go.Ai
open Go.Proofs
set_option maxRecDepth 100000
theorem jW1 (k n : Int) (s : ByteArray) (l : Nat) (h : fe0 k n s l = true) : s.size ≤ 8 := by
 unfold fe0 at h
 split at h
 ·simp only [bK1, ro0, Bool.and_eq_true, decide_eq_true_eq] at h
  omega
 ·split at h
  ·simp only [re0, ro0, Bool.and_eq_true, decide_eq_true_eq] at h
   omega
  ·split at h
   ·simp only [Bool.and_eq_true] at h
    have := (qQ0 s sE).1 h.1.1.1
    rw [this]; decide
   ·cases h
mutual
theorem ca0 : ∀ (t : Tm), t.nodes = true → t.size + 1 ≤ 9 * t.cnt
 | .mk k n s ts, h => by
  simp only [Tm.nodes, Bool.and_eq_true] at h
  have h1 := jW1 _ _ _ _ h.1
  have h2 := nodess_size ts h.2
  simp only [Tm.size, Tm.cnt]; omega
theorem nodess_size : ∀ (ts : List Tm), Tm.nodess ts = true → Tm.sizes ts ≤ 9 * Tm.cnts ts
 | [], _ => by simp [Tm.sizes, Tm.cnts]
 | a :: ts, h => by
  simp only [Tm.nodess, Bool.and_eq_true] at h
  have h1 := ca0 a h.1
  have h2 := nodess_size ts h.2
  simp only [Tm.sizes, Tm.cnts]; omega
end
mutual
theorem kx0 (bs : List GBind) (hb : ∀ b, b ∈ bs → b.t.size < 540) : ∀ (t : Tm), (t.sub bs).size ≤ t.size + 540 * t.cnt
 | .mk k n s ts => by
  have ih := subs_size540 bs hb ts
  simp only [Tm.sub, Tm.cnt]
  have hq : (Tm.mk k n s (Tm.subs bs ts)).size ≤ (Tm.mk k n s ts).size + 540 * (1 + Tm.cnts ts) := by simp only [Tm.size]; omega
  split
  ·cases h : bnd bs s with
   | none => exact hq
   | some t =>
    obtain ⟨b, hb1, rfl⟩ := vo0 bs s t h
    have := hb b hb1
    simp only [Option.getD_some]; omega
  ·exact hq
theorem subs_size540 (bs : List GBind) (hb : ∀ b, b ∈ bs → b.t.size < 540) : ∀ (ts : List Tm), Tm.sizes (Tm.subs bs ts) ≤ Tm.sizes ts + 540 * Tm.cnts ts
 | [] => by simp [Tm.subs, Tm.sizes]
 | a :: ts => by
  have h1 := kx0 bs hb a
  have h2 := subs_size540 bs hb ts
  simp only [Tm.subs, Tm.sizes, Tm.cnts]; omega
end
mutual
theorem vg0 (bs bs' : List GBind) : ∀ (t : Tm), (∀ v, v ∈ t.vars → bnd bs v = bnd bs' v) → t.sub bs = t.sub bs'
 | .mk k n s ts, h => by
  have ih := subs_congr bs bs' ts (fun v hv => h v (by simp only [Tm.vars]; exact List.mem_append_right _ hv))
  simp only [Tm.sub]
  split
  ·rename_i hk
   rw [h s (by simp only [Tm.vars, hk, if_true]; simp), ih]
  ·rw [ih]
theorem subs_congr (bs bs' : List GBind) : ∀ (ts : List Tm), (∀ v, v ∈ Tm.varss ts → bnd bs v = bnd bs' v) → Tm.subs bs ts = Tm.subs bs' ts
 | [], _ => rfl
 | a :: ts, h => by
  simp only [Tm.subs]
  rw [vg0 bs bs' a (fun v hv => h v (by simp only [Tm.varss]; exact List.mem_append_left _ hv)), subs_congr bs bs' ts (fun v hv => h v (by simp only [Tm.varss]; exact List.mem_append_right _ hv))]
end
def jk0 (bs : List GBind) (ns : List ByteArray) : List GBind := ns.filterMap fun v => (bnd bs v).map fun t => ⟨v, t⟩
theorem qo1 (bs : List GBind) (ns : List ByteArray) (i : Nat) (h : i < ns.length) : jk0 bs (ns.take (i + 1)) = jk0 bs (ns.take i) ++ (match bnd bs ns[i] with | some t => [⟨ns[i], t⟩] | none => []) := by
 unfold jk0
 rw [List.take_add_one, List.getElem?_eq_getElem h, Option.toList, List.filterMap_append]
 congr 1
 cases hq : bnd bs ns[i] <;> simp [List.filterMap, hq]
theorem ft0 (bs : List GBind) (ns : List ByteArray) : (jk0 bs ns).length ≤ ns.length := List.length_filterMap_le _ _
theorem mb0 (bs : List GBind) (ns : List ByteArray) (b : GBind) (h : b ∈ jk0 bs ns) : ∃ b', b' ∈ bs ∧ b'.t = b.t := by
 obtain ⟨v, _, hv⟩ := List.mem_filterMap.1 h
 cases hq : bnd bs v with
 | none => rw [hq] at hv; cases hv
 | some t =>
  rw [hq] at hv
  obtain ⟨b', hb, rfl⟩ := vo0 bs v t hq
  refine ⟨b', hb, ?_⟩
  simp only [Option.map_some, Option.some.injEq] at hv
  rw [← hv]
theorem kU0 (bs : List GBind) (v : ByteArray) (hv : bnd bs v = none) : ∀ (ns : List ByteArray), bnd (jk0 bs ns) v = none
 | [] => rfl
 | n :: ns => by
  have ih := kU0 bs v hv ns
  simp only [jk0, List.filterMap_cons] at ih ⊢
  cases hq : bnd bs n with
  | none => exact ih
  | some t =>
   have : eqS n v = false := (eqS_ne n v).2 (fun e => by rw [e, hv] at hq; cases hq)
   simp only [Option.map_some, bnd, this, Bool.false_eq_true, if_false]
   exact ih
theorem pp0 (bs : List GBind) (v : ByteArray) : ∀ (ns : List ByteArray), v ∈ ns → bnd (jk0 bs ns) v = bnd bs v
 | [], h => by cases h
 | n :: ns, h => by
  cases hv : bnd bs v with
  | none => exact kU0 bs v hv _
  | some t =>
   simp only [jk0, List.filterMap_cons]
   by_cases e : n = v
   ·subst e
    simp only [hv, Option.map_some, bnd, (qQ0 n n).2 rfl, if_true]
   ·have ih := pp0 bs v ns (by rcases List.mem_cons.1 h with h | h; exact absurd h.symm e; exact h)
    rw [hv] at ih
    have e' : eqS n v = false := (eqS_ne n v).2 e
    cases hq : bnd bs n with
    | none => exact ih
    | some t' =>
     simp only [Option.map_some, bnd, e', Bool.false_eq_true, if_false]
     exact ih
def kc0 (t : Tm) : Prop := t.size < 540 ∧ t.cnt ≤ 60 ∧ t.wf
def qS0 (r : GRule) : Prop := kc0 r.le ∧ kc0 r.ri ∧ r.gu.length ≤ 2 ∧ ∀ g, g ∈ r.gu → kc0 g.le ∧ kc0 g.ri
theorem xU0 (t : Tm) (h : t.valid = true) (hw : t.wf) : kc0 t := by
 simp only [Tm.valid, Bool.and_eq_true, decide_eq_true_eq] at h
 have := ca0 t h.2
 exact ⟨by omega, h.1.1, hw⟩
def bt0 (r : GRule) (bs : List GBind) : List GBind := jk0 bs (qd0 (qd0 r.le.vars))
def jM0 (r : GRule) (t : Tm) : List GBind × Bool :=
 match r.le.mat t [] with
 | none => ([], false)
 | some bs => (bt0 r bs, r.gu.all fun g => qw0 (g.sub (bt0 r bs)))
def wn0 (r : GRule) (t : Tm) : Option (List GBind) :=
 match r.le.mat t [] with
 | none => none
 | some bs => if r.gu.all fun g => qw0 (g.sub bs) then some bs else none
theorem bx0 {α : Type} (p q : α → Bool) : ∀ (xs : List α), (∀ x, x ∈ xs → p x = q x) → xs.all p = xs.all q
 | [], _ => rfl
 | x :: xs, h => by
  simp only [List.all_cons]
  rw [h x (by simp), bx0 p q xs (fun y hy => h y (by simp [hy]))]
theorem zv1 (sg : GSignature) (le : Tm) (so : ByteArray) (g : GGuard) (h : wt0 sg (ze0 sg le so).1 g = true) (v : ByteArray) (hv : v ∈ g.le.vars ∨ v ∈ g.ri.vars) : v ∈ le.vars := by
 simp only [wt0, Bool.and_eq_true] at h
 obtain ⟨⟨⟨⟨⟨h1, h2⟩, h3⟩, h4⟩, h5⟩, h6⟩ := h
 simp only [Bool.not_eq_true'] at h4
 simp only [Tm.valid, Bool.and_eq_true] at h1 h2
 have h5' : eqS (g.ri.sort sg (ze0 sg le so).1) sE = false := by
  have := (qQ0 _ _).1 h5
  rw [this]; exact h4
 rcases hv with hv | hv
 ·exact ju0 sg le so v (vZ0 sg _ g.le h1.2 h4 v hv)
 ·exact ju0 sg le so v (vZ0 sg _ g.ri h2.2 h5' v hv)
theorem vQ0 (sg : GSignature) (r : GRule) (t : Tm) (h : qk0 sg r = true) : (jM0 r t).2 = (wn0 r t).isSome := by
 unfold jM0 wn0
 cases hm : r.le.mat t [] with
 | none => rfl
 | some bs =>
  simp only [qk0, Bool.and_eq_true] at h
  have hg := List.all_eq_true.1 h.2
  have : (r.gu.all fun g => qw0 (g.sub (bt0 r bs))) = r.gu.all fun g => qw0 (g.sub bs) := by
   refine bx0 _ _ _ (fun g hgm => ?_)
   have hv := zv1 sg r.le _ g (hg g hgm)
   have hb : ∀ v, v ∈ r.le.vars → bnd (bt0 r bs) v = bnd bs v := fun v hv => pp0 bs v _ ((kD0 _ v).2 ((kD0 _ v).2 hv))
   simp only [GGuard.sub]
   rw [vg0 (bt0 r bs) bs g.le (fun v hv' => hb v (hv v (.inl hv'))), vg0 (bt0 r bs) bs g.ri (fun v hv' => hb v (hv v (.inr hv')))]
  simp only [this]
  split <;> rename_i e <;> simp_all
def wx0 (p : GRule → Bool) : List GRule → Int → Int
 | [], _ => -1
 | r :: rs, k => if p r then k else wx0 p rs (k + 1)
theorem qw1 (p : GRule → Bool) (rs : List GRule) (i : Nat) (k : Int) (h : i < rs.length) : wx0 p (rs.drop i) k = if p rs[i] then k else wx0 p (rs.drop (i + 1)) (k + 1) := by
 rw [List.drop_eq_getElem_cons h]; simp only [wx0]
theorem fw0 (p q : GRule → Bool) : ∀ (rs : List GRule) (k : Int), (∀ r, r ∈ rs → p r = q r) → wx0 p rs k = wx0 q rs k
 | [], _, _ => rfl
 | r :: rs, k, h => by
  simp only [wx0]
  rw [h r (by simp), fw0 p q rs (k + 1) (fun r hr => h r (by simp [hr]))]
end Go.Ai
