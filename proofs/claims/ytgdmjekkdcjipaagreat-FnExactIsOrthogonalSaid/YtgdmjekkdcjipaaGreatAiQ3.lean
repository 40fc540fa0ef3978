/- What fires: the two sides agree. -/
import Derived.Test.YtgdmjekkdcjipaaGreatAiP3
import Derived.Test.YtgdmjekkdcjipaaGreatAiQ2
import Derived.Test.YtgdmjekkdcjipaaGreatAiH1
import Derived.Test.YtgdmjekkdcjipaaGreatAiU9
set_option linter.unusedVariables false
set_option linter.unusedSimpArgs false
namespace Go.Ai
open Go.Proofs
set_option maxRecDepth 100000
theorem qO1 (k n : Int) (s : ByteArray) (l : Nat) (h : pY0 k n s l = true) : s.size ≤ 8 := by
 unfold pY0 at h
 split at h
 ·simp only [vF1, mX0, Bool.and_eq_true, decide_eq_true_eq] at h
  omega
 ·split at h
  ·simp only [mQ0, mX0, Bool.and_eq_true, decide_eq_true_eq] at h
   omega
  ·split at h
   ·simp only [Bool.and_eq_true] at h
    have := (zw0 s sE).1 h.1.1.1
    rw [this]; decide
   ·cases h
mutual
theorem pz0 (bs bs' : List GBind) : ∀ (t : Tm), (∀ v, v ∈ t.vars → bnd bs v = bnd bs' v) → t.sub bs = t.sub bs'
 | .mk k n s ts, h => by
  have ih := subs_congr bs bs' ts (fun v hv => h v (by simp only [Tm.vars]; exact List.mem_append_right _ hv))
  simp only [Tm.sub]
  split
  ·rename_i hk
   rw [h s (by simp only [Tm.vars, hk, if_true]; simp), ih]
  ·rw [ih]
theorem subs_congr (bs bs' : List GBind) : ∀ (ts : List Tm), (∀ v, v ∈ Tm.varss ts → bnd bs v = bnd bs' v) → Tm.subs bs ts = Tm.subs bs' ts
 | [], _ => rfl
 | a :: ts, h => by
  simp only [Tm.subs]
  rw [pz0 bs bs' a (fun v hv => h v (by simp only [Tm.varss]; exact List.mem_append_left _ hv)), subs_congr bs bs' ts (fun v hv => h v (by simp only [Tm.varss]; exact List.mem_append_right _ hv))]
end
def qK0 (bs : List GBind) (ns : List ByteArray) : List GBind := ns.filterMap fun v => (bnd bs v).map fun t => ⟨v, t⟩
theorem bF0 (bs : List GBind) (ns : List ByteArray) (i : Nat) (h : i < ns.length) : qK0 bs (ns.take (i + 1)) = qK0 bs (ns.take i) ++ (match bnd bs ns[i] with | some t => [⟨ns[i], t⟩] | none => []) := by
 unfold qK0
 rw [List.take_add_one, List.getElem?_eq_getElem h, Option.toList, List.filterMap_append]
 congr 1
 cases hq : bnd bs ns[i] <;> simp [List.filterMap, hq]
theorem kk0 (bs : List GBind) (ns : List ByteArray) : (qK0 bs ns).length ≤ ns.length := List.length_filterMap_le _ _
theorem qi1 (bs : List GBind) (ns : List ByteArray) (b : GBind) (h : b ∈ qK0 bs ns) : ∃ b', b' ∈ bs ∧ b'.t = b.t := by
 obtain ⟨v, _, hv⟩ := List.mem_filterMap.1 h
 cases hq : bnd bs v with
 | none => rw [hq] at hv; cases hv
 | some t =>
  rw [hq] at hv
  obtain ⟨b', hb, rfl⟩ := lc0 bs v t hq
  refine ⟨b', hb, ?_⟩
  simp only [Option.map_some, Option.some.injEq] at hv
  rw [← hv]
theorem jo0 (bs : List GBind) (v : ByteArray) (hv : bnd bs v = none) : ∀ (ns : List ByteArray), bnd (qK0 bs ns) v = none
 | [] => rfl
 | n :: ns => by
  have ih := jo0 bs v hv ns
  simp only [qK0, List.filterMap_cons] at ih ⊢
  cases hq : bnd bs n with
  | none => exact ih
  | some t =>
   have : eqS n v = false := (dU0 n v).2 (fun e => by rw [e, hv] at hq; cases hq)
   simp only [Option.map_some, bnd, this, Bool.false_eq_true, if_false]
   exact ih
theorem xz0 (bs : List GBind) (v : ByteArray) : ∀ (ns : List ByteArray), v ∈ ns → bnd (qK0 bs ns) v = bnd bs v
 | [], h => by cases h
 | n :: ns, h => by
  cases hv : bnd bs v with
  | none => exact jo0 bs v hv _
  | some t =>
   simp only [qK0, List.filterMap_cons]
   by_cases e : n = v
   ·subst e
    simp only [hv, Option.map_some, bnd, (zw0 n n).2 rfl, if_true]
   ·have ih := xz0 bs v ns (by rcases List.mem_cons.1 h with h | h; exact absurd h.symm e; exact h)
    rw [hv] at ih
    have e' : eqS n v = false := (dU0 n v).2 e
    cases hq : bnd bs n with
    | none => exact ih
    | some t' =>
     simp only [Option.map_some, bnd, e', Bool.false_eq_true, if_false]
     exact ih
def xj1 (t : Tm) : Prop := t.size < 540 ∧ t.cnt ≤ 60 ∧ t.wf
def dk1 (r : GRule) : Prop := xj1 r.le ∧ xj1 r.ri ∧ r.gu.length ≤ 2 ∧ ∀ g, g ∈ r.gu → xj1 g.le ∧ xj1 g.ri
def xK1 (r : GRule) (bs : List GBind) : List GBind := qK0 bs (zr0 (zr0 r.le.vars))
def dv1 (r : GRule) (t : Tm) : List GBind × Bool :=
 match r.le.mat t [] with
 | none => ([], false)
 | some bs => (xK1 r bs, r.gu.all fun g => jK1 (g.sub (xK1 r bs)))
def du1 (r : GRule) (t : Tm) : Option (List GBind) :=
 match r.le.mat t [] with
 | none => none
 | some bs => if r.gu.all fun g => jK1 (g.sub bs) then some bs else none
def bG1 (p : GRule → Bool) : List GRule → Int → Int
 | [], _ => -1
 | r :: rs, k => if p r then k else bG1 p rs (k + 1)
end Go.Ai
