/- Unification: how large it grows. -/
import Derived.Test.YtgdmjekkdcjipaaGreatAiUN1
import Derived.Test.YtgdmjekkdcjipaaGreatAiI5
set_option linter.unusedVariables false
set_option linter.unusedSimpArgs false
namespace Go.Ai
open Go.Proofs
set_option maxRecDepth 100000
def wfE (es : List (Tm × Tm)) : Prop := ∀ e, e ∈ es → e.1.wf ∧ e.2.wf
def xR1 (s : List GBind) : Prop := ∀ x, x ∈ s → x.t.wf
theorem jC1 : ∀ (t : Tm), t.wf → ∀ u, u ∈ t.ars → u.wf
 | .mk _ _ _ ts, h => fun u hu => (kM0 ts).1 h.2.2.2.2 u hu
theorem nT0 (s : List GBind) (v : ByteArray) (T : Tm) (q : GBind) (h : q ∈ comp s [⟨v, T⟩]) : (∃ x, x ∈ s ∧ q.t = x.t.sub [⟨v, T⟩]) ∨ q.t = T := by
 unfold comp at h
 rcases List.mem_append.1 h with h | h
 ·obtain ⟨x, hx, rfl⟩ := List.mem_map.1 h
  exact .inl ⟨x, hx, rfl⟩
 ·have := (List.mem_filter.1 h).1
  rw [List.mem_singleton] at this
  exact .inr (by rw [this])
theorem lm0 (s : List GBind) (v : ByteArray) (T : Tm) : (comp s [⟨v, T⟩]).length ≤ s.length + 1 := by
 unfold comp
 have := List.length_filter_le (fun y : GBind => (bnd s y.na).isNone) [⟨v, T⟩]
 simp only [List.length_append, List.length_map, List.length_cons, List.length_nil] at *; omega
theorem xG0 {s s' : List GBind} {X Y : Tm} {more : List (Tm × Tm)} (h : wM0 s X Y = some (s', more)) :
  (s' = s ∧ more = []) ∨ (∃ v T, (T = X ∨ T = Y) ∧ s' = comp s [⟨v, T⟩] ∧ more = []) ∨ (s' = s ∧ more = X.ars.zip Y.ars) := by
 have hb : ∀ v T, yN0 s v T = some (s', more) → s' = comp s [⟨v, T⟩] ∧ more = [] := fun v T hq => by
  unfold yN0 at hq
  split at hq
  ·cases hq
  ·have := Option.some.inj hq
   exact ⟨(congrArg Prod.fst this).symm, (congrArg Prod.snd this).symm⟩
 unfold wM0 at h
 split at h
 ·have := Option.some.inj h
  exact .inl ⟨(congrArg Prod.fst this).symm, (congrArg Prod.snd this).symm⟩
 ·split at h
  ·exact .inr (.inl ⟨_, Y, .inr rfl, hb _ _ h⟩)
  ·split at h
   ·exact .inr (.inl ⟨_, X, .inl rfl, hb _ _ h⟩)
   ·split at h
    ·have := Option.some.inj h
     exact .inr (.inr ⟨(congrArg Prod.fst this).symm, (congrArg Prod.snd this).symm⟩)
    ·cases h
theorem rT0 {x y : Tm} {es : List (Tm × Tm)} {s s' : List GBind} {more : List (Tm × Tm)} (he : wfE ((x, y) :: es)) (hs : xR1 s) (ht : qP0 s x y = some (s', more)) : wfE (more ++ es) ∧ xR1 s' := by
 have h0 := he (x, y) List.mem_cons_self
 have hX := bN0 s hs x h0.1
 have hY := bN0 s hs y h0.2
 have hes : wfE es := fun e h => he e (List.mem_cons_of_mem _ h)
 rcases xG0 ht with ⟨rfl, rfl⟩ | ⟨v, T, hT, rfl, rfl⟩ | ⟨rfl, rfl⟩
 ·exact ⟨hes, hs⟩
 ·have hTw : T.wf := by rcases hT with rfl | rfl <;> assumption
  refine ⟨hes, fun q hq => ?_⟩
  rcases nT0 s v T q hq with ⟨z, hz, e⟩ | e
  ·rw [e]
   exact bN0 _ (fun b hb => by rw [List.mem_singleton] at hb; rw [hb]; exact hTw) _ (hs z hz)
  ·rw [e]; exact hTw
 ·refine ⟨fun e h => ?_, hs⟩
  rcases List.mem_append.1 h with h | h
  ·exact ⟨jC1 _ hX _ (List.of_mem_zip h).1, jC1 _ hY _ (List.of_mem_zip h).2⟩
  ·exact hes e h
theorem UI.cntR_le {a b : Tm} {VS : List ByteArray} {es : List (Tm × Tm)} {s : List GBind} (h : UI a b VS es s) (hb : okN b) (hbc : b.cnt ≤ 60) : (es.map fun e => (e.2.sub s).cnt).sum ≤ 24000 := by
 have h1 := h.sumR []
 simp only [kK0] at h1
 have h2 := jX0 s 400 (by decide) (fun v u hv => (h.sokB v u hv).2) b hb
 have h3 : b.cnt * 400 ≤ 60 * 400 := Nat.mul_le_mul_right 400 hbc
 exact Nat.le_trans h1 (Nat.le_trans h2 h3)
theorem rS0 {a b : Tm} {VS : List ByteArray} {x y : Tm} {es : List (Tm × Tm)} {s s' : List GBind} {more : List (Tm × Tm)} (h : UI a b VS ((x, y) :: es) s) (ha : okN a) (hac : a.cnt ≤ 60) (hb : okN b) (hbc : b.cnt ≤ 60) (ht : qP0 s x y = some (s', more)) :
  s'.length ≤ s.length + 1 ∧ ∀ q, q ∈ s' → q.t.size < 100000000 := by
 have hl := h.cntE_le ha hac
 have hr := h.cntR_le hb hbc
 simp only [ww1, List.map_cons, List.sum_cons] at hl hr
 have hok := yu1 h ht
 have hold : ∀ q, q ∈ s → q.t.size < 100000000 := fun q hq => by
  have h1 := h.sok q hq
  have := zS0 q.t h1.1
  omega
 rcases xG0 ht with ⟨rfl, rfl⟩ | ⟨v, T, hT, rfl, rfl⟩ | ⟨rfl, rfl⟩
 ·exact ⟨by omega, hold⟩
 ·have hTc : T.cnt ≤ 24000 := by rcases hT with rfl | rfl <;> omega
  refine ⟨lm0 s v T, fun q hq => ?_⟩
  have hq0 := zS0 q.t (hok q hq)
  rcases nT0 s v T q hq with ⟨z, hz, e⟩ | e
  ·have h1 := h.sok z hz
   have h2 := jX0 [⟨v, T⟩] 24000 (by decide) (fun w u hw => by
    simp only [bnd] at hw
    split at hw
    ·cases hw; exact hTc
    ·cases hw) z.t h1.1
   have h3 : z.t.cnt * 24000 ≤ 400 * 24000 := Nat.mul_le_mul_right _ h1.2.2
   rw [e] at hq0 ⊢
   omega
  ·rw [e] at hq0 ⊢
   omega
 ·exact ⟨by omega, hold⟩
theorem vi0 : ∀ (es : List (Tm × Tm)) (f : Tm × Tm → Nat), (∀ e, 1 ≤ f e) → es.length ≤ (es.map f).sum
 | [], _, _ => Nat.zero_le _
 | e :: es, f, h => by have := vi0 es f h; have := h e; simp only [List.map_cons, List.sum_cons, List.length_cons]; omega
theorem UI.sizes {a b : Tm} {VS : List ByteArray} {x y : Tm} {es : List (Tm × Tm)} {s : List GBind} (h : UI a b VS ((x, y) :: es) s) (ha : okN a) (hac : a.cnt ≤ 60) (hb : okN b) (hbc : b.cnt ≤ 60) :
  x.size < 1000000 ∧ y.size < 1000000 ∧ (x.sub s).size < 1000000 ∧ (y.sub s).size < 1000000 ∧ es.length ≤ 24000 ∧ ∀ q, q ∈ s → q.t.size < 1048577 := by
 have hl := h.cntE_le ha hac
 have hr := h.cntR_le hb hbc
 have hlen := vi0 ((x, y) :: es) (fun e => (e.1.sub s).cnt) (fun e => ba0 _)
 simp only [ww1] at hl
 simp only [List.length_cons] at hlen
 have hln : es.length ≤ 24000 := by omega
 simp only [List.map_cons, List.sum_cons] at hl hr
 have ho := h.ok (x, y) List.mem_cons_self
 have hso : ∀ v u, bnd s v = some u → okN u := fun v u hv => (h.sokB v u hv).1
 have h1 := zS0 _ (jM0 s hso x ho.1)
 have h2 := zS0 _ (jM0 s hso y ho.2)
 have h3 := vL0 s x ho.1
 have h4 := vL0 s y ho.2
 have h5 := zS0 x ho.1
 have h6 := zS0 y ho.2
 refine ⟨by omega, by omega, by omega, by omega, hln, fun q hq => ?_⟩
 have h7 := h.sok q hq
 have := zS0 q.t h7.1
 omega
end Go.Ai
