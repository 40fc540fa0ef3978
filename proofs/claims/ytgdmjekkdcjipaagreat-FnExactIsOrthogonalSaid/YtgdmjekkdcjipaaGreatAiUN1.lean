/- Unification: what it computes, and that it ends. -/
import Derived.Test.YtgdmjekkdcjipaaGreatAiQ3
import Derived.Test.YtgdmjekkdcjipaaGreatAiW1
set_option linter.unusedVariables false
set_option linter.unusedSimpArgs false
namespace Go.Ai
open Go.Proofs
set_option maxRecDepth 100000
def comp (a b : List GBind) : List GBind := a.map (fun x => ⟨x.na, x.t.sub b⟩) ++ b.filter (fun y => (bnd a y.na).isNone)
theorem ty0 (b : List GBind) (v : ByteArray) : ∀ (a : List GBind), bnd (a.map fun x => (⟨x.na, x.t.sub b⟩ : GBind)) v = (bnd a v).map (Tm.sub b)
 | [] => rfl
 | x :: a => by
  simp only [List.map_cons, bnd]
  split
  ·rfl
  ·exact ty0 b v a
theorem tx0 (v : ByteArray) (b : List GBind) : ∀ (a : List GBind), bnd (a ++ b) v = match bnd a v with
  | some t => some t
  | none => bnd b v
 | [] => rfl
 | x :: a => by
  simp only [List.cons_append, bnd]
  split
  ·rfl
  ·exact tx0 v b a
theorem vK0 (a : List GBind) (v : ByteArray) (h : bnd a v = none) : ∀ (b : List GBind), bnd (b.filter fun y => (bnd a y.na).isNone) v = bnd b v
 | [] => rfl
 | x :: b => by
  rw [List.filter_cons]
  by_cases hx : eqS x.na v = true
  ·have e : x.na = v := (zw0 _ _).1 hx
   have hn : (bnd a x.na).isNone = true := by rw [e, h]; rfl
   rw [if_pos hn]
   simp only [bnd, if_pos hx]
  ·by_cases hn : (bnd a x.na).isNone = true
   ·rw [if_pos hn]
    simp only [bnd, if_neg hx]
    exact vK0 a v h b
   ·rw [if_neg hn]
    simp only [bnd, if_neg hx]
    exact vK0 a v h b
theorem jY0 (a b : List GBind) (v : ByteArray) : bnd (comp a b) v = match bnd a v with
  | some t => some (t.sub b)
  | none => bnd b v := by
 unfold comp
 rw [tx0, ty0]
 cases h : bnd a v with
 | some t => rfl
 | none => exact vK0 a v h b
theorem rM0 (a b : List GBind) : ∀ (t : Tm), (t.sub a).sub b = t.sub (comp a b) := by
 refine Tm.ind (fun k n s ts ih => ?_)
 have hts : Tm.subs b (Tm.subs a ts) = Tm.subs (comp a b) ts := by
  rw [zv0, zv0, zv0, List.map_map]
  exact List.map_congr_left (fun t ht => ih t ht)
 by_cases hk : k = 1
 ·subst hk
  cases h : bnd a s with
  | some u => rw [yq0 a n s ts u h, yq0 (comp a b) n s ts (u.sub b) (by rw [jY0, h])]
  | none =>
   rw [zz0 a 1 n s ts (fun _ => h)]
   cases h2 : bnd b s with
   | some u => rw [yq0 b n s _ u h2, yq0 (comp a b) n s ts u (by rw [jY0, h]; exact h2)]
   | none => rw [zz0 b 1 n s _ (fun _ => h2), zz0 (comp a b) 1 n s ts (fun _ => by rw [jY0, h]; exact h2), hts]
 ·rw [zz0 a k n s ts (fun h => absurd h hk), zz0 b k n s _ (fun h => absurd h hk), zz0 (comp a b) k n s ts (fun h => absurd h hk), hts]
theorem kK0 : ∀ (t : Tm), t.sub [] = t := by
 refine Tm.ind (fun k n s ts ih => ?_)
 rw [zz0 [] k n s ts (fun _ => rfl), zv0]
 congr 1
 rw [List.map_congr_left (g := id) (fun t ht => ih t ht), List.map_id]
theorem qI1 {ts : List Tm} {w : ByteArray} : w ∈ Tm.varss ts ↔ ∃ t, t ∈ ts ∧ w ∈ t.vars := by
 induction ts with
 | nil => simp [Tm.varss]
 | cons a ts ih => simp only [Tm.varss, List.mem_append, ih, List.mem_cons]; constructor
                   ·rintro (h | ⟨t, h1, h2⟩)
                    ·exact ⟨a, .inl rfl, h⟩
                    ·exact ⟨t, .inr h1, h2⟩
                   ·rintro ⟨t, rfl | h1, h2⟩
                    ·exact .inl h2
                    ·exact .inr ⟨t, h1, h2⟩
theorem mem_vars {k n : Int} {s : ByteArray} {ts : List Tm} {w : ByteArray} : w ∈ (Tm.mk k n s ts).vars ↔ (k = 1 ∧ w = s) ∨ ∃ t, t ∈ ts ∧ w ∈ t.vars := by
 simp only [Tm.vars, List.mem_append, qI1]
 by_cases hk : k = 1
 ·subst hk; simp
 ·have : (k == 1) = false := by simpa using hk
  simp [this, hk]
theorem ci0 (bs : List GBind) : ∀ (t : Tm) (w : ByteArray), w ∈ (t.sub bs).vars → (w ∈ t.vars ∧ bnd bs w = none) ∨ ∃ v u, v ∈ t.vars ∧ bnd bs v = some u ∧ w ∈ u.vars := by
 refine Tm.ind (fun k n s ts ih w hw => ?_)
 by_cases hc : k = 1 ∧ (bnd bs s).isSome = true
 ·obtain ⟨rfl, h⟩ := hc
  obtain ⟨u, hu⟩ := Option.isSome_iff_exists.1 h
  rw [yq0 bs n s ts u hu] at hw
  exact .inr ⟨s, u, mem_vars.2 (.inl ⟨rfl, rfl⟩), hu, hw⟩
 ·have hn : k = 1 → bnd bs s = none := fun hk => by
   cases h : bnd bs s with
   | none => rfl
   | some u => exact absurd ⟨hk, by rw [h]; rfl⟩ hc
  rw [zz0 bs k n s ts hn, mem_vars] at hw
  rcases hw with ⟨h1, rfl⟩ | ⟨t, h1, h2⟩
  ·exact .inl ⟨mem_vars.2 (.inl ⟨h1, rfl⟩), hn h1⟩
  ·rw [zv0] at h1
   obtain ⟨t', h3, rfl⟩ := List.mem_map.1 h1
   rcases ih t' h3 w h2 with ⟨h4, h5⟩ | ⟨v, u, h4, h5⟩
   ·exact .inl ⟨mem_vars.2 (.inr ⟨t', h3, h4⟩), h5⟩
   ·exact .inr ⟨v, u, mem_vars.2 (.inr ⟨t', h3, h4⟩), h5⟩
theorem xL1 (bs : List GBind) (t : Tm) (h : ∀ w, w ∈ t.vars → bnd bs w = none) : t.sub bs = t := by
 rw [pz0 bs [] t (fun v hv => by rw [h v hv]; rfl), kK0]
mutual
def okN : Tm → Prop
 | .mk k n s ts => (k ≠ 2 → ts = []) ∧ (k = 1 → n = 0) ∧ s.size ≤ 9 ∧ okNs ts
def okNs : List Tm → Prop
 | [] => True
 | a :: ts => okN a ∧ okNs ts
end
theorem yU1 {n : Int} {z : ByteArray} {ts : List Tm} (h : okN (.mk 1 n z ts)) : ts = [] ∧ n = 0 := ⟨h.1 (by decide), h.2.1 rfl⟩
theorem okNs_iff : ∀ {ts : List Tm}, okNs ts ↔ ∀ t, t ∈ ts → okN t
 | [] => by simp [okNs]
 | a :: ts => by simp only [okNs, okNs_iff (ts := ts), List.mem_cons]; exact ⟨fun ⟨h1, h2⟩ t ht => ht.elim (fun e => e ▸ h1) (h2 t), fun h => ⟨h a (.inl rfl), fun t ht => h t (.inr ht)⟩⟩
mutual
theorem zS0 : ∀ (t : Tm), okN t → t.size + 1 ≤ 10 * t.cnt
 | .mk k n s ts, h => by
  have h2 := okNs_size ts h.2.2.2
  have := h.2.2.1
  simp only [Tm.size, Tm.cnt]; omega
theorem okNs_size : ∀ (ts : List Tm), okNs ts → Tm.sizes ts ≤ 10 * Tm.cnts ts
 | [], _ => by simp [Tm.sizes, Tm.cnts]
 | a :: ts, h => by
  have h1 := zS0 a h.1
  have h2 := okNs_size ts h.2
  simp only [Tm.sizes, Tm.cnts]; omega
end
theorem jM0 (bs : List GBind) (hb : ∀ v u, bnd bs v = some u → okN u) : ∀ (t : Tm), okN t → okN (t.sub bs) := by
 refine Tm.ind (fun k n s ts ih h => ?_)
 by_cases hc : k = 1 ∧ (bnd bs s).isSome = true
 ·obtain ⟨rfl, hi⟩ := hc
  obtain ⟨u, hu⟩ := Option.isSome_iff_exists.1 hi
  rw [yq0 bs n s ts u hu]
  exact hb s u hu
 ·have hn : k = 1 → bnd bs s = none := fun hk => by
   cases h : bnd bs s with
   | none => rfl
   | some u => exact absurd ⟨hk, by rw [h]; rfl⟩ hc
  rw [zz0 bs k n s ts hn]
  refine ⟨fun hk => by rw [h.1 hk]; rfl, h.2.1, h.2.2.1, okNs_iff.2 (fun t ht => ?_)⟩
  rw [zv0] at ht
  obtain ⟨t', h3, rfl⟩ := List.mem_map.1 ht
  exact ih t' h3 (okNs_iff.1 h.2.2.2 t' h3)
theorem ba0 (t : Tm) : 1 ≤ t.cnt := by cases t; simp only [Tm.cnt]; omega
mutual
theorem vL0 (bs : List GBind) : ∀ (t : Tm), okN t → t.cnt ≤ (t.sub bs).cnt
 | .mk k n s ts, h => by
  have ih := cnts_sub_ge bs ts h.2.2.2
  by_cases hk : k = 1
  ·subst hk
   obtain ⟨rfl, _⟩ := yU1 h
   simp only [Tm.cnt, Tm.cnts]
   exact ba0 _
  ·rw [zz0 bs k n s ts (fun h => absurd h hk)]
   simp only [Tm.cnt]; omega
theorem cnts_sub_ge (bs : List GBind) : ∀ (ts : List Tm), okNs ts → Tm.cnts ts ≤ Tm.cnts (Tm.subs bs ts)
 | [], _ => by simp [Tm.cnts, Tm.subs]
 | a :: ts, h => by
  have h1 := vL0 bs a h.1
  have h2 := cnts_sub_ge bs ts h.2
  simp only [Tm.subs, Tm.cnts]; omega
end
mutual
theorem jX0 (bs : List GBind) (K : Nat) (hK : 1 ≤ K) (hb : ∀ v u, bnd bs v = some u → u.cnt ≤ K) : ∀ (t : Tm), okN t → (t.sub bs).cnt ≤ t.cnt * K
 | .mk k n s ts, h => by
  have ih := cnts_sub_le bs K hK hb ts h.2.2.2
  by_cases hc : k = 1 ∧ (bnd bs s).isSome = true
  ·obtain ⟨rfl, hi⟩ := hc
   obtain ⟨u, hu⟩ := Option.isSome_iff_exists.1 hi
   rw [yq0 bs n s ts u hu]
   have := hb s u hu
   simp only [Tm.cnt, Nat.add_mul, Nat.one_mul]; omega
  ·rw [zz0 bs k n s ts (fun hk => by
    cases h : bnd bs s with
    | none => rfl
    | some u => exact absurd ⟨hk, by rw [h]; rfl⟩ hc)]
   simp only [Tm.cnt, Nat.add_mul, Nat.one_mul]; omega
theorem cnts_sub_le (bs : List GBind) (K : Nat) (hK : 1 ≤ K) (hb : ∀ v u, bnd bs v = some u → u.cnt ≤ K) : ∀ (ts : List Tm), okNs ts → Tm.cnts (Tm.subs bs ts) ≤ Tm.cnts ts * K
 | [], _ => by simp [Tm.cnts, Tm.subs]
 | a :: ts, h => by
  have h1 := jX0 bs K hK hb a h.1
  have h2 := cnts_sub_le bs K hK hb ts h.2
  simp only [Tm.subs, Tm.cnts, Nat.add_mul]; omega
end
def Tm.kd : Tm → Int | .mk k _ _ _ => k
def Tm.nm : Tm → ByteArray | .mk _ _ s _ => s
def Tm.ars : Tm → List Tm | .mk _ _ _ ts => ts
def yS1 (v : ByteArray) (T : Tm) : Bool := T.vars.any fun w => eqS w v
theorem occB_iff {v : ByteArray} {T : Tm} : yS1 v T = true ↔ v ∈ T.vars := by
 unfold yS1
 rw [List.any_eq_true]
 exact ⟨fun ⟨w, h1, h2⟩ => (zw0 _ _).1 h2 ▸ h1, fun h => ⟨v, h, (zw0 _ _).2 rfl⟩⟩
def yN0 (s : List GBind) (v : ByteArray) (T : Tm) : Option (List GBind × List (Tm × Tm)) := if yS1 v T then none else some (comp s [⟨v, T⟩], [])
def wM0 (s : List GBind) (X Y : Tm) : Option (List GBind × List (Tm × Tm)) :=
 if X.eqb Y then some (s, [])
 else if X.kd = 1 then yN0 s X.nm Y
 else if Y.kd = 1 then yN0 s Y.nm X
 else if X.kd = 2 ∧ Y.kd = 2 ∧ eqS X.nm Y.nm = true ∧ X.ars.length = Y.ars.length then some (s, X.ars.zip Y.ars) else none
def qP0 (s : List GBind) (x y : Tm) : Option (List GBind × List (Tm × Tm)) := wM0 s (x.sub s) (y.sub s)
def qn0 (s : List GBind) : Bool := s.any fun b => decide (400 < b.t.cnt)
def yF0 : Nat → List (Tm × Tm) → List GBind → Option (List GBind)
 | 0, _, _ => none
 | _ + 1, [], s => some s
 | n + 1, (x, y) :: rest, s => match qP0 s x y with
  | none => none
  | some (s', more) => if qn0 s' then none else yF0 n (more ++ rest) s'
def mB0 (VS : List ByteArray) (s : List GBind) : Nat := (VS.filter fun w => (bnd s w).isNone).length
def ww1 (s : List GBind) (es : List (Tm × Tm)) : Nat := (es.map fun e => (e.1.sub s).cnt).sum
def muU (VS : List ByteArray) (es : List (Tm × Tm)) (s : List GBind) : Nat := mB0 VS s * 30000 + ww1 s es
structure UI (a b : Tm) (VS : List ByteArray) (es : List (Tm × Tm)) (s : List GBind) : Prop where
 ok : ∀ e, e ∈ es → okN e.1 ∧ okN e.2
 sok : ∀ x, x ∈ s → okN x.t ∧ x.na.size ≤ 9 ∧ x.t.cnt ≤ 400
 idem : ∀ v u, bnd s v = some u → ∀ w, w ∈ u.vars → bnd s w = none
 vs : ∀ e, e ∈ es → (∀ w, w ∈ (e.1.sub s).vars → w ∈ VS) ∧ ∀ w, w ∈ (e.2.sub s).vars → w ∈ VS
 sumL : ∀ σ : List GBind, (es.map fun e => ((e.1.sub s).sub σ).cnt).sum ≤ ((a.sub s).sub σ).cnt
 sumR : ∀ σ : List GBind, (es.map fun e => ((e.2.sub s).sub σ).cnt).sum ≤ ((b.sub s).sub σ).cnt
 len : s.length + mB0 VS s ≤ VS.length
theorem ws1 (bs : List GBind) (v : ByteArray) (t : Tm) (h : bnd bs v = some t) : ∃ b, b ∈ bs ∧ b.na = v ∧ b.t = t := by
 induction bs with
 | nil => cases h
 | cons x bs ih =>
  simp only [bnd] at h
  split at h
  ·rename_i hx
   exact ⟨x, List.mem_cons_self, (zw0 _ _).1 hx, by simpa using h⟩
  ·obtain ⟨b, h1, h2⟩ := ih h
   exact ⟨b, List.mem_cons_of_mem _ h1, h2⟩
theorem UI.sokB {a b : Tm} {VS : List ByteArray} {es : List (Tm × Tm)} {s : List GBind} (h : UI a b VS es s) (v : ByteArray) (u : Tm) (hv : bnd s v = some u) : okN u ∧ u.cnt ≤ 400 := by
 obtain ⟨x, h1, _, rfl⟩ := ws1 s v u hv
 exact ⟨(h.sok x h1).1, (h.sok x h1).2.2⟩
theorem rN0 {s : List GBind} (h : ∀ v u, bnd s v = some u → ∀ w, w ∈ u.vars → bnd s w = none) (t : Tm) : (t.sub s).sub s = t.sub s := by
 refine xL1 s _ (fun w hw => ?_)
 rcases ci0 s t w hw with ⟨_, h2⟩ | ⟨v, u, _, h2, h3⟩
 ·exact h2
 ·exact h v u h2 w h3
theorem gy0 {s : List GBind} (h : ∀ v u, bnd s v = some u → ∀ w, w ∈ u.vars → bnd s w = none) (t : Tm) (w : ByteArray) (hw : w ∈ (t.sub s).vars) : bnd s w = none := by
 rcases ci0 s t w hw with ⟨_, h2⟩ | ⟨v, u, _, h2, h3⟩
 ·exact h2
 ·exact h v u h2 w h3
theorem sum_cons (x : Nat) (xs : List Nat) : (x :: xs).sum = x + xs.sum := rfl
theorem bc0 : ∀ (ts : List Tm), Tm.cnts ts = (ts.map Tm.cnt).sum
 | [] => rfl
 | a :: ts => by simp only [Tm.cnts, List.map_cons, sum_cons, bc0 ts]
theorem zY1 {p q : ByteArray → Bool} (v : ByteArray) (hp : p v = true) (hq : q v = false) (hi : ∀ w, q w = true → p w = true) : ∀ (xs : List ByteArray), v ∈ xs → (xs.filter q).length < (xs.filter p).length := by
 have hle : ∀ (xs : List ByteArray), (xs.filter q).length ≤ (xs.filter p).length := by
  intro xs
  induction xs with
  | nil => simp
  | cons x xs ih =>
   simp only [List.filter_cons]
   by_cases h : q x = true
   ·rw [if_pos h, if_pos (hi x h)]; simp only [List.length_cons]; omega
   ·rw [if_neg h]
    split
    ·simp only [List.length_cons]; omega
    ·exact ih
 intro xs
 induction xs with
 | nil => intro h; cases h
 | cons x xs ih =>
  intro h
  simp only [List.filter_cons]
  rcases List.mem_cons.1 h with rfl | h
  ·rw [if_pos hp, if_neg (by rw [hq]; decide)]
   have := hle xs
   simp only [List.length_cons]; omega
  ·have := ih h
   by_cases hx : q x = true
   ·rw [if_pos hx, if_pos (hi x hx)]; simp only [List.length_cons]; omega
   ·rw [if_neg hx]
    split
    ·simp only [List.length_cons]; omega
    ·exact this
theorem UI.cntE_le {a b : Tm} {VS : List ByteArray} {es : List (Tm × Tm)} {s : List GBind} (h : UI a b VS es s) (ha : okN a) (hac : a.cnt ≤ 60) : ww1 s es ≤ 24000 := by
 have h1 := h.sumL []
 simp only [kK0] at h1
 have h2 := jX0 s 400 (by decide) (fun v u hv => (h.sokB v u hv).2) a ha
 have h3 : a.cnt * 400 ≤ 60 * 400 := Nat.mul_le_mul_right 400 hac
 exact Nat.le_trans h1 (Nat.le_trans h2 h3)
theorem UI.bind {a b : Tm} {VS : List ByteArray} {x y : Tm} {es : List (Tm × Tm)} {s s' : List GBind} {more : List (Tm × Tm)} (h : UI a b VS ((x, y) :: es) s) (v : ByteArray) (T z : Tm) (hv : v ∈ (z.sub s).vars) (hvs : v ∈ VS) (h9 : v.size ≤ 9) (hT : ∃ t : Tm, T = t.sub s) (hTo : okN T) (hTv : ∀ w, w ∈ T.vars → w ∈ VS) (ha : okN a) (hac : a.cnt ≤ 60)
  (hb : yN0 s v T = some (s', more)) (hl : qn0 s' = false) : UI a b VS (more ++ es) s' ∧ muU VS (more ++ es) s' < mB0 VS s * 30000 := by
 unfold yN0 at hb
 split at hb
 ·cases hb
 rename_i hocc
 replace hocc : v ∉ T.vars := fun h => hocc (occB_iff.2 h)
 obtain ⟨rfl, rfl⟩ := Prod.mk.inj (Option.some.inj hb)
 obtain ⟨t, rfl⟩ := hT
 have hvn : bnd s v = none := gy0 h.idem z v hv
 have h1 : ∀ w, bnd [(⟨v, t.sub s⟩ : GBind)] w = if eqS v w then some (t.sub s) else none := fun w => rfl
 have hne : ∀ w, w ≠ v → bnd [(⟨v, t.sub s⟩ : GBind)] w = none := fun w hw => by rw [h1, if_neg (fun e => hw ((zw0 _ _).1 e).symm)]
 have heq : bnd [(⟨v, t.sub s⟩ : GBind)] v = some (t.sub s) := by rw [h1, if_pos ((zw0 _ _).2 rfl)]
 have hTn : ∀ w, w ∈ (t.sub s).vars → bnd s w = none := gy0 h.idem t
 -- variables of what is substituted once more
 have hvars : ∀ (u : Tm) (w : ByteArray), w ∈ (u.sub [(⟨v, t.sub s⟩ : GBind)]).vars → (w ∈ u.vars ∧ w ≠ v) ∨ w ∈ (t.sub s).vars := fun u w hw => by
  rcases ci0 _ u w hw with ⟨a1, a2⟩ | ⟨v', u', a1, a2, a3⟩
  ·exact .inl ⟨a1, fun e => by rw [e, heq] at a2; cases a2⟩
  ·rw [h1] at a2
   split at a2
   ·cases a2; exact .inr a3
   ·cases a2
 have hmem : ∀ x : GBind, x ∈ comp s [⟨v, t.sub s⟩] → (∃ x0, x0 ∈ s ∧ x.na = x0.na ∧ x.t = x0.t.sub [⟨v, t.sub s⟩]) ∨ x = ⟨v, t.sub s⟩ := fun x hx => by
  unfold comp at hx
  rcases List.mem_append.1 hx with hx | hx
  ·obtain ⟨x0, h0, rfl⟩ := List.mem_map.1 hx
   exact .inl ⟨x0, h0, rfl, rfl⟩
  ·right
   have := (List.mem_filter.1 hx).1
   simpa using this
 have hsm : ∀ u : Tm, u.sub (comp s [⟨v, t.sub s⟩]) = (u.sub s).sub [⟨v, t.sub s⟩] := fun u => (rM0 s _ u).symm
 have hbs : ∀ σ : List GBind, ∀ u : Tm, (u.sub (comp s [⟨v, t.sub s⟩])).sub σ = (u.sub s).sub (comp [⟨v, t.sub s⟩] σ) := fun σ u => by rw [hsm, rM0]
 have hfree : mB0 VS (comp s [⟨v, t.sub s⟩]) + 1 ≤ mB0 VS s := by
  refine zY1 (p := fun w => (bnd s w).isNone) (q := fun w => (bnd (comp s [⟨v, t.sub s⟩]) w).isNone) v (by rw [hvn]; rfl) (by rw [jY0, hvn]; simp only [heq]; rfl) (fun w hw => ?_) VS hvs
  rw [jY0] at hw
  cases hq : bnd s w with
  | none => rfl
  | some u => rw [hq] at hw; simp at hw
 have hfl : (([(⟨v, t.sub s⟩ : GBind)]).filter fun y => (bnd s y.na).isNone) = [⟨v, t.sub s⟩] := by simp [hvn]
 have hU : UI a b VS es (comp s [⟨v, t.sub s⟩]) := by
  refine ⟨fun e he => h.ok e (List.mem_cons_of_mem _ he), fun x hx => ?_, fun v' u hv' w hw => ?_, fun e he => ?_, fun σ => ?_, fun σ => ?_, ?_⟩
  ·have hcnt : x.t.cnt ≤ 400 := by
    have := List.any_eq_false.1 hl x hx
    simpa using this
   rcases hmem x hx with ⟨x0, h0, e1, e2⟩ | rfl
   ·obtain ⟨a1, a2, a3⟩ := h.sok x0 h0
    refine ⟨by rw [e2]; exact jM0 _ (fun v' u' h' => by rw [h1] at h'; split at h' <;> cases h'; exact hTo) _ a1, by rw [e1]; exact a2, hcnt⟩
   ·exact ⟨hTo, h9, hcnt⟩
  ·rw [jY0] at hv' ⊢
   have hw2 : bnd s w = none ∧ w ≠ v := by
    cases hq : bnd s v' with
    | some u' =>
     rw [hq] at hv'
     cases hv'
     rcases hvars u' w hw with ⟨b1, b2⟩ | b1
     ·exact ⟨h.idem v' u' hq w b1, b2⟩
     ·exact ⟨hTn w b1, fun e => hocc (e ▸ b1)⟩
    | none =>
     rw [hq] at hv'
     simp only at hv'
     rw [h1] at hv'
     split at hv'
     ·cases hv'
      exact ⟨hTn w hw, fun e => hocc (e ▸ hw)⟩
     ·cases hv'
   rw [hw2.1]
   exact hne w hw2.2
  ·obtain ⟨a1, a2⟩ := h.vs e (List.mem_cons_of_mem _ he)
   refine ⟨fun w hw => ?_, fun w hw => ?_⟩
   ·rw [hsm] at hw
    rcases hvars _ w hw with ⟨b1, _⟩ | b1
    ·exact a1 w b1
    ·exact hTv w b1
   ·rw [hsm] at hw
    rcases hvars _ w hw with ⟨b1, _⟩ | b1
    ·exact a2 w b1
    ·exact hTv w b1
  ·have := h.sumL (comp [⟨v, t.sub s⟩] σ)
   simp only [List.map_cons, sum_cons] at this
   simp only [hbs]; omega
  ·have := h.sumR (comp [⟨v, t.sub s⟩] σ)
   simp only [List.map_cons, sum_cons] at this
   simp only [hbs]; omega
  ·have := h.len
   have e : (comp s [⟨v, t.sub s⟩]).length = s.length + 1 := by
    unfold comp
    rw [List.length_append, List.length_map, hfl, List.length_singleton]
   omega
 refine ⟨hU, ?_⟩
 rw [List.nil_append]
 have := hU.cntE_le ha hac
 unfold muU
 omega
theorem cl0 {α β : Type} : ∀ (xs : List α) (ys : List β), xs.length = ys.length → (xs.zip ys).map Prod.fst = xs
 | [], [], _ => rfl
 | x :: xs, y :: ys, h => by simp only [List.zip_cons_cons, List.map_cons]; rw [cl0 xs ys (by simpa using h)]
 | [], y :: ys, h => by simp at h
 | x :: xs, [], h => by simp at h
theorem cm0 {α β : Type} : ∀ (xs : List α) (ys : List β), xs.length = ys.length → (xs.zip ys).map Prod.snd = ys
 | [], [], _ => rfl
 | x :: xs, y :: ys, h => by simp only [List.zip_cons_cons, List.map_cons]; rw [cm0 xs ys (by simpa using h)]
 | [], y :: ys, h => by simp at h
 | x :: xs, [], h => by simp at h
theorem vh0 (xs ys : List Nat) : (xs ++ ys).sum = xs.sum + ys.sum := by
 induction xs with
 | nil => simp
 | cons x xs ih => simp only [List.cons_append, sum_cons, ih]; omega
theorem nI0 {bs : List GBind} {k n : Int} {z : ByteArray} {ts : List Tm} (hk : k ≠ 1) (h : (Tm.mk k n z ts).sub bs = .mk k n z ts) : ∀ t, t ∈ ts → t.sub bs = t := by
 rw [zz0 bs k n z ts (fun e => absurd e hk), zv0] at h
 have h2 : ts.map (Tm.sub bs) = ts := by injection h
 intro t ht
 obtain ⟨i, hi, rfl⟩ := List.mem_iff_getElem.1 ht
 have h3 : (ts.map (Tm.sub bs))[i]? = ts[i]? := by rw [h2]
 simpa [List.getElem?_eq_getElem hi] using h3
theorem jP1 : ∀ (t : Tm), t.kd = 1 → t.nm ∈ t.vars
 | .mk k n z ts, h => mem_vars.2 (.inl ⟨h, rfl⟩)
theorem jR1 : ∀ (t : Tm), okN t → t.nm.size ≤ 9
 | .mk k n z ts, h => h.2.2.1
theorem UI.step {a b : Tm} {VS : List ByteArray} {x y : Tm} {es : List (Tm × Tm)} {s s' : List GBind} {more : List (Tm × Tm)} (h : UI a b VS ((x, y) :: es) s) (ha : okN a) (hac : a.cnt ≤ 60)
  (ht : qP0 s x y = some (s', more)) (hl : qn0 s' = false) : UI a b VS (more ++ es) s' ∧ muU VS (more ++ es) s' < muU VS ((x, y) :: es) s := by
 have hxo := (h.ok (x, y) List.mem_cons_self).1
 have hyo := (h.ok (x, y) List.mem_cons_self).2
 have hso : ∀ v u, bnd s v = some u → okN u := fun v u hv => (h.sokB v u hv).1
 have hXo := jM0 s hso x hxo
 have hYo := jM0 s hso y hyo
 have hXv := (h.vs (x, y) List.mem_cons_self).1
 have hYv := (h.vs (x, y) List.mem_cons_self).2
 simp only at hXv hYv
 have hpos := ba0 (x.sub s)
 unfold qP0 wM0 at ht
 split at ht
 ·obtain ⟨rfl, rfl⟩ := Prod.mk.inj (Option.some.inj ht)
  refine ⟨⟨fun e he => h.ok e (List.mem_cons_of_mem _ he), h.sok, h.idem, fun e he => h.vs e (List.mem_cons_of_mem _ he), fun σ => ?_, fun σ => ?_, h.len⟩, ?_⟩
  ·have := h.sumL σ; simp only [List.map_cons, sum_cons] at this; rw [List.nil_append]; omega
  ·have := h.sumR σ; simp only [List.map_cons, sum_cons] at this; rw [List.nil_append]; omega
  ·simp only [muU, ww1, List.map_cons, sum_cons, List.nil_append]; omega
 split at ht
 ·rename_i hne hk
  have hv := jP1 _ hk
  have h9 := jR1 _ hXo
  obtain ⟨h1, h2⟩ := h.bind (x.sub s).nm (y.sub s) x hv (hXv _ hv) h9 ⟨y, rfl⟩ hYo hYv ha hac ht hl
  exact ⟨h1, by simp only [muU] at h2 ⊢; omega⟩
 split at ht
 ·rename_i hne hk1 hk
  have hv := jP1 _ hk
  have h9 := jR1 _ hYo
  obtain ⟨h1, h2⟩ := h.bind (y.sub s).nm (x.sub s) y hv (hYv _ hv) h9 ⟨x, rfl⟩ hXo hXv ha hac ht hl
  exact ⟨h1, by simp only [muU] at h2 ⊢; omega⟩
 split at ht
 case isFalse => cases ht
 rename_i hne hk1 hk2 hc
 obtain ⟨c1, c2, c3, c4⟩ := hc
 replace c3 := (zw0 _ _).1 c3
 obtain ⟨rfl, rfl⟩ := Prod.mk.inj (Option.some.inj ht)
 have hiX := rN0 h.idem x
 have hiY := rN0 h.idem y
 have hL := h.sumL
 have hR := h.sumR
 have hmu : muU VS ((x, y) :: es) s = mB0 VS s * 30000 + ((x.sub s).cnt + ww1 s es) := by simp only [muU, ww1, List.map_cons, sum_cons]
 rw [hmu]
 simp only [List.map_cons, sum_cons] at hL hR
 clear hmu hxo hyo hne hk1 hk2
 generalize x.sub s = X at *
 generalize y.sub s = Y at *
 obtain ⟨k, n, z, ts⟩ := X
 obtain ⟨k', n', z', us⟩ := Y
 simp only [Tm.kd, Tm.ars, Tm.nm] at c1 c2 c3 c4 ⊢
 subst c1 c2 c3
 have hts := nI0 (by decide) hiX
 have hus := nI0 (by decide) hiY
 have hoT := okNs_iff.1 hXo.2.2.2
 have hoU := okNs_iff.1 hYo.2.2.2
 have e1 : ∀ σ : List GBind, ((ts.zip us).map fun e => ((e.1.sub s).sub σ).cnt).sum = Tm.cnts (Tm.subs σ ts) := fun σ => by
  have : ((ts.zip us).map fun e => ((e.1.sub s).sub σ).cnt) = ((ts.zip us).map Prod.fst).map fun t => ((t.sub s).sub σ).cnt := by rw [List.map_map]; rfl
  rw [this, cl0 ts us c4, bc0, zv0, List.map_map]
  congr 1
  exact List.map_congr_left (fun t ht => by simp only [Function.comp_apply]; rw [hts t ht])
 have e2 : ∀ σ : List GBind, ((ts.zip us).map fun e => ((e.2.sub s).sub σ).cnt).sum = Tm.cnts (Tm.subs σ us) := fun σ => by
  have : ((ts.zip us).map fun e => ((e.2.sub s).sub σ).cnt) = ((ts.zip us).map Prod.snd).map fun t => ((t.sub s).sub σ).cnt := by rw [List.map_map]; rfl
  rw [this, cm0 ts us c4, bc0, zv0, List.map_map]
  congr 1
  exact List.map_congr_left (fun t ht => by simp only [Function.comp_apply]; rw [hus t ht])
 have hzm : ∀ e, e ∈ ts.zip us → e.1 ∈ ts ∧ e.2 ∈ us := fun e he => by
  obtain ⟨x1, x2⟩ := e
  exact List.of_mem_zip he
 have c2n : ∀ σ : List GBind, ∀ n z ts, ((Tm.mk 2 n z ts).sub σ).cnt = 1 + Tm.cnts (Tm.subs σ ts) := fun σ n z ts => by
  rw [zz0 σ 2 n z ts (fun h => absurd h (by decide))]; rfl
 refine ⟨⟨fun e he => ?_, h.sok, h.idem, fun e he => ?_, fun σ => ?_, fun σ => ?_, h.len⟩, ?_⟩
 ·rcases List.mem_append.1 he with he | he
  ·exact ⟨hoT _ (hzm e he).1, hoU _ (hzm e he).2⟩
  ·exact h.ok e (List.mem_cons_of_mem _ he)
 ·rcases List.mem_append.1 he with he | he
  ·obtain ⟨b1, b2⟩ := hzm e he
   refine ⟨fun w hw => ?_, fun w hw => ?_⟩
   ·rw [hts _ b1] at hw
    exact hXv w (mem_vars.2 (.inr ⟨_, b1, hw⟩))
   ·rw [hus _ b2] at hw
    exact hYv w (mem_vars.2 (.inr ⟨_, b2, hw⟩))
  ·exact h.vs e (List.mem_cons_of_mem _ he)
 ·have := hL σ
  rw [c2n] at this
  rw [List.map_append, vh0, e1]; omega
 ·have := hR σ
  rw [c2n] at this
  rw [List.map_append, vh0, e2]; omega
 ·have h0 := e1 []
  simp only [kK0] at h0
  have hn : Tm.subs [] ts = ts := by
   rw [zv0, List.map_congr_left (g := id) (fun t _ => kK0 t), List.map_id]
  rw [hn] at h0
  simp only [muU, ww1, List.map_append, vh0]
  rw [h0]
  simp only [Tm.cnt]; omega
def qp0 (a b : Tm) : Option (List GBind) := yF0 (muU (a.vars ++ b.vars) [(a, b)] [] + 1) [(a, b)] []
theorem UI.start (a b : Tm) (ha : okN a) (hb : okN b) : UI a b (a.vars ++ b.vars) [(a, b)] [] := by
 refine ⟨fun e he => ?_, fun x hx => (List.not_mem_nil hx).elim, (fun v u hv => by cases hv), fun e he => ?_, fun σ => ?_, fun σ => ?_, ?_⟩
 ·rw [List.mem_singleton.1 he]; exact ⟨ha, hb⟩
 ·rw [List.mem_singleton.1 he]
  exact ⟨fun w hw => by rw [kK0] at hw; exact List.mem_append_left _ hw, fun w hw => by rw [kK0] at hw; exact List.mem_append_right _ hw⟩
 ·simp
 ·simp
 ·simp only [List.length_nil, mB0, Nat.zero_add]; exact List.length_filter_le _ _
def vT (v : ByteArray) : Tm := .mk 1 0 v []
def mp1 (θ : List GBind) (es : List (Tm × Tm)) (s : List GBind) : Prop := (∀ e, e ∈ es → e.1.sub θ = e.2.sub θ) ∧ ∀ x, x ∈ s → (vT x.na).sub θ = x.t.sub θ
theorem yu1 {a b : Tm} {VS : List ByteArray} {x y : Tm} {es : List (Tm × Tm)} {s s' : List GBind} {more : List (Tm × Tm)} (h : UI a b VS ((x, y) :: es) s) (ht : qP0 s x y = some (s', more)) : ∀ q, q ∈ s' → okN q.t := by
 have hso : ∀ v u, bnd s v = some u → okN u := fun v u hv => (h.sokB v u hv).1
 have hXo := jM0 s hso x (h.ok (x, y) List.mem_cons_self).1
 have hYo := jM0 s hso y (h.ok (x, y) List.mem_cons_self).2
 have hb : ∀ v T, okN T → yN0 s v T = some (s', more) → ∀ q, q ∈ s' → okN q.t := fun v T hT hq q hm => by
  unfold yN0 at hq
  split at hq
  ·cases hq
  obtain ⟨rfl, rfl⟩ := Prod.mk.inj (Option.some.inj hq)
  have h1 : ∀ w u, bnd [(⟨v, T⟩ : GBind)] w = some u → okN u := fun w u hw => by
   have : bnd [(⟨v, T⟩ : GBind)] w = if eqS v w then some T else none := rfl
   rw [this] at hw
   split at hw <;> cases hw
   exact hT
  unfold comp at hm
  rcases List.mem_append.1 hm with hm | hm
  ·obtain ⟨x0, h0, rfl⟩ := List.mem_map.1 hm
   exact jM0 _ h1 _ (h.sok x0 h0).1
  ·have := (List.mem_filter.1 hm).1
   rw [List.mem_singleton.1 this]; exact hT
 unfold qP0 wM0 at ht
 split at ht
 ·obtain ⟨rfl, rfl⟩ := Prod.mk.inj (Option.some.inj ht)
  exact fun q hq => (h.sok q hq).1
 split at ht
 ·exact hb _ _ hYo ht
 split at ht
 ·exact hb _ _ hXo ht
 split at ht
 ·obtain ⟨rfl, rfl⟩ := Prod.mk.inj (Option.some.inj ht)
  exact fun q hq => (h.sok q hq).1
 ·cases ht
theorem fE0 (n : Nat) (x y : Tm) (es more : List (Tm × Tm)) (s s' : List GBind) (h : qP0 s x y = some (s', more)) (hl : qn0 s' = false) : yF0 (n + 1) ((x, y) :: es) s = yF0 n (more ++ es) s' := by
 rw [yF0, h]
 simp only [hl]
 rfl
end Go.Ai
