/- Overlaps: what both compute. -/
import Derived.Test.YtgdmjekkdcjipaaGreatAiUNB
import Derived.Test.YtgdmjekkdcjipaaGreatAiE3
import Derived.Test.YtgdmjekkdcjipaaGreatAiY1
import Derived.Test.YtgdmjekkdcjipaaGreatAiU9
import Derived.Test.YtgdmjekkdcjipaaGreatAiT2
set_option linter.unusedVariables false
set_option linter.unusedSimpArgs false
namespace Go.Ai
open Go.Proofs
set_option maxRecDepth 100000
structure GOverlap where
 fi : Int
 se : Int
 at_ : List Int
 t : Tm
def GOverlap.enc (o : GOverlap) : List C := [.v (.int .i64 o.fi), .v (.int .i64 o.se), .sl (o.at_.map zO0)] ++ o.t.enc
theorem GOverlap.enc_len (o : GOverlap) : o.enc.length = 7 := by simp [GOverlap.enc, Go.Ai.enc_len]
def s2 : ByteArray := ⟨⟨[50]⟩⟩
def kZ1 (st : List GStrict) (le other : Tm) (i k : Int) (p : List Int) : Option GOverlap :=
 if ((atp p le).getD wQ0).kd = 1 ∨ isSP st le p = false ∨ (p.length = 0 ∧ k ≤ i) then none
 else (qp0 ((atp p le).getD wQ0) other).map fun s => ⟨i, k, p, le.sub (tU0 ((atp p le).getD wQ0) other (some s))⟩
def ovP (d : GDefinition) (i k : Nat) (le ri : Tm) : List GOverlap := le.pos.filterMap (kZ1 d.st le (ri.ren s2) i k)
def lI0 (d : GDefinition) (i : Nat) : Tm := (d.ru.map GRule.le).getD i wQ0
def de1 (d : GDefinition) (i n : Nat) : List GOverlap := (List.range n).flatMap fun k => ovP d i k (lI0 d i) (lI0 d k)
def qX1 (d : GDefinition) (n : Nat) : List GOverlap := (List.range n).flatMap fun i => de1 d i d.ru.length
def ovs (d : GDefinition) : List GOverlap := if fS0 d then qX1 d d.ru.length else []
structure leOk (le : Tm) : Prop where
 ok : okN le
 ok2 : okN (le.ren s2)
 cnt : le.cnt ≤ 60
 wf : le.wf
 wf2 : (le.ren s2).wf
mutual
theorem pi0 (f : ByteArray) : ∀ (t : Tm), (t.ren f).cnt = t.cnt
 | .mk k n s ts => by simp only [Tm.ren, Tm.cnt, rens_cnt f ts]
theorem rens_cnt (f : ByteArray) : ∀ (ts : List Tm), Tm.cnts (Tm.rens f ts) = Tm.cnts ts
 | [] => rfl
 | a :: ts => by simp only [Tm.rens, Tm.cnts, pi0 f a, rens_cnt f ts]
end
theorem bS0 (P : Tm → Prop) (hP : ∀ k n s ts, P (.mk k n s ts) → ∀ t, t ∈ ts → P t) : ∀ (p : List Int) (t u : Tm), P t → atp p t = some u → P u
 | [], t, u, h, e => by cases e; exact h
 | i :: p, .mk k n s ts, u, h, e => by
  simp only [atp] at e
  split at e
  ·rename_i hc
   simp only [Bool.and_eq_true, decide_eq_true_eq] at hc
   have hi : i.toNat < ts.length := by omega
   refine bS0 P hP p _ u ?_ e
   rw [List.getD_eq_getElem?_getD, List.getElem?_eq_getElem hi, Option.getD_some]
   exact hP k n s ts h _ (List.getElem_mem hi)
  ·cases e
theorem ts0 (p : List Int) (t u : Tm) (m : Nat) (h : t.cnt ≤ m) (e : atp p t = some u) : u.cnt ≤ m :=
 bS0 (fun t => t.cnt ≤ m) (fun k n s ts h t ht => by
  have := wo0 ts t ht
  simp only [Tm.cnt] at h; omega) p t u h e
theorem jE1 (p : List Int) (t u : Tm) (h : okN t) (e : atp p t = some u) : okN u :=
 bS0 okN (fun k n s ts h t ht => okNs_iff.1 h.2.2.2 t ht) p t u h e
theorem jF1 (p : List Int) (t u : Tm) (h : t.wf) (e : atp p t = some u) : u.wf :=
 bS0 Tm.wf (fun k n s ts h t ht => (kM0 ts).1 h.2.2.2.2 t ht) p t u h e
mutual
theorem gK0 : ∀ (t : Tm) (p : List Int), p ∈ t.pos → (atp p t).isSome = true ∧ p.length ≤ t.cnt
 | .mk k n s ts, p, h => by
  simp only [Tm.pos, List.mem_cons] at h
  rcases h with rfl | h
  ·exact ⟨rfl, Nat.zero_le _⟩
  ·obtain ⟨i, q, hi, rfl, h1, h2⟩ := poss_at ts 0 p h
   have hc := wo0 ts _ (List.getElem_mem hi)
   refine ⟨?_, by simp only [List.length_cons, Tm.cnt]; omega⟩
   simp only [atp, Int.zero_add]
   rw [if_pos (by simp; omega), Int.toNat_natCast, List.getD_eq_getElem?_getD, List.getElem?_eq_getElem hi, Option.getD_some]
   exact h1
theorem poss_at : ∀ (ts : List Tm) (j : Int) (p : List Int), p ∈ Tm.poss ts j → ∃ (i : Nat) (q : List Int) (hi : i < ts.length), p = (j + i) :: q ∧ (atp q ts[i]).isSome = true ∧ q.length ≤ ts[i].cnt
 | [], _, _, h => by cases h
 | a :: ts, j, p, h => by
  simp only [Tm.poss, List.mem_append, List.mem_map] at h
  rcases h with ⟨q, hq, rfl⟩ | h
  ·obtain ⟨h1, h2⟩ := gK0 a q hq
   exact ⟨0, q, by simp, by simp, h1, h2⟩
  ·obtain ⟨i, q, hi, rfl, h1, h2⟩ := poss_at ts (j + 1) p h
   exact ⟨i + 1, q, by simpa using hi, by push_cast; congr 1; omega, by simpa using h1, by simpa using h2⟩
end
theorem ym1 (a b : Tm) (r : Option (List GBind)) (t : Tm) : t.sub (wQ1 a b r) = t.sub (tU0 a b r) := by
 cases r with
 | none => rfl
 | some s =>
  refine pz0 _ _ t (fun v _ => ?_)
  show bnd (qK0 s _) v = bnd (qK0 s _) v
  by_cases hv : v ∈ a.vars ∨ v ∈ b.vars
  ·rw [xz0 s v _ ((yR0 _ v).2 (List.mem_append.2 (hv.imp (yR0 _ v).2 (yR0 _ v).2))), xz0 s v _ ((wL0 _ v).2 (List.mem_append.2 (hv.imp (wL0 _ v).2 (wL0 _ v).2)))]
  ·have hn : ∀ ns : List ByteArray, v ∉ ns → bnd (qK0 s ns) v = none := by
    intro ns
    induction ns with
    | nil => intro _; rfl
    | cons x ns ih =>
     intro h
     have hx : eqS x v = false := by
      cases e : eqS x v with
      | false => rfl
      | true => exact absurd ((zw0 _ _).1 e ▸ List.mem_cons_self) h
     have hr : bnd (qK0 s ns) v = none := ih (fun hm => h (List.mem_cons_of_mem _ hm))
     unfold qK0 at hr ⊢
     rw [List.filterMap_cons]
     cases bnd s x with
     | none => exact hr
     | some u => simp only [Option.map_some, bnd, hx]; exact hr
   rw [hn, hn]
   ·intro hm; exact hv ((List.mem_append.1 ((wL0 _ v).1 hm)).imp (wL0 _ v).1 (wL0 _ v).1)
   ·intro hm; exact hv ((List.mem_append.1 ((yR0 _ v).1 hm)).imp (yR0 _ v).1 (yR0 _ v).1)
theorem gw0 (a b : Tm) (VS : List ByteArray) (ha : okN a) (hac : a.cnt ≤ 60) : ∀ (n : Nat) (es : List (Tm × Tm)) (s r : List GBind), UI a b VS es s → yF0 n es s = some r → UI a b VS [] r
 | 0, _, _, _, _, h => by cases h
 | n + 1, [], s, r, hu, h => by cases h; exact hu
 | n + 1, (x, y) :: es, s, r, hu, h => by
  rw [yF0] at h
  cases ht : qP0 s x y with
  | none => rw [ht] at h; cases h
  | some q =>
   obtain ⟨s', more⟩ := q
   rw [ht] at h
   simp only at h
   cases hl : qn0 s' with
   | true => rw [hl] at h; cases h
   | false =>
    rw [hl] at h
    exact gw0 a b VS ha hac n _ _ r (hu.step ha hac ht hl).1 h
theorem gx0 (a b : Tm) (ha : okN a) (hac : a.cnt ≤ 60) (hb : okN b) (s : List GBind) (h : qp0 a b = some s) : (∀ x, x ∈ s → okN x.t ∧ x.t.cnt ≤ 400) ∧ s.length ≤ (a.vars ++ b.vars).length := by
 have hu := gw0 a b _ ha hac _ _ _ s (UI.start a b ha hb) h
 exact ⟨fun x hx => ⟨(hu.sok x hx).1, (hu.sok x hx).2.2⟩, by have := hu.len; omega⟩
theorem rG0 (s : List GBind) (ns : List ByteArray) (hs : ∀ x, x ∈ s → okN x.t ∧ x.t.cnt ≤ 400) : ∀ x, x ∈ qK0 s ns → x.t.size < 1048577 := by
 intro x hx
 obtain ⟨y, hy, e⟩ := qi1 s ns x hx
 have h1 := hs y hy
 have := zS0 y.t h1.1
 rw [← e]; omega
theorem ka1 (d : GDefinition) (i k : Nat) (le ri : Tm) : (ovP d i k le ri).length ≤ le.cnt := by
 rw [← cJ0]; exact List.length_filterMap_le _ _
end Go.Ai
