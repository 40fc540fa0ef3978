/- What an argument reads as, in the kit's reading, read by the abstract machine: all that stands when the call begins is frozen. -/
import Derived.Test.YtgdmjekkdcjipaaGreatAiEval
import Derived.OpenShut
import Derived.ShutString
import Derived.ChangeOld
import Derived.Test.YtgdmjekkdcjipaaGreatAiRow2
set_option linter.unusedVariables false
set_option linter.unusedSimpArgs false
namespace Go.Ai
open Go.RowKit Go.ChangeShapes
def F0 (w : World) : Fz := fun b _ => b < w.heap.size
def RdL (w : World) (cs : List C) (us : List Value) : Prop := RepACs w (F0 w) noLk g0 (cs.map .c) us
section
variable {H : Type} {enc : TypeId × Value → H} {P : Program} {w : World} {held : Bool} {fuel : Nat} {t : TypeId} {cs : List Value} {x : DataW H × List MemPlace}
abbrev wy0 (enc : TypeId × Value → H) (P : Program) (w : World) (fuel : Nat) (t : TypeId) (cs : List Value) : Option (DataW H × List MemPlace) := DataW.trod enc P w 0 (fun _ => true) true fuel t cs
theorem RdL.one {c : C} {u : Value} (h : Rd w (F0 w) c u) : RdL w [c] [u] := by
 unfold RdL
 simp only [List.map_cons, List.map_nil, RepACs, RepAC]
 exact ⟨u, [], rfl, h, rfl⟩
theorem RdL.append {xs ys : List C} {us vs : List Value} (h : RdL w xs us) (k : RdL w ys vs) : RdL w (xs ++ ys) (us ++ vs) := by
 unfold RdL at *
 rw [List.map_append]
 exact RepACs.append h k
theorem RdL.len {xs : List C} {us : List Value} (h : RdL w xs us) : us.length = xs.length := by
 have := RepACs.len _ _ h
 simpa using this.symm
theorem RdL.next {xs ys : List C} {o n : Nat} (h : RdL w xs ((cs.drop o).take n)) (k : RdL w ys (cs.drop (o + n))) : RdL w (xs ++ ys) (cs.drop o) := by
 have := h.append k
 rwa [← List.drop_drop, List.take_append_drop] at this
theorem RdL.last {xs : List C} {o n : Nat} (h : RdL w xs ((cs.drop o).take n)) (hl : cs.length = o + n) : RdL w xs (cs.drop o) := by
 rwa [List.take_of_length_le (by simp; omega)] at h
theorem qe1 {k : IntKind} (ht : P.underlying t = some (.int k)) (h : wy0 enc P w fuel t cs = some x) : ∃ n, (Lit.int k n).wf = true ∧ RdL w [.v (.int k n)] cs := by
 cases fuel with
 | zero => simp [wy0, DataW.trod] at h
 | succ m =>
  unfold wy0 DataW.trod at h
  rw [ht] at h
  split at h <;> simp_all
  obtain ⟨⟨rfl, hw⟩, _⟩ := h
  exact ⟨_, hw, RdL.one (by simp [Rd, okv])⟩
theorem gQ0 (ht : P.underlying t = some .string) (h : wy0 enc P w fuel t cs = some x) : ∃ s : ByteArray, s.size ≤ maxLen ∧ RdL w [.v (.string s)] cs := by
 cases fuel with
 | zero => simp [wy0, DataW.trod] at h
 | succ m =>
  unfold wy0 DataW.trod at h
  rw [ht] at h
  split at h <;> simp_all
  exact ⟨_, h.1, RdL.one (by simp [Rd, okv])⟩
theorem dG0 {a : Addr} {n : Nat} {us : List Value} (h : w.cells? 0 a n = some us) : us.length = n ∧ ∀ i, i < n → w.cell? (a.add i) = us[i]? := by
 unfold World.cells? at h
 rw [if_pos (Nat.zero_le _)] at h
 exact ⟨by simpa using mapM_some_length h, fun i hi => mapM_some_get h i i (by simp [hi])⟩
theorem qq1 {α : Type} {ec : α → List C} {b sz : Nat} : ∀ (as : List α) (o : Nat),
  (∀ i (h : i < as.length), (ec as[i]).length = sz ∧ ∃ us, us.length = sz ∧ (∀ j, j < sz → w.cell? ⟨b, o + i * sz + j, none⟩ = us[j]?) ∧ RdL w (ec as[i]) us) → (0 < as.length → b < w.heap.size) →
  RdRows w (F0 w) b sz o (as.map ec)
 | [], _, _, _ => by simp only [List.map_nil, RdRows]
 | a :: as, o, h, hb => by
  simp only [List.map_cons, RdRows]
  obtain ⟨h1, us, h2, h3, h4⟩ := h 0 (by simp)
  have hb := hb (by simp)
  refine ⟨h1, bZ0 _ us o h4 (fun j hj => hb) (fun j u hj => ?_), qq1 as (o + sz) (fun i hi => ?_) (fun _ => hb)⟩
  ·have hlt := (List.getElem?_eq_some_iff.1 hj).1
   have := h3 j (by omega)
   rw [hj] at this
   simpa using this
  ·obtain ⟨k1, us', k2, k3, k4⟩ := h (i + 1) (by simpa using hi)
   refine ⟨k1, us', k2, fun j hj => ?_, k4⟩
   have := k3 j hj
   rwa [show o + (i + 1) * sz + j = o + sz + i * sz + j by rw [Nat.add_mul]; omega] at this
theorem zy1 {α : Type} {p : Nat → α → Prop} : ∀ (n : Nat), (∀ i, i < n → ∃ a, p i a) → ∃ as : List α, as.length = n ∧ ∀ i (h : i < as.length), p i as[i]
 | 0, _ => ⟨[], rfl, fun i h => by simp at h⟩
 | n + 1, h => by
  obtain ⟨as, h1, h2⟩ := zy1 n (fun i hi => h i (by omega))
  obtain ⟨a, ha⟩ := h n (by omega)
  refine ⟨as ++ [a], by simp [h1], fun i hi => ?_⟩
  rw [List.getElem_append]
  split
  ·exact h2 i _
  ·simp at hi
   have : i = n := by omega
   subst this
   simpa using ha
theorem rB0 {α : Type} {ec : α → List C} {wf : α → Prop} {e : TypeId} {sz : Nat} (ht : P.underlying t = some (.slice e)) (hs : P.cellsOf e = sz) (hpos : 0 < sz)
  (hel : ∀ m, m < fuel → ∀ cs x, wy0 enc P w m e cs = some x → ∃ a, wf a ∧ (ec a).length = sz ∧ RdL w (ec a) cs) (h : wy0 enc P w fuel t cs = some x) :
  ∃ as : List α, (∀ a, a ∈ as → wf a) ∧ as.length ≤ maxLen ∧ RdL w [.sl (as.map ec)] cs := by
 rcases DataW.trod_slice ht h with ⟨rfl, _⟩ | ⟨a, len, cap, elems, rest, n, hn, rfl, _, _, hl, hm, hlen, hel', hsp, _⟩
 ·refine ⟨[], by simp, by simp, RdL.one ?_⟩
  simp only [List.map_nil, Rd]
  exact ⟨none, 0, 1, rfl, Nat.le_refl _, Nat.zero_le _, Nat.one_pos, fun _ => rfl, fun a ha => by cases ha⟩
 ·subst hs
  obtain ⟨as, k1, k2⟩ := zy1 (α := α) (p := fun i y => wf y ∧ (ec y).length = P.cellsOf e ∧ ∃ us, w.cells? 0 (a.add (i * P.cellsOf e)) (P.cellsOf e) = some us ∧ RdL w (ec y) us) len (fun i hi => by
   have hi' := hel' i hi
   have : i < elems.length := by omega
   rw [List.getElem?_eq_getElem this] at hi'
   cases hc : w.cells? 0 (a.add (i * P.cellsOf e)) (P.cellsOf e) with
   | none => rw [hc] at hi'; cases hi'
   | some us =>
    rw [hc] at hi'
    obtain ⟨y, h1, h2, h3⟩ := hel n (by omega) us _ hi'
    exact ⟨y, h1, h2, us, rfl, h3⟩)
  have plain : 0 < cap → a.spot = none ∧ a.block < w.heap.size := by
   intro hc
   have get : ∀ (b : Addr) (us : List Value), w.cells? 0 b (P.cellsOf e) = some us → b.spot = none ∧ b.block < w.heap.size := by
    intro b us hb
    obtain ⟨g1, g2⟩ := dG0 hb
    have := g2 0 hpos
    rw [List.getElem?_eq_getElem (by omega)] at this
    have h0 : b.add 0 = b := by simp [Addr.add]
    rw [h0] at this
    refine ⟨?_, World.block_lt_of_cell? w b this⟩
    unfold World.cell? at this
    split at this
    ·split at this
     ·cases this
     ·rename_i hq; simpa using hq
    ·cases this
   have h0 : a.add (0 * P.cellsOf e) = a := by simp [Addr.add]
   rcases Nat.eq_zero_or_pos len with hz | hz
   ·obtain ⟨r1, r2⟩ := hsp rfl
    have := r2 0 (by omega)
    have hz0 : a.add ((len + 0) * P.cellsOf e) = a := by rw [hz]; exact h0
    rw [List.getElem?_eq_getElem (by omega), hz0] at this
    cases hc : w.cells? 0 a (P.cellsOf e) with
    | none => rw [hc] at this; cases this
    | some us => exact get a us hc
   ·have := hel' 0 hz
    rw [List.getElem?_eq_getElem (by omega), h0] at this
    cases hc : w.cells? 0 a (P.cellsOf e) with
    | none => rw [hc] at this; cases this
    | some us => exact get a us hc
  refine ⟨as, fun y hy => ?_, by omega, RdL.one ?_⟩
  ·obtain ⟨i, hi, rfl⟩ := List.getElem_of_mem hy
   exact (k2 i hi).1
  ·simp only [Rd]
   refine ⟨some a, cap, P.cellsOf e, by simp [k1], by simp; omega, hm, hpos, fun hq => (by cases hq), fun b hb => ?_⟩
   obtain rfl := Option.some.inj hb
   refine ⟨fun hc => (plain hc).1, qq1 as a.off (fun i hi => ?_) (fun hq => (plain (by omega)).2)⟩
   obtain ⟨_, q2, us, q3, q4⟩ := k2 i hi
   obtain ⟨g1, g2⟩ := dG0 q3
   refine ⟨q2, us, g1, fun j hj => ?_, q4⟩
   have hp := (plain (by omega)).1
   have := g2 j hj
   obtain ⟨ab, ao, asp⟩ := a
   simp only at hp
   subst hp
   rw [wA0, wA0] at this
   exact this
theorem zg0 {fs : Array Field} {xs : List (DataW H × List MemPlace)} {n : Nat} (hl : xs.length = fs.size) (hf : ∀ (i : Nat) (f : Field), fs[i]? = some f → DataW.trod enc P w 0 (fun _ => true) true n f.type ((cs.drop f.offset).take (P.cellsOf f.type)) = xs[i]?)
  (i : Nat) (f : Field) (hi : fs[i]? = some f) {ty : TypeId} {off c : Nat} (h1 : f.type = ty) (h2 : f.offset = off) (h3 : P.cellsOf ty = c) : ∃ y, wy0 enc P w n ty ((cs.drop off).take c) = some y := by
 subst h1 h2 h3
 have hlt := (Array.getElem?_eq_some_iff.1 hi).1
 have := hf i f hi
 rw [List.getElem?_eq_getElem (by omega)] at this
 exact ⟨_, this⟩
theorem rn0 {fs : Array Field} {base : Nat} {r : Reach} {v : Value} {d : DataW H} {ps : List MemPlace} (ht : P.underlying t = some (.struct fs)) (hv : Value.okWide P w r base t v) (h : DataW.Trod enc P w 0 (fun _ => true) true t v d ps)
  {α : Type} {ec : α → List C} {wf : α → Prop} (hel : ∀ m cs x, wy0 enc P w m t cs = some x → ∃ a, wf a ∧ RdL w (ec a) cs) : ∃ a, wf a ∧ RepAV w (F0 w) noLk g0 (.agg ((ec a).map .c)) v := by
 obtain ⟨us, rfl, _⟩ := WideShapes.okWide_struct ht hv
 obtain ⟨n, hn⟩ := h
 obtain ⟨a, h1, h2⟩ := hel n _ _ hn
 refine ⟨a, h1, ?_⟩
 simp only [RepAV]
 exact ⟨us.toList, rfl, h2⟩
theorem vA0 {w' : World} (hb : Below w.heap.size w w') : ∀ {ts : List TypeId} {vs : List Value} {ds : List (DataW H)} {ps : List MemPlace}, DataW.TrodAll enc P w 0 (fun _ => true) true ts vs ds ps → DataW.TrodAll enc P w' 0 (fun _ => true) true ts vs ds ps
 | [], [], [], _, h => h
 | _ :: _, _ :: _, _ :: _, _, ⟨a, b, ⟨n, h1⟩, h2, e⟩ => ⟨a, b, ⟨n, DataW.trod_carry n _ _ _ h1 (fun p hp => hb.same (DataW.trod_lt n _ _ _ h1 p hp))⟩, vA0 hb h2, e⟩
end
end Go.Ai
namespace Go.Ai
abbrev zD0 (n : Int) : AV := .one (.c (.v (.int .i64 n)))
abbrev ql0 (s : ByteArray) : AV := .one (.c (.v (.string s)))
abbrev boolV (b : Bool) : AV := .one (.c (.v (.bool b)))
abbrev slV (rows : List (List C)) : AV := .one (.c (.sl rows))
abbrev qA0 (cs : List C) : AV := .agg (cs.map .c)
abbrev iC (n : Int) : AC := .c (.v (.int .i64 n))
abbrev sC (s : ByteArray) : AC := .c (.v (.string s))
abbrev tC (ts : List Tm) : AC := .c (.sl (Tm.encs ts))
abbrev tmV (t : Tm) : AV := .agg (t.enc.map .c)
abbrev yM0 (ts : List Tm) : AV := .one (.c (.sl (Tm.encs ts)))
def Tm.args : Tm → List Tm
 | .mk _ _ _ ts => ts
theorem zc0 (ts : List Tm) : Tm.encs ts = ts.map Tm.enc := by
 induction ts with
 | nil => rfl
 | cons t ts ih => simp [Tm.encs, ih]
theorem yC1 (ts : List Tm) : (Tm.encs ts).length = ts.length := by rw [zc0]; simp
theorem enc_len (t : Tm) : t.enc.length = 4 := by cases t; rfl
theorem enc_take (t : Tm) : t.enc.take 4 = t.enc := List.take_of_length_le (by rw [enc_len]; exact Nat.le_refl _)
theorem zF0 (ts : List Tm) (i : Nat) (h : i < ts.length) : (Tm.encs ts).getD i [] = (ts[i]).enc := by
 rw [zc0]; simp [List.getD, h]
mutual
def Tm.size : Tm → Nat
 | .mk _ _ s ts => s.size + Tm.sizes ts
def Tm.sizes : List Tm → Nat
 | [] => 0
 | a :: ts => 1 + a.size + Tm.sizes ts
end
theorem bJ0 (ts : List Tm) (i : Nat) (h : i < ts.length) : Tm.sizes (ts.drop i) = 1 + (ts[i]).size + Tm.sizes (ts.drop (i + 1)) := by
 rw [List.drop_eq_getElem_cons h]; simp only [Tm.sizes]
theorem zH0 (ts : List Tm) : ts.length ≤ Tm.sizes ts := by
 induction ts with
 | nil => simp
 | cons t ts ih => simp [Tm.sizes]; omega
theorem zT0 (ts : List Tm) : ∀ t, t ∈ ts → t.size < Tm.sizes ts := by
 induction ts with
 | nil => intro t h; cases h
 | cons a ts ih =>
  intro t h
  simp only [Tm.sizes]
  rcases List.mem_cons.1 h with rfl | h
  ·omega
  ·have := ih t h; omega
mutual
def Tm.wf : Tm → Prop
 | .mk k n s ts => (Lit.int .i64 k).wf = true ∧ (Lit.int .i64 n).wf = true ∧ s.size ≤ maxLen ∧ ts.length ≤ maxLen ∧ Tm.wfs ts
def Tm.wfs : List Tm → Prop
 | [] => True
 | a :: ts => a.wf ∧ Tm.wfs ts
end
theorem kM0 (ts : List Tm) : Tm.wfs ts ↔ ∀ t, t ∈ ts → t.wf := by
 induction ts with
 | nil => simp [Tm.wfs]
 | cons a ts ih => simp [Tm.wfs, ih]
mutual
def Tm.eqb : Tm → Tm → Bool
 | .mk k n s ts, .mk k' n' s' ts' => k == k' && (n == n' && (s.toList == s'.toList && Tm.eqbs ts ts'))
def Tm.eqbs : List Tm → List Tm → Bool
 | [], [] => true
 | a :: ts, b :: ts' => a.eqb b && Tm.eqbs ts ts'
 | _, _ => false
end
theorem Tm.eqb_refl : ∀ t : Tm, t.eqb t = true := by
 refine Tm.ind (fun k n s ts ih => ?_)
 have : Tm.eqbs ts ts = true := by
  induction ts with
  | nil => rfl
  | cons a ts ih2 => simp [Tm.eqbs, ih a (by simp), ih2 (fun b hb => ih b (by simp [hb]))]
 simp [Tm.eqb, this]
theorem xo0 : ∀ (ts us : List Tm), ts.length ≠ us.length → Tm.eqbs ts us = false
 | [], [], h => by simp at h
 | [], _ :: _, _ => rfl
 | _ :: _, [], _ => rfl
 | a :: ts, b :: us, h => by simp [Tm.eqbs, xo0 ts us (by simpa using h)]
theorem pI0 (ts us : List Tm) (i : Nat) (h : i < ts.length) (h' : i < us.length) : Tm.eqbs (ts.drop i) (us.drop i) = ((ts[i]).eqb us[i] && Tm.eqbs (ts.drop (i + 1)) (us.drop (i + 1))) := by
 rw [List.drop_eq_getElem_cons h, List.drop_eq_getElem_cons h']; simp only [Tm.eqbs]
def szR (n : Nat) (b : Int) : Int := if (n : Int) ≤ b then b - n else -1
theorem encm_take (t : Tm) : (t.enc.map AC.c).take 4 = t.enc.map AC.c := List.take_of_length_le (by rw [List.length_map, enc_len]; exact Nat.le_refl _)
attribute [go_sem] enc_len enc_take encm_take yC1 List.length_map
end Go.Ai
namespace Go.Ai
section
variable {α : Type} {ec : α → List C} {z : List AC} {xs : List α} {i : Nat}
def qY0 (ec : α → List C) (z : List AC) (xs : List α) (i : Nat) : List (List AC) := (xs.take i).map (fun a => (ec a).map .c) ++ List.replicate (xs.length - i) z
theorem wg0 (h : i ≤ xs.length) : (qY0 ec z xs i).length = xs.length := by simp [qY0]; omega
theorem wf0 (h : i < xs.length) : (qY0 ec z xs i).getD i [] = z := by
 simp only [qY0, List.getD_eq_getElem?_getD]
 rw [List.getElem?_append_right (by simp; omega)]
 have : i - (List.map (fun a => List.map AC.c (ec a)) (List.take i xs)).length = 0 := by simp; omega
 rw [this, List.getElem?_replicate, if_pos (by omega)]
 rfl
theorem wh0 (h : i < xs.length) : (qY0 ec z xs i).set i ((ec xs[i]).map .c) = qY0 ec z xs (i + 1) := by
 have hl : (List.map (fun a => List.map AC.c (ec a)) (List.take i xs)).length = i := by simp; omega
 simp only [qY0]
 rw [List.set_append_right _ _ (by omega), hl, Nat.sub_self]
 have : xs.length - i = (xs.length - (i + 1)) + 1 := by omega
 rw [this, List.replicate_succ, List.set_cons_zero, List.take_add_one, List.getElem?_eq_getElem h]
 simp only [Option.toList, List.map_append, List.map_cons, List.map_nil, List.append_assoc, List.cons_append, List.nil_append]
theorem qx0 : qY0 ec z xs 0 = List.replicate xs.length z := by simp [qY0]
theorem ww0 (h : xs.length ≤ i) : qY0 ec z xs i = xs.map (fun a => (ec a).map .c) := by simp [qY0, List.take_of_length_le h, Nat.sub_eq_zero_of_le h]
theorem qS0 (h : xs.length ≤ i) : (qY0 ec z xs i).map (fun r => r.map toC) = xs.map ec := by
 rw [ww0 h, List.map_map]
 refine List.map_congr_left (fun a _ => ?_)
 simp only [Function.comp, List.map_map]
 have : toC ∘ AC.c = id := by funext x; rfl
 rw [this, List.map_id]
theorem qw0 (h : xs.length ≤ i) : ∀ r, r ∈ qY0 ec z xs i → ∀ a, a ∈ r → isV a = true := by
 rw [ww0 h]
 intro r hr a ha
 obtain ⟨x, _, rfl⟩ := List.mem_map.1 hr
 obtain ⟨c, _, rfl⟩ := List.mem_map.1 ha
 rfl
theorem qv0 {lb : Lk} (hz : ∀ a, a ∈ z → inC lb a) : ∀ r, r ∈ qY0 ec z xs i → ∀ a, a ∈ r → inC lb a := by
 intro r hr a ha
 rcases List.mem_append.1 hr with hr | hr
 ·obtain ⟨x, _, rfl⟩ := List.mem_map.1 hr
  obtain ⟨c, _, rfl⟩ := List.mem_map.1 ha
  trivial
 ·rw [List.eq_of_mem_replicate hr] at ha
  exact hz a ha
theorem zC0 (h : i < xs.length) : (xs.map ec).getD i [] = ec xs[i] := by simp [List.getD, h]
end
section
variable {α : Type} {ec : α → List C} {xs : List α}
def rowsOf (ec : α → List C) (xs : List α) : List (List AC) := xs.map (fun a => (ec a).map .c)
theorem zY0 : (rowsOf ec xs).length = xs.length := by simp [rowsOf]
theorem zq0 (a : α) : rowsOf ec xs ++ [(ec a).map .c] = rowsOf ec (xs ++ [a]) := by simp [rowsOf]
theorem zb0 (ys : List α) : rowsOf ec xs ++ rowsOf ec ys = rowsOf ec (xs ++ ys) := by simp [rowsOf]
theorem pl0 : (rowsOf ec xs).map (fun r => r.map toC) = xs.map ec := by
 have := qS0 (ec := ec) (z := []) (xs := xs) (Nat.le_refl _)
 rwa [ww0 (Nat.le_refl _)] at this
theorem tH0 : ∀ r, r ∈ rowsOf ec xs → ∀ a, a ∈ r → isV a = true := by
 have := qw0 (ec := ec) (z := []) (xs := xs) (Nat.le_refl _)
 rwa [ww0 (Nat.le_refl _)] at this
theorem tG0 {lb : Lk} : ∀ r, r ∈ rowsOf ec xs → ∀ a, a ∈ r → inC lb a := by
 have := qv0 (ec := ec) (z := []) (xs := xs) (i := xs.length) (lb := lb) (by simp)
 rwa [ww0 (Nat.le_refl _)] at this
end
theorem mj0 {α : Type} {ec : α → List C} {xs : List α} : (xs.map ec).map (fun r => r.map AC.c) = rowsOf ec xs := by simp [rowsOf]
theorem qL0 {α : Type} {ec : α → List C} {xs : List α} : (rowsOf ec xs).map (fun r => r.map toC) = xs.map ec := pl0
theorem rowsOf_l {α : Type} {ec : α → List C} {xs : List α} {n : Nat} (h : ∀ a, (ec a).length = n) : ∀ r, r ∈ rowsOf ec xs → r.length = n := by
 intro r hr
 obtain ⟨x, _, rfl⟩ := List.mem_map.1 hr
 rw [List.length_map, h]
theorem rowsOf_cl {α : Type} {ec : α → List C} {xs : List α} : clR (rowsOf ec xs) := by
 intro r hr a ha
 obtain ⟨x, _, rfl⟩ := List.mem_map.1 hr
 obtain ⟨c, _, rfl⟩ := List.mem_map.1 ha
 rfl
theorem rowsOf_noD {α : Type} {ec : α → List C} {xs : List α} : noD (rowsOf ec xs) = true := by
 simp only [noD, List.all_eq_true, Bool.not_eq_true']
 intro r hr a ha
 obtain ⟨x, _, rfl⟩ := List.mem_map.1 hr
 obtain ⟨c, _, rfl⟩ := List.mem_map.1 ha
 rfl
theorem wi0 {α : Type} {ec : α → List C} {xs : List α} : (rowsOf ec xs).map (fun r => r.map unN) = (xs.map ec).map fun r => r.map AC.c := by
 simp only [rowsOf, List.map_map]
 refine List.map_congr_left (fun a _ => ?_)
 simp only [Function.comp, List.map_map]
 rfl
theorem tJ0 {α : Type} {ec : α → List C} {xs : List α} : (rowsOf ec xs).map (fun r => r.map unD) = rowsOf ec xs := by
 simp only [rowsOf, List.map_map]
 refine List.map_congr_left (fun a _ => ?_)
 simp only [Function.comp, List.map_map]
 rfl
theorem vc0 {α : Type} {ec : α → List C} {xs : List α} {i : Nat} (h : i < xs.length) : (rowsOf ec xs).getD i [] = (ec xs[i]).map AC.c := by
 simp [rowsOf, List.getD, h]
theorem mZ0 {α : Type} {p : α → Prop} : (∀ r, r ∈ ([] : List α) → p r) = True := by simp
theorem kD1 : ((0 : Int) ≤ 0) = True := eq_true (Int.le_refl 0)
attribute [go_sem] mj0 tJ0 mZ0 kD1 Int.toNat_zero
theorem sS0 {α : Type} {ec : α → List C} {xs : List α} {lb : Lk} {e : TypeId} {sz : Nat} {fz : Bool} : inB lb (.arr e sz (rowsOf ec xs) fz) = True := eq_true tG0
theorem fu0 {α : Type} {ec : α → List C} {xs : List α} : (∀ r, r ∈ rowsOf ec xs → ∀ a, a ∈ r → isV a = true) = True := eq_true tH0
theorem cO0 {α : Type} (a : α) : List.replicate 1 a = [a] := rfl
theorem fb0 {α : Type} (a : α) : List.replicate 0 a = [] := rfl
theorem cP0 {α : Type} (a : α) : List.replicate 2 a = [a, a] := rfl
theorem fa0 {α : Type} (a : α) : List.replicate 4 a = [a, a, a, a] := rfl
attribute [go_sem] cP0 fa0
theorem dQ1 (cs : List C) : (cs.map AC.c).map unD = cs.map AC.c := by
 rw [List.map_map]; rfl
attribute [go_sem] dQ1
attribute [go_sem ↓] sS0
attribute [go_sem] zY0 pl0 fu0 cO0 fb0 List.flatten_cons List.flatten_nil List.length_append
end Go.Ai
