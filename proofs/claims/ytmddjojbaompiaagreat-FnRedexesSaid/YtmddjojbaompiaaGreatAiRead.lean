/- What an argument reads as, in the kit's reading, read by the abstract machine: all that stands when the call begins is frozen. -/
import Derived.Test.YtmddjojbaompiaaGreatAiEval
import Derived.OpenShut
import Derived.ShutString
import Derived.ChangeOld
set_option linter.unusedVariables false
set_option linter.unusedSimpArgs false
namespace Go.Ai
open Go.RowKit Go.ChangeShapes
def F0 (w : World) : Fz := fun b _ => b < w.heap.size
def RdL (w : World) (cs : List C) (us : List Value) : Prop := RepACs w (F0 w) noLk g0 (cs.map .c) us
section
variable {H : Type} {enc : TypeId × Value → H} {P : Program} {w : World} {held : Bool} {fuel : Nat} {t : TypeId} {cs : List Value} {x : DataW H × List MemPlace}
abbrev trodA (enc : TypeId × Value → H) (P : Program) (w : World) (fuel : Nat) (t : TypeId) (cs : List Value) : Option (DataW H × List MemPlace) := DataW.trod enc P w 0 (fun _ => true) true fuel t cs
theorem RdL.one {c : C} {u : Value} (h : Rd w (F0 w) c u) : RdL w [c] [u] := by
 unfold RdL
 simp only [List.map_cons, List.map_nil, RepACs, RepAC]
 exact ⟨u, [], rfl, h, rfl⟩
theorem RdL.append {xs ys : List C} {us vs : List Value} (h : RdL w xs us) (k : RdL w ys vs) : RdL w (xs ++ ys) (us ++ vs) := by
 unfold RdL at *
 rw [List.map_append]
 exact RepACs.append h k
theorem RdL.len {xs : List C} {us : List Value} (h : RdL w xs us) : us.length = xs.length := by
 have := RepACs.len _ _ h
 simpa using this.symm
theorem RdL.next {xs ys : List C} {o n : Nat} (h : RdL w xs ((cs.drop o).take n)) (k : RdL w ys (cs.drop (o + n))) : RdL w (xs ++ ys) (cs.drop o) := by
 have := h.append k
 rwa [← List.drop_drop, List.take_append_drop] at this
theorem rd_int {k : IntKind} (ht : P.underlying t = some (.int k)) (h : trodA enc P w fuel t cs = some x) : ∃ n, (Lit.int k n).wf = true ∧ RdL w [.v (.int k n)] cs := by
 cases fuel with
 | zero => simp [trodA, DataW.trod] at h
 | succ m =>
  unfold trodA DataW.trod at h
  rw [ht] at h
  split at h <;> simp_all
  obtain ⟨⟨rfl, hw⟩, _⟩ := h
  exact ⟨_, hw, RdL.one (by simp [Rd, okv])⟩
theorem cells_get {a : Addr} {n : Nat} {us : List Value} (h : w.cells? 0 a n = some us) : us.length = n ∧ ∀ i, i < n → w.cell? (a.add i) = us[i]? := by
 unfold World.cells? at h
 rw [if_pos (Nat.zero_le _)] at h
 exact ⟨by simpa using mapM_some_length h, fun i hi => mapM_some_get h i i (by simp [hi])⟩
theorem rows_of {α : Type} {ec : α → List C} {b sz : Nat} : ∀ (as : List α) (o : Nat),
  (∀ i (h : i < as.length), (ec as[i]).length = sz ∧ ∃ us, us.length = sz ∧ (∀ j, j < sz → w.cell? ⟨b, o + i * sz + j, none⟩ = us[j]?) ∧ RdL w (ec as[i]) us) → (0 < as.length → b < w.heap.size) →
  RdRows w (F0 w) b sz o (as.map ec)
 | [], _, _, _ => by simp only [List.map_nil, RdRows]
 | a :: as, o, h, hb => by
  simp only [List.map_cons, RdRows]
  obtain ⟨h1, us, h2, h3, h4⟩ := h 0 (by simp)
  have hb := hb (by simp)
  refine ⟨h1, cells_rd _ us o h4 (fun j hj => hb) (fun j u hj => ?_), rows_of as (o + sz) (fun i hi => ?_) (fun _ => hb)⟩
  ·have hlt := (List.getElem?_eq_some_iff.1 hj).1
   have := h3 j (by omega)
   rw [hj] at this
   simpa using this
  ·obtain ⟨k1, us', k2, k3, k4⟩ := h (i + 1) (by simpa using hi)
   refine ⟨k1, us', k2, fun j hj => ?_, k4⟩
   have := k3 j hj
   rwa [show o + (i + 1) * sz + j = o + sz + i * sz + j by rw [Nat.add_mul]; omega] at this
theorem list_of {α : Type} {p : Nat → α → Prop} : ∀ (n : Nat), (∀ i, i < n → ∃ a, p i a) → ∃ as : List α, as.length = n ∧ ∀ i (h : i < as.length), p i as[i]
 | 0, _ => ⟨[], rfl, fun i h => by simp at h⟩
 | n + 1, h => by
  obtain ⟨as, h1, h2⟩ := list_of n (fun i hi => h i (by omega))
  obtain ⟨a, ha⟩ := h n (by omega)
  refine ⟨as ++ [a], by simp [h1], fun i hi => ?_⟩
  rw [List.getElem_append]
  split
  ·exact h2 i _
  ·simp at hi
   have : i = n := by omega
   subst this
   simpa using ha
theorem rd_slice {α : Type} {ec : α → List C} {wf : α → Prop} {e : TypeId} {sz : Nat} (ht : P.underlying t = some (.slice e)) (hs : P.cellsOf e = sz) (hpos : 0 < sz)
  (hel : ∀ m, m < fuel → ∀ cs x, trodA enc P w m e cs = some x → ∃ a, wf a ∧ (ec a).length = sz ∧ RdL w (ec a) cs) (h : trodA enc P w fuel t cs = some x) :
  ∃ as : List α, (∀ a, a ∈ as → wf a) ∧ as.length ≤ maxLen ∧ RdL w [.sl (as.map ec)] cs := by
 rcases DataW.trod_slice ht h with ⟨rfl, _⟩ | ⟨a, len, cap, elems, rest, n, hn, rfl, _, _, hl, hm, hlen, hel', hsp, _⟩
 ·refine ⟨[], by simp, by simp, RdL.one ?_⟩
  simp only [List.map_nil, Rd]
  exact ⟨none, 0, 1, rfl, Nat.le_refl _, Nat.zero_le _, Nat.one_pos, fun _ => rfl, fun a ha => by cases ha⟩
 ·subst hs
  obtain ⟨as, k1, k2⟩ := list_of (α := α) (p := fun i y => wf y ∧ (ec y).length = P.cellsOf e ∧ ∃ us, w.cells? 0 (a.add (i * P.cellsOf e)) (P.cellsOf e) = some us ∧ RdL w (ec y) us) len (fun i hi => by
   have hi' := hel' i hi
   have : i < elems.length := by omega
   rw [List.getElem?_eq_getElem this] at hi'
   cases hc : w.cells? 0 (a.add (i * P.cellsOf e)) (P.cellsOf e) with
   | none => rw [hc] at hi'; cases hi'
   | some us =>
    rw [hc] at hi'
    obtain ⟨y, h1, h2, h3⟩ := hel n (by omega) us _ hi'
    exact ⟨y, h1, h2, us, rfl, h3⟩)
  have plain : 0 < cap → a.spot = none ∧ a.block < w.heap.size := by
   intro hc
   have get : ∀ (b : Addr) (us : List Value), w.cells? 0 b (P.cellsOf e) = some us → b.spot = none ∧ b.block < w.heap.size := by
    intro b us hb
    obtain ⟨g1, g2⟩ := cells_get hb
    have := g2 0 hpos
    rw [List.getElem?_eq_getElem (by omega)] at this
    have h0 : b.add 0 = b := by simp [Addr.add]
    rw [h0] at this
    refine ⟨?_, World.block_lt_of_cell? w b this⟩
    unfold World.cell? at this
    split at this
    ·split at this
     ·cases this
     ·rename_i hq; simpa using hq
    ·cases this
   have h0 : a.add (0 * P.cellsOf e) = a := by simp [Addr.add]
   rcases Nat.eq_zero_or_pos len with hz | hz
   ·obtain ⟨r1, r2⟩ := hsp rfl
    have := r2 0 (by omega)
    have hz0 : a.add ((len + 0) * P.cellsOf e) = a := by rw [hz]; exact h0
    rw [List.getElem?_eq_getElem (by omega), hz0] at this
    cases hc : w.cells? 0 a (P.cellsOf e) with
    | none => rw [hc] at this; cases this
    | some us => exact get a us hc
   ·have := hel' 0 hz
    rw [List.getElem?_eq_getElem (by omega), h0] at this
    cases hc : w.cells? 0 a (P.cellsOf e) with
    | none => rw [hc] at this; cases this
    | some us => exact get a us hc
  refine ⟨as, fun y hy => ?_, by omega, RdL.one ?_⟩
  ·obtain ⟨i, hi, rfl⟩ := List.getElem_of_mem hy
   exact (k2 i hi).1
  ·simp only [Rd]
   refine ⟨some a, cap, P.cellsOf e, by simp [k1], by simp; omega, hm, hpos, fun hq => (by cases hq), fun b hb => ?_⟩
   obtain rfl := Option.some.inj hb
   refine ⟨fun hc => (plain hc).1, rows_of as a.off (fun i hi => ?_) (fun hq => (plain (by omega)).2)⟩
   obtain ⟨_, q2, us, q3, q4⟩ := k2 i hi
   obtain ⟨g1, g2⟩ := cells_get q3
   refine ⟨q2, us, g1, fun j hj => ?_, q4⟩
   have hp := (plain (by omega)).1
   have := g2 j hj
   obtain ⟨ab, ao, asp⟩ := a
   simp only at hp
   subst hp
   rw [addr_add, addr_add] at this
   exact this
theorem arg_one {v : Value} {d : DataW H} {ps : List MemPlace} (hv : v.cells = #[v]) (h : DataW.Trod enc P w 0 (fun _ => true) true t v d ps)
  {α : Type} {ec : α → C} {wf : α → Prop} (hel : ∀ m cs x, trodA enc P w m t cs = some x → ∃ a, wf a ∧ RdL w [ec a] cs) : ∃ a, wf a ∧ RepAV w (F0 w) noLk g0 (.one (.c (ec a))) v := by
 obtain ⟨n, hn⟩ := h
 rw [hv] at hn
 obtain ⟨a, h1, h2⟩ := hel n _ _ hn
 refine ⟨a, h1, ?_⟩
 unfold RdL at h2
 simp only [List.map_cons, List.map_nil, RepACs] at h2
 obtain ⟨u, us, e, h3, _⟩ := h2
 simp only [List.cons.injEq] at e
 obtain ⟨rfl, _⟩ := e
 exact h3
theorem trodAll_below {w' : World} (hb : Below w.heap.size w w') : ∀ {ts : List TypeId} {vs : List Value} {ds : List (DataW H)} {ps : List MemPlace}, DataW.TrodAll enc P w 0 (fun _ => true) true ts vs ds ps → DataW.TrodAll enc P w' 0 (fun _ => true) true ts vs ds ps
 | [], [], [], _, h => h
 | _ :: _, _ :: _, _ :: _, _, ⟨a, b, ⟨n, h1⟩, h2, e⟩ => ⟨a, b, ⟨n, DataW.trod_carry n _ _ _ h1 (fun p hp => hb.same (DataW.trod_lt n _ _ _ h1 p hp))⟩, trodAll_below hb h2, e⟩
end
end Go.Ai
