/- The abstract machine's states: slots and local blocks, what they stand for in a world, and how a state is carried from world to world. -/
import Derived.Test.YtdjleacnjijbjaaAiDefs
namespace Go.Ai
set_option linter.unusedVariables false
set_option linter.unusedSimpArgs false
open Go.RowKit

/-- An abstract cell. 'own l n': the header of row l, n elements long; 'ptr l o': into variable l; 'ep l n i o': into element i of row l as it was at length n; 'ip cs': into frozen cells; 'tk k i': the i-th value of the owned ones k; 'd x': owned data in place, frozen; 'm x': owned data in place, not frozen (both in rows only); 'e1': a slice without elements that is not nil. -/
inductive AC where
  | c (x : C)
  | nil
  | own (l n : Nat)
  | ptr (l off : Nat)
  | ep (l n i off : Nat)
  | ip (cs : List C)
  | clo (f : FuncId) (caps : List AC)
  | tk (k i : Nat)
  | d (x : C)
  | m (x : C)
  | e1
  | any

inductive AV where
  | one (a : AC)
  | agg (as : List AC)
  | tup (vs : List AV)
  | any

inductive LB where
  | var (cells : List AC)
  | arr (e : TypeId) (sz : Nat) (rows : List (List AC)) (fz : Bool)
  | tok (xs : List (Option C))
  | dead

abbrev Lk := Nat → Option LB

structure Gh where
  bl : Nat → Nat
  hd : Nat → Value
  ds : Nat → List Nat

structure St where
  n : Nat
  sl : Nat → AV
  lb : Lk
  gh : List AV

/-- What a call may write of what stood before, and values that are kept in mind. -/
structure Ms where
  bs : List Nat
  gv : List Value
instance : Membership Nat Ms := ⟨fun M b => b ∈ M.bs⟩

def St.set (s : St) (d : Option Tmp) (v : AV) : St :=
  match d with
  | some d => { s with sl := fun t => if t = d then v else s.sl t }
  | none => s
def St.put (s : St) (l : Nat) (B : LB) : St := { s with lb := fun k => if k = l then some B else s.lb k }

def okOwnB (B : LB) (h : Value) (n : Nat) (u : Value) : Prop :=
  match B with
  | .arr _ _ rows _ => n ≤ rows.length ∧ (n = rows.length → u = h)
  | _ => True
def okPtrB (B : LB) (b off : Nat) (u : Value) : Prop :=
  match B with
  | .var _ => u = .pointer (some ⟨b, off, none⟩)
  | _ => True
def okEpB (B : LB) (h : Value) (n i off : Nat) (u : Value) : Prop :=
  match B with
  | .arr _ sz rows _ => n ≤ rows.length ∧ (n = rows.length → i < n ∧ ∃ b cap, h = .slice (some ⟨b, 0, none⟩) n cap ∧ u = .pointer (some ⟨b, i * sz + off, none⟩))
  | _ => True
def okTkB (B : LB) (h : Value) (i : Nat) (u : Value) : Prop :=
  match B with
  | .tok _ => ∃ us : List Value, h = .agg us.toArray ∧ us[i]? = some u
  | _ => True

mutual
def RepAC (w : World) (F : Fz) (lb : Lk) (g : Gh) : AC → Value → Prop
  | .c x, u => Rd w F x u
  | .nil, u => u = .slice none 0 0
  | .e1, u => ∃ a cap, u = .slice (some a) 0 cap ∧ cap ≤ maxLen ∧ (0 < cap → a.spot = none)
  | .own l n, u => u.oneCell' = true ∧ ∃ B, lb l = some B ∧ okOwnB B (g.hd l) n u
  | .ptr l off, u => u.oneCell' = true ∧ ∃ B, lb l = some B ∧ okPtrB B (g.bl l) off u
  | .ep l n i off, u => u.oneCell' = true ∧ ∃ B, lb l = some B ∧ okEpB B (g.hd l) n i off u
  | .ip cs, u => ∃ b o, u = .pointer (some ⟨b, o, none⟩) ∧ RdCells w F b o cs
  | .clo f caps, u => ∃ us : List Value, u = .func (.func f) #[] us.toArray ∧ RepACs w F lb g caps us
  | .tk k i, u => u.oneCell' = true ∧ ∃ B, lb k = some B ∧ okTkB B (g.hd k) i u
  | .d _, _ => False
  | .m _, _ => False
  | .any, u => u.oneCell' = true
def RepACs (w : World) (F : Fz) (lb : Lk) (g : Gh) : List AC → List Value → Prop
  | [], us => us = []
  | a :: as, us => ∃ u us', us = u :: us' ∧ RepAC w F lb g a u ∧ RepACs w F lb g as us'
end

mutual
def RepAV (w : World) (F : Fz) (lb : Lk) (g : Gh) : AV → Value → Prop
  | .one a, u => RepAC w F lb g a u
  | .agg as, u => ∃ us : List Value, u = .agg us.toArray ∧ RepACs w F lb g as us
  | .tup vs, u => ∃ us : List Value, u = .tuple us.toArray ∧ RepAVs w F lb g vs us
  | .any, _ => True
def RepAVs (w : World) (F : Fz) (lb : Lk) (g : Gh) : List AV → List Value → Prop
  | [], us => us = []
  | v :: vs, us => ∃ u us', us = u :: us' ∧ RepAV w F lb g v u ∧ RepAVs w F lb g vs us'
end

theorem okv_one {x : Value} (h : okv x) : x.oneCell' = true := by cases x <;> simp_all [okv, Value.oneCell']
theorem Rd.one {w : World} {F : Fz} {c : C} {u : Value} (h : Rd w F c u) : u.oneCell' = true := by
  cases c with
  | v x => simp only [Rd] at h; obtain ⟨rfl, h⟩ := h; exact okv_one h
  | sl rows => simp only [Rd] at h; obtain ⟨A, cap, sz, rfl, _⟩ := h; rfl
theorem RepAC.one {w : World} {F : Fz} {lb : Lk} {g : Gh} {a : AC} {u : Value} (h : RepAC w F lb g a u) : u.oneCell' = true := by
  cases a <;> simp only [RepAC] at h
  case c x => exact h.one
  case nil => subst h; rfl
  case e1 => obtain ⟨_, _, rfl, _⟩ := h; rfl
  case own => exact h.1
  case ptr => exact h.1
  case ep => exact h.1
  case ip => obtain ⟨b, o, rfl, _⟩ := h; rfl
  case clo => obtain ⟨us, rfl, _⟩ := h; rfl
  case tk => exact h.1
  case any => exact h

/-- What is said of the references to local blocks stays said. -/
structure Keeps (lb : Lk) (g : Gh) (lb' : Lk) (g' : Gh) : Prop where
  own : ∀ l B, lb l = some B → ∃ B', lb' l = some B' ∧ (∀ n u, okOwnB B (g.hd l) n u → okOwnB B' (g'.hd l) n u) ∧ (∀ off u, okPtrB B (g.bl l) off u → okPtrB B' (g'.bl l) off u) ∧
    (∀ n i off u, okEpB B (g.hd l) n i off u → okEpB B' (g'.hd l) n i off u) ∧ (∀ i u, okTkB B (g.hd l) i u → okTkB B' (g'.hd l) i u)

theorem Keeps.refl (lb : Lk) (g : Gh) : Keeps lb g lb g := ⟨fun _ B h => ⟨B, h, fun _ _ h => h, fun _ _ h => h, fun _ _ _ _ h => h, fun _ _ h => h⟩⟩

mutual
theorem RepAC.mono {w w' : World} {F F' : Fz} {lb lb' : Lk} {g g' : Gh} (hs : Stays w w' F F') (hk : Keeps lb g lb' g') : ∀ (a : AC) (u : Value), RepAC w F lb g a u → RepAC w' F' lb' g' a u
  | .c x, u, h => by simp only [RepAC] at h ⊢; exact Rd.mono hs x u h
  | .nil, u, h => by simpa only [RepAC] using h
  | .e1, u, h => by simpa only [RepAC] using h
  | .own l n, u, h => by
    simp only [RepAC] at h ⊢
    obtain ⟨h1, B, hB, h2⟩ := h
    obtain ⟨B', hB', k, _⟩ := hk.own l B hB
    exact ⟨h1, B', hB', k _ _ h2⟩
  | .ptr l off, u, h => by
    simp only [RepAC] at h ⊢
    obtain ⟨h1, B, hB, h2⟩ := h
    obtain ⟨B', hB', _, k, _⟩ := hk.own l B hB
    exact ⟨h1, B', hB', k _ _ h2⟩
  | .ep l n i off, u, h => by
    simp only [RepAC] at h ⊢
    obtain ⟨h1, B, hB, h2⟩ := h
    obtain ⟨B', hB', _, _, k, _⟩ := hk.own l B hB
    exact ⟨h1, B', hB', k _ _ _ _ h2⟩
  | .ip cs, u, h => by
    simp only [RepAC] at h ⊢
    obtain ⟨b, o, h1, h2⟩ := h
    exact ⟨b, o, h1, RdCells.mono hs b o cs h2⟩
  | .clo f caps, u, h => by
    simp only [RepAC] at h ⊢
    obtain ⟨us, h1, h2⟩ := h
    exact ⟨us, h1, RepACs.mono hs hk caps us h2⟩
  | .tk k i, u, h => by
    simp only [RepAC] at h ⊢
    obtain ⟨h1, B, hB, h2⟩ := h
    obtain ⟨B', hB', _, _, _, k⟩ := hk.own k B hB
    exact ⟨h1, B', hB', k _ _ h2⟩
  | .d _, _, h => by simp only [RepAC] at h
  | .m _, _, h => by simp only [RepAC] at h
  | .any, _, h => by simpa only [RepAC] using h
theorem RepACs.mono {w w' : World} {F F' : Fz} {lb lb' : Lk} {g g' : Gh} (hs : Stays w w' F F') (hk : Keeps lb g lb' g') : ∀ (as : List AC) (us : List Value), RepACs w F lb g as us → RepACs w' F' lb' g' as us
  | [], us, h => by simpa only [RepACs] using h
  | a :: as, us, h => by
    simp only [RepACs] at h ⊢
    obtain ⟨u, us', h1, h2, h3⟩ := h
    exact ⟨u, us', h1, RepAC.mono hs hk a u h2, RepACs.mono hs hk as us' h3⟩
end
mutual
theorem RepAV.mono {w w' : World} {F F' : Fz} {lb lb' : Lk} {g g' : Gh} (hs : Stays w w' F F') (hk : Keeps lb g lb' g') : ∀ (v : AV) (u : Value), RepAV w F lb g v u → RepAV w' F' lb' g' v u
  | .one a, u, h => by simp only [RepAV] at h ⊢; exact RepAC.mono hs hk a u h
  | .agg as, u, h => by
    simp only [RepAV] at h ⊢
    obtain ⟨us, h1, h2⟩ := h
    exact ⟨us, h1, RepACs.mono hs hk as us h2⟩
  | .tup vs, u, h => by
    simp only [RepAV] at h ⊢
    obtain ⟨us, h1, h2⟩ := h
    exact ⟨us, h1, RepAVs.mono hs hk vs us h2⟩
  | .any, _, _ => by simp only [RepAV]
theorem RepAVs.mono {w w' : World} {F F' : Fz} {lb lb' : Lk} {g g' : Gh} (hs : Stays w w' F F') (hk : Keeps lb g lb' g') : ∀ (vs : List AV) (us : List Value), RepAVs w F lb g vs us → RepAVs w' F' lb' g' vs us
  | [], us, h => by simpa only [RepAVs] using h
  | a :: as, us, h => by
    simp only [RepAVs] at h ⊢
    obtain ⟨u, us', h1, h2, h3⟩ := h
    exact ⟨u, us', h1, RepAV.mono hs hk a u h2, RepAVs.mono hs hk as us' h3⟩
end

def RepCell (w : World) (F : Fz) (lb : Lk) (g : Gh) (a : AC) (u : Value) (S : List Nat) : Prop :=
  match a with
  | .d x => Own w x u S ∧ Rd w F x u
  | .m x => Own w x u S
  | a => RepAC w F lb g a u ∧ S = []
def RepCells (w : World) (F : Fz) (lb : Lk) (g : Gh) : List AC → List Value → List Nat → Prop
  | [], us, S => us = [] ∧ S = []
  | a :: as, us, S => ∃ u us' S1 S2, us = u :: us' ∧ S = S1 ++ S2 ∧ RepCell w F lb g a u S1 ∧ RepCells w F lb g as us' S2

theorem RepCell.one {w : World} {F : Fz} {lb : Lk} {g : Gh} {a : AC} {u : Value} {S : List Nat} (h : RepCell w F lb g a u S) : u.oneCell' = true := by
  cases a
  case d x => exact h.2.one
  case m x => exact Own.one h
  all_goals exact h.1.one

theorem RepCell.mono {w w' : World} {F F' : Fz} {lb lb' : Lk} {g g' : Gh} (hs : Stays w w' F F') (hk : Keeps lb g lb' g') {a : AC} {u : Value} {S : List Nat}
    (hb : ∀ b, b ∈ S → w'.heap[b]? = w.heap[b]?) (h : RepCell w F lb g a u S) : RepCell w' F' lb' g' a u S := by
  cases a
  case d x => exact ⟨Own.mono x u S hb h.1, Rd.mono hs x u h.2⟩
  case m x => exact Own.mono x u S hb h
  all_goals exact ⟨RepAC.mono hs hk _ u h.1, h.2⟩

theorem RepCells.mono {w w' : World} {F F' : Fz} {lb lb' : Lk} {g g' : Gh} (hs : Stays w w' F F') (hk : Keeps lb g lb' g') : ∀ (as : List AC) (us : List Value) (S : List Nat),
    (∀ b, b ∈ S → w'.heap[b]? = w.heap[b]?) → RepCells w F lb g as us S → RepCells w' F' lb' g' as us S
  | [], _, _, _, h => by simpa only [RepCells] using h
  | a :: as, us, S, hb, h => by
    simp only [RepCells] at h ⊢
    obtain ⟨u, us', S1, S2, h1, h2, h3, h4⟩ := h
    subst h2
    exact ⟨u, us', S1, S2, h1, rfl, h3.mono hs hk (fun b hb' => hb b (by simp [hb'])), RepCells.mono hs hk as us' S2 (fun b hb' => hb b (by simp [hb'])) h4⟩

theorem RepCells.len {w : World} {F : Fz} {lb : Lk} {g : Gh} : ∀ (as : List AC) (us : List Value) (S : List Nat), RepCells w F lb g as us S → as.length = us.length
  | [], _, _, h => by simp only [RepCells] at h; simp [h.1]
  | a :: as, us, S, h => by
    simp only [RepCells] at h
    obtain ⟨u, us', S1, S2, h1, h2, h3, h4⟩ := h
    subst h1
    simp [RepCells.len as us' S2 h4]
theorem RepACs.len {w : World} {F : Fz} {lb : Lk} {g : Gh} : ∀ (as : List AC) (us : List Value), RepACs w F lb g as us → as.length = us.length
  | [], _, h => by simp only [RepACs] at h; simp [h]
  | a :: as, us, h => by
    simp only [RepACs] at h
    obtain ⟨u, us', h1, h2, h3⟩ := h
    subst h1
    simp [RepACs.len as us' h3]

def blkOf (v : Value) : List Nat := v.ownBlock.toList

def RepLB (w : World) (F : Fz) (lb : Lk) (g : Gh) (l : Nat) : LB → Prop
  | .var cells => ∃ cs e, w.heap[g.bl l]? = some (.cells cs.toArray e (0, 0)) ∧ RepACs w F lb g cells cs ∧ g.ds l = [g.bl l]
  | .arr e sz rows _ => 0 < sz ∧ (∀ r, r ∈ rows → r.length = sz) ∧ ∃ xs S, w.ownsRow 0 e sz (g.hd l) rows.length xs ∧ RepCells w F lb g rows.flatten xs S ∧ g.ds l = blkOf (g.hd l) ++ S
  | .tok xs => ∃ us : List Value, g.hd l = .agg us.toArray ∧ OwnTs w xs us (g.ds l)
  | .dead => True

theorem ownsRow_heap {w w' : World} {base : Nat} {e : TypeId} {sz : Nat} {v : Value} {n : Nat} {xs : List Value} (h : w.ownsRow base e sz v n xs)
    (hb : ∀ b, b ∈ blkOf v → w'.heap[b]? = w.heap[b]?) : w'.ownsRow base e sz v n xs := by
  obtain ⟨h1, h2⟩ := h
  refine ⟨h1, ?_⟩
  rcases h2 with h2 | ⟨gg, cap, cur, hv, hg, hh, r⟩
  · exact .inl h2
  · exact .inr ⟨gg, cap, cur, hv, hg, by rw [hb gg (by subst hv; simp [blkOf, Value.ownBlock])]; exact hh, r⟩

theorem RepLB.mono {w w' : World} {F F' : Fz} {lb lb' : Lk} {g g' : Gh} (hs : Stays w w' F F') (hk : Keeps lb g lb' g') {l : Nat} {B : LB}
    (e1 : g'.bl l = g.bl l) (e2 : g'.hd l = g.hd l) (e3 : g'.ds l = g.ds l)
    (hb : ∀ b, b ∈ g.ds l → w'.heap[b]? = w.heap[b]?) (h : RepLB w F lb g l B) : RepLB w' F' lb' g' l B := by
  cases B with
  | var cells =>
    obtain ⟨cs, e, h1, h2, h3⟩ := h
    refine ⟨cs, e, ?_, RepACs.mono hs hk _ _ h2, by rw [e3, e1]; exact h3⟩
    rw [e1, hb _ (by rw [h3]; simp)]
    exact h1
  | arr e sz rows fz =>
    obtain ⟨h1, h2, xs, S, h3, h4, h5⟩ := h
    refine ⟨h1, h2, xs, S, ?_, RepCells.mono hs hk _ _ _ (fun b hb' => hb b (by rw [h5]; simp [hb'])) h4, by rw [e3, e2]; exact h5⟩
    rw [e2]
    exact ownsRow_heap h3 (fun b hb' => hb b (by rw [h5]; simp [hb']))
  | tok x =>
    simp only [RepLB] at h ⊢
    rw [e2, e3]
    obtain ⟨us, h1, h2⟩ := h
    exact ⟨us, h1, OwnTs.mono _ _ _ hb h2⟩
  | dead => trivial

/-- A block that nothing frozen lies in. -/
def LB.soft : LB → Bool
  | .var _ => true
  | .arr _ _ _ fz => !fz
  | .tok _ => true
  | .dead => false

def isD : AC → Bool
  | .d _ => true
  | _ => false
/-- No owned data that is frozen. -/
def noD (rows : List (List AC)) : Bool := rows.all fun r => r.all fun x => !isD x
/-- Where frozen cells may lie in a block of a local's. -/
def SoftOk (F : Fz) (g : Gh) (l : Nat) : LB → Prop
  | .var _ => ∀ o, ¬ F (g.bl l) o
  | .arr _ sz rows fz => (∀ b, b ∈ blkOf (g.hd l) → ∀ o, (fz = false ∨ rows.length * sz ≤ o) → ¬ F b o) ∧ (fz = false → noD rows = true → ∀ b, b ∈ g.ds l → ∀ o, ¬ F b o)
  | .tok _ => ∀ b, b ∈ g.ds l → ∀ o, ¬ F b o
  | .dead => True

structure Sim (w0 : World) (M0 : Ms) (F0 F : Fz) (g : Gh) (s : St) (a : Act) (w : World) : Prop where
  sz : a.tmps.size = s.n
  df : a.defers = []
  sl : ∀ i, RepAV w F s.lb g (s.sl i) (a.tmps.getD i undef)
  gh : RepAVs w F s.lb g s.gh M0.gv
  lb : ∀ l B, s.lb l = some B → RepLB w F s.lb g l B
  so : ∀ l B, s.lb l = some B → SoftOk F g l B
  nd : ∀ l B, s.lb l = some B → (g.ds l).Nodup
  dj : ∀ l l' B B', l ≠ l' → s.lb l = some B → s.lb l' = some B' → ∀ b, b ∈ g.ds l → b ∉ g.ds l'
  nw : ∀ l B, s.lb l = some B → ∀ b, b ∈ g.ds l → (w0.heap.size ≤ b ∨ b ∈ M0) ∧ b < w.heap.size
  f0 : ∀ b o, F0 b o → F b o
  f1 : ∀ b o, F b o → F0 b o ∨ w0.heap.size ≤ b ∨ b ∈ M0
  f2 : ∀ b o, F b o → b < w.heap.size
  os : w.os = w0.os
  tape : w.tape = w0.tape
  output : w.output = w0.output
  size : w0.heap.size ≤ w.heap.size
  block : ∀ k, k < w0.heap.size → k ∉ M0 → w.heap[k]? = w0.heap[k]?

end Go.Ai
