/- How a simulation is carried on: a slot is set, the world grows, a variable or a row is new, a variable or a row's element is written, a row grows. -/
import Derived.Test.YtdjleacnjijbjaaAiState
namespace Go.Ai
set_option linter.unusedVariables false
set_option linter.unusedSimpArgs false
open Go.RowKit

variable {w0 : World} {M0 : Ms} {F0 F F' : Fz} {g g' : Gh} {s : St} {a : Act} {w w' : World}

@[simp] theorem St.set_lb (s : St) (d : Option Tmp) (v : AV) : (s.set d v).lb = s.lb := by cases d <;> rfl
@[simp] theorem St.set_gh (s : St) (d : Option Tmp) (v : AV) : (s.set d v).gh = s.gh := by cases d <;> rfl
@[simp] theorem St.put_gh (s : St) (l : Nat) (B : LB) : (s.put l B).gh = s.gh := rfl
@[simp] theorem St.set_n (s : St) (d : Option Tmp) (v : AV) : (s.set d v).n = s.n := by cases d <;> rfl
@[simp] theorem St.put_n (s : St) (l : Nat) (B : LB) : (s.put l B).n = s.n := rfl
@[simp] theorem St.put_sl (s : St) (l : Nat) (B : LB) : (s.put l B).sl = s.sl := rfl
theorem St.set_sl (s : St) (d : Tmp) (v : AV) (t : Nat) : (s.set (some d) v).sl t = if t = d then v else s.sl t := rfl
theorem St.put_lb (s : St) (l : Nat) (B : LB) (k : Nat) : (s.put l B).lb k = if k = l then some B else s.lb k := rfl
@[simp] theorem St.set_none (s : St) (v : AV) : s.set none v = s := rfl

theorem Sim.set (h : Sim w0 M0 F0 F g s a w) {d : Tmp} {v : AV} {u : Value} (hd : d < s.n) (hv : RepAV w F s.lb g v u) :
    Sim w0 M0 F0 F g (s.set (some d) v) (a.put (some d) u) w where
  sz := by simp [Act.put, h.sz]
  df := h.df
  sl := fun i => by
    have hi := h.sl i
    by_cases e : i = d
    · subst e
      simp only [St.set_sl, if_true, St.set_lb, Act.put]
      have : i < a.tmps.size := by rw [h.sz]; exact hd
      simpa [Array.getD, this] using hv
    · simp only [St.set_sl, if_neg e, St.set_lb, Act.put]
      simp only [Array.getD_eq_getD_getElem?] at hi ⊢
      rw [Array.getElem?_setIfInBounds_ne (Ne.symm e)]
      exact hi
  gh := h.gh
  lb := h.lb
  so := h.so
  nd := h.nd
  dj := h.dj
  nw := h.nw
  f0 := h.f0
  f1 := h.f1
  f2 := h.f2
  os := h.os
  tape := h.tape
  output := h.output
  size := h.size
  block := h.block

/-- An optional slot. -/
theorem Sim.set? (h : Sim w0 M0 F0 F g s a w) {d : Option Tmp} {v : AV} {u : Value} (hd : ∀ t, d = some t → t < s.n) (hv : RepAV w F s.lb g v u) :
    Sim w0 M0 F0 F g (s.set d v) (a.put d u) w := by
  cases d with
  | none => exact h
  | some t => exact h.set (hd t rfl) hv

/-- What the world around may do: grow, and turn what is neither a local's nor frozen nor older than the call. -/
structure Grows (w0 : World) (M0 : Ms) (F F' : Fz) (g : Gh) (s : St) (w w' : World) : Prop where
  stays : Stays w w' F F'
  mine : ∀ l B, s.lb l = some B → ∀ b, b ∈ g.ds l → w'.heap[b]? = w.heap[b]?
  so : ∀ l B, s.lb l = some B → SoftOk F' g l B
  f1 : ∀ b o, F' b o → F b o ∨ w0.heap.size ≤ b ∨ b ∈ M0
  f2 : ∀ b o, F' b o → b < w'.heap.size
  os : w'.os = w.os
  tape : w'.tape = w.tape
  output : w'.output = w.output
  size : w.heap.size ≤ w'.heap.size
  block : ∀ k, k < w0.heap.size → k ∉ M0 → w'.heap[k]? = w.heap[k]?

theorem Sim.grows (h : Sim w0 M0 F0 F g s a w) (k : Grows w0 M0 F F' g s w w') : Sim w0 M0 F0 F' g s a w' where
  sz := h.sz
  df := h.df
  sl := fun i => RepAV.mono k.stays (Keeps.refl _ _) _ _ (h.sl i)
  gh := RepAVs.mono k.stays (Keeps.refl _ _) _ _ h.gh
  lb := fun l B hl => RepLB.mono k.stays (Keeps.refl _ _) rfl rfl rfl (k.mine l B hl) (h.lb l B hl)
  so := k.so
  nd := h.nd
  dj := h.dj
  nw := fun l B hl b hb => ⟨(h.nw l B hl b hb).1, Nat.lt_of_lt_of_le (h.nw l B hl b hb).2 k.size⟩
  f0 := fun b o hb => k.stays.up b o (h.f0 b o hb)
  f1 := fun b o hb => (k.f1 b o hb).elim (h.f1 b o) .inr
  f2 := k.f2
  os := k.os.trans h.os
  tape := k.tape.trans h.tape
  output := k.output.trans h.output
  size := Nat.le_trans h.size k.size
  block := fun i hi hm => (k.block i hi hm).trans (h.block i hi hm)

theorem cell_of_heap {w w' : World} {b : Nat} (h : w'.heap[b]? = w.heap[b]?) (o : Nat) : w'.cell? ⟨b, o, none⟩ = w.cell? ⟨b, o, none⟩ := by simp [World.cell?, h]

/-- Only the draws turn. -/
theorem Sim.drew (h : Sim w0 M0 F0 F g s a w) : Sim w0 M0 F0 F g s a { w with drawn := w.drawn + 1 } :=
  h.grows ⟨⟨fun _ _ hb => hb, fun _ _ _ => rfl⟩, fun _ _ _ _ _ => rfl, h.so, fun _ _ hb => .inl hb, h.f2, rfl, rfl, rfl, Nat.le_refl _, fun _ _ _ => rfl⟩

/-- A new block that no local bears yet. -/
theorem Sim.alloc (h : Sim w0 M0 F0 F g s a w) (o : Obj) : Sim w0 M0 F0 F g s a (w.alloc o) := by
  have hh : ∀ k, k < w.heap.size → (w.alloc o).heap[k]? = w.heap[k]? := fun k hk => heap_alloc_old w o k hk
  refine h.grows ⟨⟨fun _ _ hb => hb, fun b o' hb => cell_of_heap (hh b (h.f2 b o' hb)) o'⟩, fun l B hl b hb => hh b (h.nw l B hl b hb).2, h.so, fun _ _ hb => .inl hb, ?_, rfl, rfl, rfl, ?_, fun k hk _ => hh k (Nat.lt_of_lt_of_le hk h.size)⟩
  · intro b o' hb; have := h.f2 b o' hb; simp; omega
  · simp

def Gh.upd (g : Gh) (l b : Nat) (v : Value) (S : List Nat) : Gh :=
  { bl := fun k => if k = l then b else g.bl k, hd := fun k => if k = l then v else g.hd k, ds := fun k => if k = l then S else g.ds k }

theorem Keeps.upd {lb : Lk} {g : Gh} {l : Nat} {b : Nat} {v : Value} {S : List Nat} {B' : LB}
    (hc : ∀ B, lb l = some B → (∀ n u, okOwnB B (g.hd l) n u → okOwnB B' v n u) ∧ (∀ off u, okPtrB B (g.bl l) off u → okPtrB B' b off u) ∧
      (∀ n i off u, okEpB B (g.hd l) n i off u → okEpB B' v n i off u) ∧ (∀ i u, okTkB B (g.hd l) i u → okTkB B' v i u)) :
    Keeps lb g (fun k => if k = l then some B' else lb k) (g.upd l b v S) := by
  constructor
  intro k B hB
  by_cases e : k = l
  · subst e
    exact ⟨B', by simp, by simpa [Gh.upd] using hc B hB⟩
  · exact ⟨B, by simp [e, hB], by simp [Gh.upd, e]⟩

/-- A local block is new, or turned: B' at l, with the blocks S. -/
theorem Sim.putLB (h : Sim w0 M0 F0 F g s a w) {l b : Nat} {v : Value} {S : List Nat} {B' : LB}
    (hc : ∀ B, s.lb l = some B → (∀ n u, okOwnB B (g.hd l) n u → okOwnB B' v n u) ∧ (∀ off u, okPtrB B (g.bl l) off u → okPtrB B' b off u) ∧
      (∀ n i off u, okEpB B (g.hd l) n i off u → okEpB B' v n i off u) ∧ (∀ i u, okTkB B (g.hd l) i u → okTkB B' v i u))
    (hr : RepLB w F (s.put l B').lb (g.upd l b v S) l B') (hs : SoftOk F (g.upd l b v S) l B') (hn : S.Nodup)
    (hd : ∀ l' B, l' ≠ l → s.lb l' = some B → ∀ k, k ∈ S → k ∉ g.ds l') (hw : ∀ k, k ∈ S → (w0.heap.size ≤ k ∨ k ∈ M0) ∧ k < w.heap.size) :
    Sim w0 M0 F0 F (g.upd l b v S) (s.put l B') a w := by
  have K : Keeps s.lb g (s.put l B').lb (g.upd l b v S) := Keeps.upd hc
  have ne : ∀ k, k ≠ l → (g.upd l b v S).bl k = g.bl k ∧ (g.upd l b v S).hd k = g.hd k ∧ (g.upd l b v S).ds k = g.ds k := fun k hk => by simp [Gh.upd, hk]
  have at_ : ∀ k B, k ≠ l → (s.put l B').lb k = some B → s.lb k = some B := fun k B hk hB => by simpa [St.put_lb, hk] using hB
  have at_l : ∀ B, (s.put l B').lb l = some B → B = B' := fun B hB => by simpa [St.put_lb, eq_comm] using hB
  have dl : (g.upd l b v S).ds l = S := by simp [Gh.upd]
  exact {
    sz := h.sz
    df := h.df
    sl := fun i => RepAV.mono (Stays.refl _ _) K _ _ (h.sl i)
    gh := RepAVs.mono (Stays.refl _ _) K _ _ h.gh
    lb := fun k B hB => by
      by_cases e : k = l
      · subst e; rw [at_l B hB]; exact hr
      · exact RepLB.mono (Stays.refl _ _) K (ne k e).1 (ne k e).2.1 (ne k e).2.2 (fun _ _ => rfl) (h.lb k B (at_ k B e hB))
    so := fun k B hB => by
      by_cases e : k = l
      · subst e; rw [at_l B hB]; exact hs
      · have := h.so k B (at_ k B e hB)
        cases B <;> first | exact True.intro | simpa [SoftOk, (ne k e).1, (ne k e).2.1, (ne k e).2.2] using this
    nd := fun k B hB => by
      by_cases e : k = l
      · subst e; rw [dl]; exact hn
      · rw [(ne k e).2.2]; exact h.nd k B (at_ k B e hB)
    dj := fun k k' B B'' hkk hB hB'' => by
      by_cases e : k = l
      · subst e
        rw [dl, (ne k' (Ne.symm hkk)).2.2]
        exact hd k' B'' (Ne.symm hkk) (at_ k' B'' (Ne.symm hkk) hB'')
      · by_cases e' : k' = l
        · subst e'
          rw [dl, (ne k e).2.2]
          exact fun x hx hx' => hd k B e (at_ k B e hB) x hx' hx
        · rw [(ne k e).2.2, (ne k' e').2.2]
          exact h.dj k k' B B'' hkk (at_ k B e hB) (at_ k' B'' e' hB'')
    nw := fun k B hB => by
      by_cases e : k = l
      · subst e; rw [dl]; exact hw
      · rw [(ne k e).2.2]; exact h.nw k B (at_ k B e hB)
    f0 := h.f0
    f1 := h.f1
    f2 := h.f2
    os := h.os
    tape := h.tape
    output := h.output
    size := h.size
    block := h.block }

/-- A new variable. -/
theorem Sim.newVar (h : Sim w0 M0 F0 F g s a w) {d : Nat} {cells : List AC} {cs : List Value} (e : TypeId) (hd : s.lb d = none) (hc : RepACs w F s.lb g cells cs) :
    ∃ g', Sim w0 M0 F0 F g' (s.put d (.var cells)) a (w.alloc (.cells cs.toArray e)) ∧ g'.bl d = w.heap.size ∧ g'.hd = g.hd := by
  have h1 := h.alloc (.cells cs.toArray e)
  have hF : ∀ o, ¬ F w.heap.size o := fun o hf => Nat.lt_irrefl _ (h.f2 _ o hf)
  have K : Keeps s.lb g (s.put d (.var cells)).lb (g.upd d w.heap.size (g.hd d) [w.heap.size]) := Keeps.upd (fun B hB => by rw [hd] at hB; cases hB)
  refine ⟨g.upd d w.heap.size (g.hd d) [w.heap.size], h1.putLB (fun B hB => by rw [hd] at hB; cases hB) ?_ ?_ ?_ ?_ ?_, by simp [Gh.upd], ?_⟩
  · refine ⟨cs, e, ?_, ?_, by simp [Gh.upd]⟩
    · simp only [Gh.upd, if_true]; exact heap_alloc_new w _
    · refine RepACs.mono ⟨fun _ _ hb => hb, fun b o hb => cell_of_heap (heap_alloc_old w _ b (h.f2 b o hb)) o⟩ K _ _ hc
  · simpa [SoftOk, Gh.upd] using hF
  · simp
  · intro l' B _ hB k hk hk'
    simp at hk; subst hk
    exact Nat.lt_irrefl _ (h.nw l' B hB _ hk').2
  · intro k hk
    simp at hk; subst hk
    exact ⟨.inl h.size, by simp⟩
  · funext k; simp only [Gh.upd]; split <;> simp_all

theorem RepACs.cells {w : World} {F : Fz} {lb : Lk} {g : Gh} : ∀ (as : List AC) (us : List Value), RepACs w F lb g as us → RepCells w F lb g as us []
  | [], us, h => by simp only [RepACs] at h; simp [RepCells, h]
  | a :: as, us, h => by
    simp only [RepACs] at h
    obtain ⟨u, us', h1, h2, h3⟩ := h
    refine ⟨u, us', [], [], h1, rfl, ?_, RepACs.cells as us' h3⟩
    cases a <;> first | exact ⟨h2, rfl⟩ | (simp only [RepAC] at h2)

/-- A new row: its cells are known, nothing is owned by its elements. -/
theorem Sim.newRow (h : Sim w0 M0 F0 F g s a w) {d : Nat} {e : TypeId} {sz : Nat} {rows : List (List AC)} {cs : List Value} {cap : Nat} (hd : s.lb d = none) (hsz : 0 < sz)
    (hr : ∀ r, r ∈ rows → r.length = sz) (hcap : rows.length ≤ cap) (hmax : cap ≤ maxLen) (hlen : cs.length = cap * sz) (hc : RepACs w F s.lb g rows.flatten (cs.take (rows.length * sz))) :
    ∃ g', Sim w0 M0 F0 F g' (s.put d (.arr e sz rows false)) a (w.alloc (.cells cs.toArray e)) ∧ g'.hd d = .slice (some ⟨w.heap.size, 0, none⟩) rows.length cap ∧ g'.bl = g.bl := by
  have h1 := h.alloc (.cells cs.toArray e)
  have hF : ∀ o, ¬ F w.heap.size o := fun o hf => Nat.lt_irrefl _ (h.f2 _ o hf)
  have K : Keeps s.lb g (s.put d (.arr e sz rows false)).lb (g.upd d (g.bl d) (.slice (some ⟨w.heap.size, 0, none⟩) rows.length cap) [w.heap.size]) := Keeps.upd (fun B hB => by rw [hd] at hB; cases hB)
  have hlf : rows.flatten.length = rows.length * sz := by
    clear hc hcap hlen K
    induction rows with
    | nil => simp
    | cons r rs ih => simp [hr r (by simp), ih (fun q hq => hr q (by simp [hq])), Nat.add_mul]; omega
  refine ⟨g.upd d (g.bl d) (.slice (some ⟨w.heap.size, 0, none⟩) rows.length cap) [w.heap.size], h1.putLB (fun B hB => by rw [hd] at hB; cases hB) ?_ ?_ ?_ ?_ ?_, by simp [Gh.upd], ?_⟩
  · refine ⟨hsz, hr, cs.take (rows.length * sz), [], ?_, ?_, by simp [Gh.upd, blkOf, Value.ownBlock]⟩
    · refine ⟨?_, .inr ⟨w.heap.size, cap, cs.toArray, by simp [Gh.upd], Nat.zero_le _, heap_alloc_new w _, hcap, hmax, by simp [hlen], by simp⟩⟩
      have := RepACs.len _ _ hc
      rw [hlf] at this; exact this.symm
    · exact RepACs.cells _ _ (RepACs.mono ⟨fun _ _ hb => hb, fun b o hb => cell_of_heap (heap_alloc_old w _ b (h.f2 b o hb)) o⟩ K _ _ hc)
  · simp only [SoftOk, Gh.upd, if_true, blkOf, Value.ownBlock, Option.toList, List.mem_singleton]
    refine ⟨by rintro b rfl o _; exact hF o, fun _ _ b hb o => ?_⟩
    rw [hb]; exact hF o
  · simp
  · intro l' B _ hB k hk hk'
    simp at hk; subst hk
    exact Nat.lt_irrefl _ (h.nw l' B hB _ hk').2
  · intro k hk
    simp at hk; subst hk
    exact ⟨.inl h.size, by simp⟩
  · funext k; simp only [Gh.upd]; split <;> simp_all

end Go.Ai
