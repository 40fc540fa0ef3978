/- Contracts with owned results: what comes back lies in blocks of its own, new since the call began. -/
import Derived.Test.YtdjleacnjijbjaaAiCall
namespace Go.Ai
set_option linter.unusedVariables false
set_option linter.unusedSimpArgs false
open Go.RowKit

variable {P : Program}

def OwnR1 (w : World) (r : AV) (v : Value) (S : List Nat) : Prop :=
  match r with
  | .one (.c x) => Own w x v S
  | .agg as => ∃ (cs : List C) (us : List Value), as = cs.map .c ∧ v = .agg us.toArray ∧ OwnCells w cs us S
  | _ => False
def OwnRs (w : World) : List AV → List Value → List Nat → Prop
  | [], us, S => us = [] ∧ S = []
  | r :: rs, us, S => ∃ u us' S1 S2, us = u :: us' ∧ S = S1 ++ S2 ∧ OwnR1 w r u S1 ∧ OwnRs w rs us' S2
def OwnR (w : World) (r : AV) (v : Value) (S : List Nat) : Prop :=
  match r with
  | .tup vs => ∃ us : List Value, v = .tuple us.toArray ∧ OwnRs w vs us S
  | r => OwnR1 w r v S

/-- A contract whose result is owned and new. -/
def SatF (P : Program) (f : FuncId) (args : List AV) (r : AV) : Prop :=
  Callable P f ∧ ∀ (w : World) (F : Fz) (us : List Value), (∀ b o, F b o → b < w.heap.size) → RepAVs w F noLk g0 args us →
    Calls P f us.toArray w fun e w' => ∃ v S, e = .returned v ∧ Below w.heap.size w w' ∧ OwnR w' r v S ∧ S.Nodup ∧ ∀ b, b ∈ S → w.heap.size ≤ b ∧ b < w'.heap.size

theorem OwnCells.rep {w : World} {F : Fz} {lb : Lk} {g : Gh} : ∀ (cs : List C) (us : List Value) (S : List Nat), (∀ b o, b ∈ S → F b o) → OwnCells w cs us S → RepACs w F lb g (cs.map .c) us
  | [], us, S, _, h => by simp only [OwnCells] at h; simp [RepACs, h.1]
  | c :: cs, us, S, hF, h => by
    simp only [OwnCells] at h
    obtain ⟨u, us', S1, S2, rfl, rfl, h1, h2⟩ := h
    simp only [List.map_cons, RepACs]
    exact ⟨u, us', rfl, by simpa only [RepAC] using Own.rd c u S1 (fun b o hb => hF b o (by simp [hb])) h1, OwnCells.rep cs us' S2 (fun b o hb => hF b o (by simp [hb])) h2⟩
theorem OwnR1.rep {w : World} {F : Fz} {lb : Lk} {g : Gh} {r : AV} {v : Value} {S : List Nat} (hF : ∀ b o, b ∈ S → F b o) (h : OwnR1 w r v S) : RepAV w F lb g r v := by
  unfold OwnR1 at h
  split at h
  · simp only [RepAV, RepAC]; exact Own.rd _ _ S hF h
  · obtain ⟨cs, us, rfl, rfl, h⟩ := h
    simp only [RepAV]
    exact ⟨us, rfl, OwnCells.rep cs us S hF h⟩
  · exact h.elim
theorem OwnRs.rep {w : World} {F : Fz} {lb : Lk} {g : Gh} : ∀ (rs : List AV) (us : List Value) (S : List Nat), (∀ b o, b ∈ S → F b o) → OwnRs w rs us S → RepAVs w F lb g rs us
  | [], us, S, _, h => by simp only [OwnRs] at h; simp [RepAVs, h.1]
  | r :: rs, us, S, hF, h => by
    simp only [OwnRs] at h
    obtain ⟨u, us', S1, S2, rfl, rfl, h1, h2⟩ := h
    simp only [RepAVs]
    exact ⟨u, us', rfl, OwnR1.rep (fun b o hb => hF b o (by simp [hb])) h1, OwnRs.rep rs us' S2 (fun b o hb => hF b o (by simp [hb])) h2⟩
theorem OwnR.rep {w : World} {F : Fz} {lb : Lk} {g : Gh} {r : AV} {v : Value} {S : List Nat} (hF : ∀ b o, b ∈ S → F b o) (h : OwnR w r v S) : RepAV w F lb g r v := by
  unfold OwnR at h
  split at h
  · obtain ⟨us, rfl, h⟩ := h
    simp only [RepAV]
    exact ⟨us, rfl, OwnRs.rep _ us S hF h⟩
  · exact OwnR1.rep hF h

theorem SatF.sat {f : FuncId} {args : List AV} {r : AV} (h : SatF P f args r) : Sat P f args r := by
  refine ⟨h.1, fun w F us hF hr => (h.2 w F us hF hr).mono ?_⟩
  rintro e w' ⟨v, S, rfl, hb, ho, _, hS⟩
  refine ⟨v, fun b o => F b o ∨ b ∈ S, rfl, hb, fun _ _ h => .inl h, fun b o h => h.imp id (fun h => (hS b h).1), fun b o h => ?_, OwnR.rep (fun b o h => .inr h) ho⟩
  rcases h with h | h
  · exact Nat.lt_of_lt_of_le (hF b o h) hb.size
  · exact (hS b h).2

/-! ### Data without a slice -/
def plainC : C → Bool
  | .v _ => true
  | .sl _ => false
def plainA : AC → Bool
  | .c x => plainC x
  | _ => false
def plainR1 : AV → Bool
  | .one a => plainA a
  | .agg as => as.all plainA
  | _ => false
def plainR : AV → Bool
  | .tup vs => vs.all plainR1
  | r => plainR1 r
section
variable {w w' : World} {F F' : Fz} {lb lb' : Lk} {g g' : Gh}
theorem plainA_rep {a : AC} {u : Value} (hp : plainA a = true) (h : RepAC w F lb g a u) : RepAC w' F' lb' g' a u := by
  cases a with
  | c x => cases x with
    | v x => simpa only [RepAC, Rd] using h
    | sl rows => cases hp
  | _ => cases hp
theorem plainAs_rep : ∀ {as : List AC} {us : List Value}, as.all plainA = true → RepACs w F lb g as us → RepACs w' F' lb' g' as us
  | [], us, _, h => by simpa only [RepACs] using h
  | a :: as, us, hp, h => by
    simp only [List.all_cons, Bool.and_eq_true] at hp
    simp only [RepACs] at h ⊢
    obtain ⟨u, us', rfl, h1, h2⟩ := h
    exact ⟨u, us', rfl, plainA_rep hp.1 h1, plainAs_rep hp.2 h2⟩
theorem plainR1_rep {v : AV} {u : Value} (hp : plainR1 v = true) (h : RepAV w F lb g v u) : RepAV w' F' lb' g' v u := by
  cases v with
  | one a => simp only [RepAV] at h ⊢; exact plainA_rep hp h
  | agg as =>
    simp only [RepAV] at h ⊢
    obtain ⟨us, h1, h2⟩ := h
    exact ⟨us, h1, plainAs_rep hp h2⟩
  | _ => cases hp
theorem plainRs_rep : ∀ {vs : List AV} {us : List Value}, vs.all plainR1 = true → RepAVs w F lb g vs us → RepAVs w' F' lb' g' vs us
  | [], us, _, h => by simpa only [RepAVs] using h
  | v :: vs, us, hp, h => by
    simp only [List.all_cons, Bool.and_eq_true] at hp
    simp only [RepAVs] at h ⊢
    obtain ⟨u, us', rfl, h1, h2⟩ := h
    exact ⟨u, us', rfl, plainR1_rep hp.1 h1, plainRs_rep hp.2 h2⟩
theorem plainR_rep {v : AV} {u : Value} (hp : plainR v = true) (h : RepAV w F lb g v u) : RepAV w' F' lb' g' v u := by
  cases v with
  | tup vs =>
    simp only [RepAV] at h ⊢
    obtain ⟨us, h1, h2⟩ := h
    exact ⟨us, h1, plainRs_rep hp h2⟩
  | one a => exact plainR1_rep hp h
  | agg as => exact plainR1_rep hp h
  | any => cases hp
end

/-! ### What a state's value shows as data, its rows and owned values lent for a while -/
def ViewB (lb : Lk) (a : AC) (x : C) : Prop :=
  match a with
  | .tk k i => ∃ xs, lb k = some (.tok xs) ∧ xs[i]? = some (some x)
  | a => ViewC lb a x
def ViewBs (lb : Lk) : List AC → List AC → Prop
  | [], ys => ys = []
  | a :: as, ys => ∃ x ys', ys = .c x :: ys' ∧ ViewB lb a x ∧ ViewBs lb as ys'
def ViewBV (lb : Lk) (v d : AV) : Prop :=
  match v with
  | .one a => ∃ x, d = .one (.c x) ∧ ViewB lb a x
  | .agg as => ∃ ys, d = .agg ys ∧ ViewBs lb as ys
  | _ => False
def ViewBVs (lb : Lk) : List AV → List AV → Prop
  | [], ds => ds = []
  | v :: vs, ds => ∃ d ds', ds = d :: ds' ∧ ViewBV lb v d ∧ ViewBVs lb vs ds'

section
variable {w0 : World} {M0 : Ms} {F0 F : Fz} {g : Gh} {s : St} {a : Act} {w w' : World}
/-- All that the locals own, frozen too. -/
def LentF (s : St) (g : Gh) (F : Fz) : Fz := fun b o => F b o ∨ ∃ l B, s.lb l = some B ∧ b ∈ g.ds l
theorem tok_get (h : Sim w0 M0 F0 F g s a w) {k i : Nat} {xs : List (Option C)} {x : C} (hl : s.lb k = some (.tok xs)) (hx : xs[i]? = some (some x)) {u : Value} (hu : RepAC w F s.lb g (.tk k i) u) :
    ∃ S, Own w x u S ∧ ∀ b, b ∈ S → b ∈ g.ds k := by
  simp only [RepAC] at hu
  obtain ⟨_, B, hB, hq⟩ := hu
  rw [hl] at hB
  obtain rfl := Option.some.inj hB
  obtain ⟨us, hq1, hq2⟩ := hq
  obtain ⟨us', h1, h2⟩ := h.lb k _ hl
  rw [hq1] at h1
  obtain rfl : us = us' := by simpa using h1
  obtain ⟨u', SA, Si, SB, h3, h4, h5, _⟩ := OwnTs.get _ _ _ _ _ h2 hx
  rw [hq2] at h3
  obtain rfl := Option.some.inj h3
  exact ⟨Si, h5, fun b hb => by rw [h4]; simp [hb]⟩
theorem tk_rep {F F' : Fz} {lb lb' : Lk} {g g' : Gh} {k i : Nat} {u : Value} (h : RepAC w F lb g (.tk k i) u) : RepAC w F' lb g (.tk k i) u := by simpa only [RepAC] using h
theorem viewB_sound (h : Sim w0 M0 F0 F g s a w) {x : AC} {y : C} (hv : ViewB s.lb x y) {u : Value} (hu : RepAC w F s.lb g x u) : Rd w (LentF s g F) y u := by
  have gen : ViewC s.lb x y → Rd w (LentF s g F) y u := fun hv => by
    refine viewC_sound h (fun b o hb => .inl hb) hv (RepAC.mono ⟨fun b o hb => .inl hb, fun _ _ _ => rfl⟩ (Keeps.refl _ _) _ _ hu) (fun l _ e sz rows fz hl b o hb _ => .inr ⟨l, _, hl, ?_⟩)
    obtain ⟨_, _, _, _, _, _, hd⟩ := h.lb l _ hl
    rw [hd]; simp [hb]
  cases x
  case tk k i =>
    obtain ⟨xs, hl, hx⟩ := hv
    obtain ⟨S, h1, h2⟩ := tok_get h hl hx hu
    exact Own.rd _ _ S (fun b o hb => .inr ⟨k, _, hl, h2 b hb⟩) h1
  all_goals exact gen hv
theorem viewBs_sound (h : Sim w0 M0 F0 F g s a w) : ∀ (xs ys : List AC) (us : List Value), ViewBs s.lb xs ys → RepACs w F s.lb g xs us → RepACs w (LentF s g F) noLk g0 ys us
  | [], ys, us, hv, hu => by simp only [ViewBs] at hv; subst hv; simpa only [RepACs] using hu
  | x :: xs, ys, us, hv, hu => by
    simp only [ViewBs] at hv
    obtain ⟨y, ys', rfl, h1, h2⟩ := hv
    simp only [RepACs] at hu ⊢
    obtain ⟨u, us', rfl, k1, k2⟩ := hu
    exact ⟨u, us', rfl, by simpa only [RepAC] using viewB_sound h h1 k1, viewBs_sound h xs ys' us' h2 k2⟩
theorem viewBV_sound (h : Sim w0 M0 F0 F g s a w) {v d : AV} {u : Value} (hv : ViewBV s.lb v d) (hu : RepAV w F s.lb g v u) : RepAV w (LentF s g F) noLk g0 d u := by
  cases v <;> simp only [ViewBV] at hv
  case one x =>
    obtain ⟨y, rfl, h1⟩ := hv
    simp only [RepAV] at hu ⊢
    simpa only [RepAC] using viewB_sound h h1 hu
  case agg xs =>
    obtain ⟨ys, rfl, h1⟩ := hv
    simp only [RepAV] at hu ⊢
    obtain ⟨us, h2, h3⟩ := hu
    exact ⟨us, h2, viewBs_sound h xs ys us h1 h3⟩
theorem viewBVs_sound (h : Sim w0 M0 F0 F g s a w) : ∀ (vs ds : List AV) (us : List Value), ViewBVs s.lb vs ds → RepAVs w F s.lb g vs us → RepAVs w (LentF s g F) noLk g0 ds us
  | [], ds, us, hv, hu => by simp only [ViewBVs] at hv; subst hv; simpa only [RepAVs] using hu
  | x :: xs, ds, us, hv, hu => by
    simp only [ViewBVs] at hv
    obtain ⟨y, ys', rfl, h1, h2⟩ := hv
    simp only [RepAVs] at hu ⊢
    obtain ⟨u, us', rfl, k1, k2⟩ := hu
    exact ⟨u, us', rfl, viewBV_sound h h1 k1, viewBVs_sound h xs ys' us' h2 k2⟩
theorem lent_lt (h : Sim w0 M0 F0 F g s a w) : ∀ b o, LentF s g F b o → b < w.heap.size := by
  rintro b o (hb | ⟨l, B, hl, hb⟩)
  · exact h.f2 b o hb
  · exact (h.nw l B hl b hb).2

/-- Behind a call that turned nothing old. -/
theorem Sim.below (h : Sim w0 M0 F0 F g s a w) (hb : Below w.heap.size w w') : Sim w0 M0 F0 F g s a w' :=
  h.grows ⟨⟨fun _ _ hq => hq, fun b o hq => cell_of_heap (hb.block b (h.f2 b o hq)) o⟩, fun l B hl b hq => hb.block b (h.nw l B hl b hq).2, h.so, fun _ _ hq => .inl hq, fun b o hq => Nat.lt_of_lt_of_le (h.f2 b o hq) hb.size,
    hb.os, hb.tape, hb.output, hb.size, fun k hk _ => hb.block k (Nat.lt_of_lt_of_le hk h.size)⟩
end

/-! ### Owned results as owned values of the caller's -/
def tkC (d i : Nat) : AC → AC
  | .c (.sl _) => .tk d i
  | a => a
def tkCs (d : Nat) : Nat → List AC → List AC
  | _, [] => []
  | i, a :: as => tkC d i a :: tkCs d (i + 1) as
def flC : AC → Option C
  | .c x => some x
  | _ => none
def flV : AV → List (Option C)
  | .one a => [flC a]
  | .agg as => as.map flC
  | _ => []
def tkV (d i : Nat) : AV → AV
  | .one a => .one (tkC d i a)
  | .agg as => .agg (tkCs d i as)
  | v => v
def tkVs (d : Nat) : Nat → List AV → List AV
  | _, [] => []
  | i, v :: vs => tkV d i v :: tkVs d (i + (flV v).length) vs
def tkR (d : Nat) : AV → AV
  | .tup vs => .tup (tkVs d 0 vs)
  | v => tkV d 0 v
def flR : AV → List (Option C)
  | .tup vs => vs.flatMap flV
  | v => flV v

section
variable {w : World} {F : Fz} {lb : Lk} {g : Gh} {d : Nat} {T : List (Option C)} {us : List Value}
theorem OwnTs.append : ∀ {os os' : List (Option C)} {us us' : List Value} {S S' : List Nat}, OwnTs w os us S → OwnTs w os' us' S' → OwnTs w (os ++ os') (us ++ us') (S ++ S')
  | [], _, _, _, _, _, h, k => by simp only [OwnTs] at h; obtain ⟨rfl, rfl⟩ := h; simpa using k
  | o :: os, _, _, _, _, _, h, k => by
    simp only [OwnTs] at h
    obtain ⟨u, us', S1, S2, rfl, rfl, h3, h4⟩ := h
    simp only [List.cons_append, OwnTs]
    exact ⟨u, _, S1, _, rfl, by simp, h3, OwnTs.append h4 k⟩
theorem tkC_rep (hl : lb d = some (.tok T)) (hg : g.hd d = .agg us.toArray) {c : C} {u : Value} {S : List Nat} {i : Nat} (h : Own w c u S) (hu : us[i]? = some u) : RepAC w F lb g (tkC d i (.c c)) u := by
  cases c with
  | v x => simp only [Own] at h; simp only [tkC, RepAC, Rd]; exact ⟨h.1, h.2.1⟩
  | sl rows => simp only [tkC, RepAC]; exact ⟨h.one, _, hl, us, hg, hu⟩
theorem tkCs_rep (hl : lb d = some (.tok T)) (hg : g.hd d = .agg us.toArray) : ∀ (cs : List C) (vs : List Value) (S : List Nat) (i : Nat), OwnCells w cs vs S → (∀ (j : Nat) v, vs[j]? = some v → us[i + j]? = some v) →
    RepACs w F lb g (tkCs d i (cs.map .c)) vs ∧ OwnTs w (cs.map some) vs S
  | [], vs, S, i, h, _ => by simp only [OwnCells] at h; obtain ⟨rfl, rfl⟩ := h; simp [tkCs, RepACs, OwnTs]
  | c :: cs, vs, S, i, h, hu => by
    simp only [OwnCells] at h
    obtain ⟨v, vs', S1, S2, rfl, rfl, h1, h2⟩ := h
    have h0 : us[i]? = some v := by simpa using hu 0 v (by simp)
    obtain ⟨k1, k2⟩ := tkCs_rep hl hg cs vs' S2 (i + 1) h2 (fun j x hj => by have := hu (j + 1) x (by simpa using hj); rwa [show i + (j + 1) = i + 1 + j by omega] at this)
    exact ⟨⟨v, vs', rfl, tkC_rep hl hg h1 h0, k1⟩, v, vs', S1, S2, rfl, rfl, h1, k2⟩
theorem flC_c (cs : List C) : (cs.map AC.c).map flC = cs.map some := by simp [flC]
/-- The cells of an owned result. -/
def cellsOf1 (v : Value) : AV → List Value
  | .agg _ => v.cells.toList
  | _ => [v]
theorem own1_tok {r : AV} {v : Value} {S : List Nat} (h : OwnR1 w r v S) : ∃ vs, OwnTs w (flV r) vs S ∧ vs.length = (flV r).length ∧ ∀ (lb : Lk) (g : Gh) (us : List Value) (i : Nat), lb d = some (.tok T) → g.hd d = .agg us.toArray →
    (∀ (j : Nat) x, vs[j]? = some x → us[i + j]? = some x) → RepAV w F lb g (tkV d i r) v := by
  unfold OwnR1 at h
  split at h
  · rename_i x
    refine ⟨[v], ⟨v, [], S, [], rfl, by simp, h, rfl, rfl⟩, rfl, fun lb g us i hl hg hu => ?_⟩
    simp only [tkV, RepAV]
    exact tkC_rep hl hg h (by simpa using hu 0 v (by simp))
  · obtain ⟨cs, vs, rfl, rfl, h⟩ := h
    have hfl : flV (.agg (cs.map .c)) = cs.map some := flC_c cs
    rw [hfl]
    have hts : OwnTs w (cs.map some) vs S := (tkCs_rep (w := w) (F := F) (lb := fun _ => some (.tok T)) (g := ⟨fun _ => 0, fun _ => .agg vs.toArray, fun _ => []⟩) (d := d) (us := vs) rfl rfl cs vs S 0 h (fun j x hj => by simpa using hj)).2
    refine ⟨vs, hts, by rw [OwnTs.len _ _ _ hts], fun lb g us i hl hg hu => ?_⟩
    simp only [tkV, RepAV]
    exact ⟨vs, rfl, (tkCs_rep hl hg cs vs S i h hu).1⟩
  · exact h.elim
theorem ownRs_tok : ∀ {rs : List AV} {vs : List Value} {S : List Nat}, OwnRs w rs vs S → ∃ ks, OwnTs w (rs.flatMap flV) ks S ∧ ks.length = (rs.flatMap flV).length ∧ ∀ (lb : Lk) (g : Gh) (us : List Value) (i : Nat), lb d = some (.tok T) → g.hd d = .agg us.toArray →
    (∀ (j : Nat) x, ks[j]? = some x → us[i + j]? = some x) → RepAVs w F lb g (tkVs d i rs) vs
  | [], vs, S, h => by
    simp only [OwnRs] at h
    obtain ⟨rfl, rfl⟩ := h
    exact ⟨[], ⟨rfl, rfl⟩, rfl, fun lb g us i _ _ _ => rfl⟩
  | r :: rs, vs, S, h => by
    simp only [OwnRs] at h
    obtain ⟨v, vs', S1, S2, rfl, rfl, h1, h2⟩ := h
    obtain ⟨k1, a1, b1, c1⟩ := own1_tok (d := d) (F := F) (T := T) h1
    obtain ⟨k2, a2, b2, c2⟩ := ownRs_tok h2
    refine ⟨k1 ++ k2, by simpa using OwnTs.append a1 a2, by simp [b1, b2], fun lb g us i hl hg hu => ?_⟩
    simp only [tkVs, RepAVs]
    refine ⟨v, vs', rfl, c1 lb g us i hl hg (fun j x hj => hu j x (by rw [List.getElem?_append_left (List.getElem?_eq_some_iff.1 hj).1]; exact hj)), c2 lb g us _ hl hg (fun j x hj => ?_)⟩
    have := hu (k1.length + j) x (by rw [List.getElem?_append_right (by omega), Nat.add_sub_cancel_left]; exact hj)
    rwa [← Nat.add_assoc, b1] at this
theorem ownR_tok {r : AV} {v : Value} {S : List Nat} (h : OwnR w r v S) : ∃ vs, OwnTs w (flR r) vs S ∧ ∀ (lb : Lk) (g : Gh), lb d = some (.tok T) → g.hd d = .agg vs.toArray → RepAV w F lb g (tkR d r) v := by
  unfold OwnR at h
  split at h
  · obtain ⟨us, rfl, h⟩ := h
    obtain ⟨ks, h1, _, h3⟩ := ownRs_tok (d := d) (F := F) (T := T) h
    refine ⟨ks, h1, fun lb g hl hg => ?_⟩
    simp only [tkR, RepAV]
    exact ⟨us, rfl, h3 lb g ks 0 hl hg (fun j x hj => by simpa using hj)⟩
  · rename_i hnt
    obtain ⟨ks, h1, _, h3⟩ := own1_tok (d := d) (F := F) (T := T) h
    have e1 : flR r = flV r := by cases r <;> first | rfl | exact absurd rfl (hnt _)
    have e2 : tkR d r = tkV d 0 r := by cases r <;> first | rfl | exact absurd rfl (hnt _)
    rw [e1, e2]
    exact ⟨ks, h1, fun lb g hl hg => h3 lb g ks 0 hl hg (fun j x hj => by simpa using hj)⟩
end

section
variable {w0 : World} {M0 : Ms} {F0 F : Fz} {g : Gh} {s : St} {a : Act} {w w' : World}
/-- An owned result is taken as a local's. -/
theorem Sim.taken (h : Sim w0 M0 F0 F g s a w) (hb : Below w.heap.size w w') {d : Nat} (hd : s.lb d = none) (hn : d < s.n) {r : AV} {v : Value} {S : List Nat} (ho : OwnR w' r v S) (hnd : S.Nodup) (hS : ∀ b, b ∈ S → w.heap.size ≤ b ∧ b < w'.heap.size) :
    ∃ g', Sim w0 M0 F0 F g' ((s.put d (.tok (flR r))).set (some d) (tkR d r)) (a.put (some d) v) w' := by
  obtain ⟨vs, h1, h2⟩ := ownR_tok (d := d) (F := F) (T := flR r) ho
  have hs := h.below hb
  refine ⟨g.upd d (g.bl d) (.agg vs.toArray) S, Sim.set (hs.putLB (l := d) (b := g.bl d) (v := .agg vs.toArray) (S := S) (B' := .tok (flR r)) (fun B hB => by rw [hd] at hB; cases hB) ?_ ?_ hnd ?_ ?_) (by simpa using hn) ?_⟩
  · exact ⟨vs, by simp [Gh.upd], by simpa [Gh.upd] using h1⟩
  · simp only [SoftOk, Gh.upd, if_true]
    intro b hb' o hf
    have := h.f2 b o hf
    have := (hS b hb').1
    omega
  · intro l' B _ hB k hk hk'
    have := (h.nw l' B hB k hk').2
    have := (hS k hk).1
    omega
  · intro k hk
    exact ⟨.inl (Nat.le_trans h.size (hS k hk).1), (hS k hk).2⟩
  · exact h2 _ _ (by simp [St.put_lb]) (by simp [Gh.upd])
end
end Go.Ai
