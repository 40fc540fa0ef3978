/- Calls: a contract on data; what a call makes of a state; one step of an operation, and that the model makes it. -/
import Derived.Test.YtdjleacnjijbjaaAiMem3
namespace Go.Ai
set_option linter.unusedVariables false
set_option linter.unusedSimpArgs false
open Go.RowKit

variable {P : Program} {tab : Tab} {w0 : World} {M0 : Ms} {F0 F F' : Fz} {g : Gh} {s : St} {a : Act} {w w' : World} {lb : Lk}

def noLk : Lk := fun _ => none
def g0 : Gh := ⟨fun _ => 0, fun _ => undef, fun _ => []⟩

def Callable (P : Program) (f : FuncId) : Prop := ∃ fn, P.funcs[f]? = some fn ∧ fn.name ≠ "runtime.NumGoroutine" ∧ fn.body ≠ none

/-- A contract: called with values that read as the data 'args', in whatever world, f returns a value that reads as 'r'; nothing that stood there has turned. -/
def Sat (P : Program) (f : FuncId) (args : List AV) (r : AV) : Prop :=
  Callable P f ∧ ∀ (w : World) (F : Fz) (us : List Value), (∀ b o, F b o → b < w.heap.size) → RepAVs w F noLk g0 args us →
    Calls P f us.toArray w fun e w' => ∃ v F', e = .returned v ∧ Below w.heap.size w w' ∧ (∀ b o, F b o → F' b o) ∧ (∀ b o, F' b o → F b o ∨ w.heap.size ≤ b) ∧ (∀ b o, F' b o → b < w'.heap.size) ∧ RepAV w' F' noLk g0 r v

/-- A cell as data, where it is: owned data in place and the nil slice too. -/
def unN : AC → AC
  | .d x => .c x
  | .m _ => .any
  | .nil => .c (.sl [])
  | .e1 => .c (.sl [])
  | a => a
theorem e1_rd {u : Value} (h : ∃ a cap, u = .slice (some a) 0 cap ∧ cap ≤ maxLen ∧ (0 < cap → a.spot = none)) : Rd w F (.sl []) u := by
  obtain ⟨a, cap, rfl, h1, h2⟩ := h
  simp only [Rd]
  exact ⟨some a, cap, 1, rfl, Nat.zero_le _, h1, Nat.one_pos, fun h => (by cases h), fun b hb => by obtain rfl := Option.some.inj hb; exact ⟨h2, by simp only [RdRows]⟩⟩
theorem unN_rep {x : AC} {u : Value} {S : List Nat} (h : RepCell w F lb g x u S) : RepAC w F lb g (unN x) u := by
  cases x
  case e1 =>
    have h := h.1
    simp only [RepAC] at h
    show RepAC w F lb g (.c (.sl [])) _
    simp only [RepAC]
    exact e1_rd h
  case nil =>
    have h := h.1
    simp only [RepAC] at h
    subst h
    show RepAC w F lb g (.c (.sl [])) _
    simp only [RepAC, Rd]
    exact ⟨none, 0, 1, rfl, Nat.le_refl _, Nat.zero_le _, Nat.one_pos, fun _ => rfl, fun a ha => by cases ha⟩
  case m y =>
    show RepAC w F lb g .any u
    simpa only [RepAC] using Own.one h
  case d y =>
    show RepAC w F lb g (.c y) u
    simp only [RepAC]
    exact h.2
  all_goals exact h.1
theorem RepCells.unN : ∀ {as : List AC} {us : List Value} {S : List Nat}, RepCells w F lb g as us S → RepACs w F lb g (as.map unN) us
  | [], _, _, h => by simp only [RepCells] at h; simp [RepACs, h]
  | x :: as, us, S, h => by
    simp only [RepCells] at h
    obtain ⟨u, us', S1, S2, rfl, rfl, h3, h4⟩ := h
    exact ⟨u, us', rfl, unN_rep h3, RepCells.unN h4⟩
theorem map_unN_flatten (rows : List (List AC)) : (rows.map fun r => r.map unN).flatten = rows.flatten.map unN := by
  induction rows with
  | nil => rfl
  | cons r rs ih => simp only [List.map_cons, List.flatten_cons, List.map_append, ih]

def ViewC (lb : Lk) (a : AC) (x : C) : Prop :=
  match a with
  | .c y => x = y
  | .nil => x = .sl []
  | .e1 => x = .sl []
  | .own l n => ∃ e sz rows fz rows', lb l = some (.arr e sz rows fz) ∧ n = rows.length ∧ rows.map (fun r => r.map unN) = rows'.map (fun r => r.map .c) ∧ x = .sl rows'
  | _ => False
def ViewCs (lb : Lk) : List AC → List AC → Prop
  | [], ys => ys = []
  | a :: as, ys => ∃ x ys', ys = .c x :: ys' ∧ ViewC lb a x ∧ ViewCs lb as ys'
def ViewAV (lb : Lk) (v d : AV) : Prop :=
  match v with
  | .one a => ∃ x, d = .one (.c x) ∧ ViewC lb a x
  | .agg as => ∃ ys, d = .agg ys ∧ ViewCs lb as ys
  | _ => False
def ViewAVs (lb : Lk) : List AV → List AV → Prop
  | [], ds => ds = []
  | v :: vs, ds => ∃ d ds', ds = d :: ds' ∧ ViewAV lb v d ∧ ViewAVs lb vs ds'

def AC.owns : AC → List Nat
  | .own l _ => [l]
  | _ => []
def AV.owns : AV → List Nat
  | .one a => a.owns
  | .agg as => as.flatMap AC.owns
  | _ => []
def LB.frz : LB → LB
  | .arr e sz rows _ => .arr e sz rows true
  | B => B
def St.frz (s : St) (l : Nat) : St := { s with lb := fun k => if k = l then (s.lb k).map LB.frz else s.lb k }
def St.frzs (s : St) (ls : List Nat) : St := ls.foldl St.frz s

@[simp] theorem St.frz_n (s : St) (l : Nat) : (s.frz l).n = s.n := rfl
@[simp] theorem St.frz_sl (s : St) (l : Nat) : (s.frz l).sl = s.sl := rfl
@[simp] theorem St.frz_gh (s : St) (l : Nat) : (s.frz l).gh = s.gh := rfl
@[simp] theorem St.frzs_n (ls : List Nat) : ∀ (s : St), (s.frzs ls).n = s.n := by
  induction ls with
  | nil => intro s; rfl
  | cons l ls ih => intro s; exact ih (s.frz l)
@[simp] theorem St.frzs_sl (ls : List Nat) : ∀ (s : St), (s.frzs ls).sl = s.sl := by
  induction ls with
  | nil => intro s; rfl
  | cons l ls ih => intro s; exact ih (s.frz l)

/-- The prefix of row l is frozen from here on. -/
def Pre (g : Gh) (l len : Nat) : Fz := fun b o => b ∈ blkOf (g.hd l) ∧ o < len

theorem frz_keeps (s : St) (l : Nat) (g : Gh) : Keeps s.lb g (s.frz l).lb g := by
  constructor
  intro k B hB
  by_cases e : k = l
  · subst e
    refine ⟨B.frz, by simp [St.frz, hB], ?_⟩
    cases B <;> exact ⟨fun _ _ h => h, fun _ _ h => h, fun _ _ _ _ h => h, fun _ _ h => h⟩
  · exact ⟨B, by simp [St.frz, e, hB], fun _ _ h => h, fun _ _ h => h, fun _ _ _ _ h => h, fun _ _ h => h⟩

/-- A row is frozen as far as it has grown: it may be handed on. -/
theorem Sim.freeze (h : Sim w0 M0 F0 F g s a w) (l : Nat) : ∃ F', Sim w0 M0 F0 F' g (s.frz l) a w ∧ (∀ b o, F b o → F' b o) ∧
    (∀ e sz rows fz, s.lb l = some (.arr e sz rows fz) → ∀ b o, b ∈ blkOf (g.hd l) → o < rows.length * sz → F' b o) := by
  have K := frz_keeps s l g
  by_cases harr : ∃ e sz rows fz, s.lb l = some (.arr e sz rows fz)
  · obtain ⟨e, sz, rows, fz, hl⟩ := harr
    have hds : ∀ b, b ∈ blkOf (g.hd l) → b ∈ g.ds l := by
      obtain ⟨_, _, _, _, _, _, hd⟩ := h.lb l _ hl
      intro b hb; rw [hd]; simp [hb]
    have st : Stays w w F (fun b o => F b o ∨ Pre g l (rows.length * sz) b o) := ⟨fun _ _ hb => .inl hb, fun _ _ _ => rfl⟩
    have old : ∀ k B, (s.frz l).lb k = some B → ∃ Bo, s.lb k = some Bo ∧ B = if k = l then Bo.frz else Bo := by
      intro k B hB
      by_cases ek : k = l
      · subst ek
        simp only [St.frz, if_true] at hB
        cases hs : s.lb k with
        | none => rw [hs] at hB; cases hB
        | some Bo => rw [hs] at hB; exact ⟨Bo, rfl, by simpa using hB.symm⟩
      · exact ⟨B, by simpa [St.frz, ek] using hB, by simp [ek]⟩
    refine ⟨fun b o => F b o ∨ Pre g l (rows.length * sz) b o, ?_, fun _ _ hb => .inl hb, fun e' sz' rows' fz' hl' b o hb ho => ?_⟩
    · exact {
        sz := h.sz
        df := h.df
        sl := fun i => RepAV.mono st K _ _ (h.sl i)
        gh := RepAVs.mono st K _ _ h.gh
        lb := fun k B hB => by
          obtain ⟨Bo, ho, rfl⟩ := old k B hB
          have := RepLB.mono (l := k) (B := Bo) st K rfl rfl rfl (fun _ _ => rfl) (h.lb k Bo ho)
          split
          · cases Bo <;> exact this
          · exact this
        so := fun k B hB => by
          obtain ⟨Bo, ho, rfl⟩ := old k B hB
          have hso := h.so k Bo ho
          by_cases ek : k = l
          · subst ek
            rw [hl] at ho
            obtain rfl := Option.some.inj ho
            simp only [if_true, LB.frz, SoftOk, Bool.true_eq_false, false_or, false_implies, and_true] at hso ⊢
            intro b hb o hle hf
            rcases hf with hf | ⟨_, hf⟩
            · exact hso.1 b hb o (.inr hle) hf
            · omega
          · rw [if_neg ek]
            have dj : ∀ b, b ∈ g.ds k → b ∉ blkOf (g.hd l) := fun b hb hb' => h.dj k l Bo _ ek ho hl b hb (hds b hb')
            cases Bo with
            | var cells =>
              simp only [SoftOk] at hso ⊢
              obtain ⟨_, _, _, _, hd⟩ := h.lb k _ ho
              intro o hf
              rcases hf with hf | ⟨hf, _⟩
              · exact hso o hf
              · exact dj _ (by rw [hd]; simp) hf
            | arr e1 sz1 rows1 fz1 =>
              simp only [SoftOk] at hso ⊢
              obtain ⟨_, _, _, _, _, _, hd⟩ := h.lb k _ ho
              refine ⟨fun b hb o hc hf => ?_, fun hz hn b hb o hf => ?_⟩
              · rcases hf with hf | ⟨hf, _⟩
                · exact hso.1 b hb o hc hf
                · exact dj b (by rw [hd]; simp [hb]) hf
              · rcases hf with hf | ⟨hf, _⟩
                · exact hso.2 hz hn b hb o hf
                · exact dj b hb hf
            | tok x =>
              simp only [SoftOk] at hso ⊢
              intro b hb o hf
              rcases hf with hf | ⟨hf, _⟩
              · exact hso b hb o hf
              · exact dj b hb hf
            | dead => trivial
        nd := fun k B hB => by obtain ⟨Bo, ho, _⟩ := old k B hB; exact h.nd k Bo ho
        dj := fun k k' B B' hkk hB hB' => by
          obtain ⟨Bo, ho, _⟩ := old k B hB
          obtain ⟨Bo', ho', _⟩ := old k' B' hB'
          exact h.dj k k' Bo Bo' hkk ho ho'
        nw := fun k B hB => by obtain ⟨Bo, ho, _⟩ := old k B hB; exact h.nw k Bo ho
        f0 := fun b o hb => .inl (h.f0 b o hb)
        f1 := fun b o hb => by
          rcases hb with hb | ⟨hb, _⟩
          · exact h.f1 b o hb
          · exact .inr ((h.nw l _ hl b (hds b hb)).1)
        f2 := fun b o hb => by
          rcases hb with hb | ⟨hb, _⟩
          · exact h.f2 b o hb
          · exact (h.nw l _ hl b (hds b hb)).2
        os := h.os
        tape := h.tape
        output := h.output
        size := h.size
        block := h.block }
    · rw [hl] at hl'
      obtain ⟨rfl, rfl, rfl, rfl⟩ := LB.arr.inj (Option.some.inj hl')
      exact .inr ⟨hb, ho⟩
  · refine ⟨F, ?_, fun _ _ hb => hb, fun e sz rows fz hl => absurd ⟨e, sz, rows, fz, hl⟩ harr⟩
    have : s.frz l = s := by
      obtain ⟨n, sl, lb, gh⟩ := s
      simp only [St.frz, St.mk.injEq, true_and, and_true]
      funext k
      split
      · rename_i ek
        subst ek
        simp only at harr
        cases hk : lb k with
        | none => rfl
        | some B =>
          cases B with
          | arr e sz rows fz => exact absurd ⟨e, sz, rows, fz, hk⟩ harr
          | _ => rfl
      · rfl
    rw [this]; exact h

/-- Which rows are as they were, but frozen. -/
theorem frz_arr {s : St} {l k : Nat} {e : TypeId} {sz : Nat} {rows : List (List AC)} {fz : Bool} (h : s.lb k = some (.arr e sz rows fz)) : ∃ fz', (s.frz l).lb k = some (.arr e sz rows fz') := by
  by_cases ek : k = l
  · subst ek; exact ⟨true, by simp [St.frz, h, LB.frz]⟩
  · exact ⟨fz, by simp [St.frz, ek, h]⟩

theorem Sim.freezes (h : Sim w0 M0 F0 F g s a w) : ∀ (ls : List Nat), ∃ F', Sim w0 M0 F0 F' g (s.frzs ls) a w ∧ (∀ b o, F b o → F' b o) ∧
    (∀ l, l ∈ ls → ∀ e sz rows fz, s.lb l = some (.arr e sz rows fz) → ∀ b o, b ∈ blkOf (g.hd l) → o < rows.length * sz → F' b o) := by
  intro ls
  induction ls generalizing s F with
  | nil => exact ⟨F, h, fun _ _ hb => hb, fun l hl => by cases hl⟩
  | cons l ls ih =>
    obtain ⟨F1, h1, u1, p1⟩ := h.freeze l
    obtain ⟨F2, h2, u2, p2⟩ := ih h1
    refine ⟨F2, h2, fun b o hb => u2 b o (u1 b o hb), fun k hk e sz rows fz hl b o hb ho => ?_⟩
    rcases List.mem_cons.1 hk with rfl | hk
    · exact u2 b o (p1 e sz rows fz hl b o hb ho)
    · obtain ⟨fz', hl'⟩ := frz_arr (l := l) hl
      exact p2 k hk e sz rows fz' hl' b o hb ho

theorem cells_rd {b : Nat} : ∀ (cs : List C) (us : List Value) (o : Nat), RepACs w F lb g (cs.map .c) us → (∀ j, j < cs.length → F b (o + j)) → (∀ (j : Nat) u, us[j]? = some u → w.cell? ⟨b, o + j, none⟩ = some u) → RdCells w F b o cs
  | [], _, _, _, _, _ => by simp only [RdCells]
  | c :: cs, us, o, h, hF, hc => by
    simp only [List.map_cons, RepACs] at h
    obtain ⟨u, us', rfl, h1, h2⟩ := h
    simp only [RdCells]
    refine ⟨by simpa using hF 0 (by simp), ⟨u, by simpa using hc 0 u (by simp), by simpa only [RepAC] using h1⟩, ?_⟩
    refine cells_rd cs us' (o + 1) h2 (fun j hj => ?_) (fun j v hv => ?_)
    · have := hF (j + 1) (by simpa using hj); rwa [show o + (j + 1) = o + 1 + j by omega] at this
    · have := hc (j + 1) v (by simpa using hv); rwa [show o + (j + 1) = o + 1 + j by omega] at this

theorem rows_rd {b sz : Nat} : ∀ (rows : List (List C)) (us : List Value) (o : Nat), (∀ r, r ∈ rows → r.length = sz) → RepACs w F lb g (rows.map fun r => r.map .c).flatten us → (∀ j, j < rows.length * sz → F b (o + j)) →
    (∀ (j : Nat) u, us[j]? = some u → w.cell? ⟨b, o + j, none⟩ = some u) → RdRows w F b sz o rows
  | [], _, _, _, _, _, _ => by simp only [RdRows]
  | r :: rs, us, o, hl, h, hF, hc => by
    have hr := hl r (by simp)
    simp only [List.map_cons, List.flatten_cons] at h
    simp only [RdRows]
    have hlen := RepACs.len _ _ h
    have h1 := h.take sz
    have h2 := h.drop sz
    rw [List.take_left' (by simp [hr])] at h1
    rw [List.drop_left' (by simp [hr])] at h2
    have hmul : (r :: rs).length * sz = sz + rs.length * sz := by simp [Nat.add_mul]; omega
    refine ⟨hr, cells_rd r (us.take sz) o h1 (fun j hj => hF j (by omega)) (fun j u hj => ?_), rows_rd rs (us.drop sz) (o + sz) (fun q hq => hl q (by simp [hq])) h2 (fun j hj => ?_) (fun j u hj => ?_)⟩
    · rw [List.getElem?_take] at hj
      split at hj
      · exact hc j u hj
      · cases hj
    · have := hF (sz + j) (by omega); rwa [← Nat.add_assoc] at this
    · rw [List.getElem?_drop] at hj
      have := hc _ u hj; rwa [← Nat.add_assoc] at this

/-- What a state's value shows as data, its rows frozen. -/
theorem viewC_sound (h : Sim w0 M0 F0 F g s a w) {F1 : Fz} (up : ∀ b o, F b o → F1 b o) {x : AC} {y : C} (hv : ViewC s.lb x y) {u : Value} (hu : RepAC w F1 s.lb g x u)
    (hF : ∀ l, l ∈ x.owns → ∀ e sz rows fz, s.lb l = some (.arr e sz rows fz) → ∀ b o, b ∈ blkOf (g.hd l) → o < rows.length * sz → F1 b o) : Rd w F1 y u := by
  cases x <;> simp only [ViewC] at hv
  case c x => subst hv; simpa only [RepAC] using hu
  case nil =>
    subst hv
    simp only [RepAC] at hu
    simp only [Rd]
    exact ⟨none, 0, 1, hu, Nat.le_refl _, Nat.zero_le _, Nat.one_pos, fun _ => rfl, fun a ha => by cases ha⟩
  case e1 =>
    subst hv
    simp only [RepAC] at hu
    exact e1_rd hu
  case own l n =>
    obtain ⟨e, sz, rows, fz, rows', hl, hn, hrows, rfl⟩ := hv
    simp only [RepAC] at hu
    obtain ⟨_, B, hB, hq⟩ := hu
    rw [hl] at hB
    obtain rfl := Option.some.inj hB
    simp only [okOwnB] at hq
    have hux := hq.2 hn
    obtain ⟨hsz, hrl, xs, S, hown, hcells, _⟩ := h.lb l _ hl
    have hlr : rows'.length = rows.length := by have := congrArg List.length hrows; rw [List.length_map, List.length_map] at this; exact this.symm
    have hl' : ∀ r, r ∈ rows' → r.length = sz := by
      intro r hr
      have : r.map AC.c ∈ rows.map (fun r => r.map unN) := by rw [hrows]; exact List.mem_map.2 ⟨r, hr, rfl⟩
      obtain ⟨q, hq1, hq2⟩ := List.mem_map.1 this
      have := congrArg List.length hq2
      rw [List.length_map, List.length_map] at this
      rw [← this]; exact hrl q hq1
    have hun := RepACs.mono (w' := w) ⟨up, fun _ _ _ => rfl⟩ (Keeps.refl s.lb g) _ _ (RepCells.unN hcells)
    rw [← map_unN_flatten, hrows] at hun
    simp only [Rd]
    rcases hown.2 with ⟨k1, k2⟩ | ⟨gg, cap, cur, k1, _, hh, hle, hcm, _, _⟩
    · refine ⟨none, 0, 1, by rw [hux, k1, hlr, k2], by omega, Nat.zero_le _, Nat.one_pos, fun _ => rfl, fun a ha => by cases ha⟩
    · refine ⟨some ⟨gg, 0, none⟩, cap, sz, by rw [hux, k1, hlr], by omega, hcm, hsz, fun h => (by cases h), fun a ha => ?_⟩
      obtain rfl := Option.some.inj ha
      refine ⟨fun _ => rfl, rows_rd rows' xs 0 hl' hun (fun j hj => ?_) (fun j u hj => ?_)⟩
      · rw [Nat.zero_add]
        exact hF l (by simp [AC.owns]) e sz rows fz hl gg j (by rw [k1]; simp [blkOf, Value.ownBlock]) (by rw [← hlr]; exact hj)
      · have := hown.cells (g := gg) (by rw [k1]; rfl) j u hj
        rwa [addr_add] at this

theorem viewCs_sound (h : Sim w0 M0 F0 F g s a w) {F1 : Fz} (up : ∀ b o, F b o → F1 b o) : ∀ (xs ys : List AC) (us : List Value), ViewCs s.lb xs ys → RepACs w F1 s.lb g xs us →
    (∀ l, l ∈ xs.flatMap AC.owns → ∀ e sz rows fz, s.lb l = some (.arr e sz rows fz) → ∀ b o, b ∈ blkOf (g.hd l) → o < rows.length * sz → F1 b o) → RepACs w F1 noLk g0 ys us
  | [], ys, us, hv, hu, _ => by simp only [ViewCs] at hv; subst hv; simpa only [RepACs] using hu
  | x :: xs, ys, us, hv, hu, hF => by
    simp only [ViewCs] at hv
    obtain ⟨y, ys', rfl, h1, h2⟩ := hv
    simp only [RepACs] at hu ⊢
    obtain ⟨u, us', rfl, k1, k2⟩ := hu
    exact ⟨u, us', rfl, by simpa only [RepAC] using viewC_sound h up h1 k1 (fun l hl => hF l (by simp [hl])), viewCs_sound h up xs ys' us' h2 k2 (fun l hl => hF l (by
      obtain ⟨c, hc1, hc2⟩ := List.mem_flatMap.1 hl
      exact List.mem_flatMap.2 ⟨c, by simp [hc1], hc2⟩))⟩

theorem viewAV_sound (h : Sim w0 M0 F0 F g s a w) {F1 : Fz} (up : ∀ b o, F b o → F1 b o) {v d : AV} {u : Value} (hv : ViewAV s.lb v d) (hu : RepAV w F1 s.lb g v u)
    (hF : ∀ l, l ∈ v.owns → ∀ e sz rows fz, s.lb l = some (.arr e sz rows fz) → ∀ b o, b ∈ blkOf (g.hd l) → o < rows.length * sz → F1 b o) : RepAV w F1 noLk g0 d u := by
  cases v <;> simp only [ViewAV] at hv
  case one x =>
    obtain ⟨y, rfl, h1⟩ := hv
    simp only [RepAV] at hu ⊢
    simpa only [RepAC] using viewC_sound h up h1 hu hF
  case agg xs =>
    obtain ⟨ys, rfl, h1⟩ := hv
    simp only [RepAV] at hu ⊢
    obtain ⟨us, h2, h3⟩ := hu
    exact ⟨us, h2, viewCs_sound h up xs ys us h1 h3 hF⟩

theorem viewAVs_sound' (h : Sim w0 M0 F0 F g s a w) {F1 : Fz} (up : ∀ b o, F b o → F1 b o) : ∀ (vs ds : List AV) (us : List Value), ViewAVs s.lb vs ds → RepAVs w F1 s.lb g vs us →
    (∀ l, l ∈ vs.flatMap AV.owns → ∀ e sz rows fz, s.lb l = some (.arr e sz rows fz) → ∀ b o, b ∈ blkOf (g.hd l) → o < rows.length * sz → F1 b o) → RepAVs w F1 noLk g0 ds us
  | [], ds, us, hv, hu, _ => by simp only [ViewAVs] at hv; subst hv; simpa only [RepAVs] using hu
  | x :: xs, ds, us, hv, hu, hF => by
    simp only [ViewAVs] at hv
    obtain ⟨y, ys', rfl, h1, h2⟩ := hv
    simp only [RepAVs] at hu ⊢
    obtain ⟨u, us', rfl, k1, k2⟩ := hu
    exact ⟨u, us', rfl, viewAV_sound h up h1 k1 (fun l hl => hF l (by simp [hl])), viewAVs_sound' h up xs ys' us' h2 k2 (fun l hl => hF l (by
      obtain ⟨c, hc1, hc2⟩ := List.mem_flatMap.1 hl
      exact List.mem_flatMap.2 ⟨c, by simp [hc1], hc2⟩))⟩

end Go.Ai
