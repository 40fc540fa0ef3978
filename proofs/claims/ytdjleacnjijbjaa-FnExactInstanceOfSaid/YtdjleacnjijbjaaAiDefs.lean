/- An abstract machine for Go's code as the model runs it: data without memory, the call's own variables and rows apart. Definitions: how abstract values, local blocks and states stand for concrete ones. -/
import Derived.Orders
import Derived.Below
import Derived.Laws.AppendOwn
import Derived.Laws.OwnMore
import Derived.KernelRfl
namespace Go.Ai
set_option linter.unusedVariables false
set_option linter.unusedSimpArgs false
open Go.RowKit

/-- Data: one cell's. 'v': a plain value; 'sl rows': a slice, a row of cells an element. -/
inductive C where
  | v (x : Value)
  | sl (rows : List (List C))

/-- Which cells are frozen: they are not written again. -/
abbrev Fz := Nat → Nat → Prop

def okv : Value → Prop
  | .slice _ _ _ => False
  | .agg _ => False
  | .tuple _ => False
  | _ => True

mutual
def Rd (w : World) (F : Fz) : C → Value → Prop
  | .v x, u => u = x ∧ okv x
  | .sl rows, u => ∃ A cap sz, u = .slice A rows.length cap ∧ rows.length ≤ cap ∧ cap ≤ maxLen ∧ 0 < sz ∧
      (A = none → cap = 0) ∧ (∀ a, A = some a → (0 < cap → a.spot = none) ∧ RdRows w F a.block sz a.off rows)
def RdCells (w : World) (F : Fz) (b : Nat) : Nat → List C → Prop
  | _, [] => True
  | o, c :: cs => F b o ∧ (∃ u, w.cell? ⟨b, o, none⟩ = some u ∧ Rd w F c u) ∧ RdCells w F b (o + 1) cs
def RdRows (w : World) (F : Fz) (b sz : Nat) : Nat → List (List C) → Prop
  | _, [] => True
  | o, r :: rs => r.length = sz ∧ RdCells w F b o r ∧ RdRows w F b sz (o + sz) rs
end

/-- What is read stays read where the frozen cells are as they were. -/
structure Stays (w w' : World) (F F' : Fz) : Prop where
  up : ∀ b o, F b o → F' b o
  same : ∀ b o, F b o → w'.cell? ⟨b, o, none⟩ = w.cell? ⟨b, o, none⟩

theorem Stays.refl (w : World) (F : Fz) : Stays w w F F := ⟨fun _ _ h => h, fun _ _ _ => rfl⟩
theorem Stays.trans {w w' w'' : World} {F F' F'' : Fz} (h : Stays w w' F F') (k : Stays w' w'' F' F'') : Stays w w'' F F'' :=
  ⟨fun b o hb => k.up b o (h.up b o hb), fun b o hb => (k.same b o (h.up b o hb)).trans (h.same b o hb)⟩

mutual
theorem Rd.mono {w w' : World} {F F' : Fz} (h : Stays w w' F F') : ∀ (c : C) (u : Value), Rd w F c u → Rd w' F' c u
  | .v _, _, hr => by simpa only [Rd] using hr
  | .sl rows, u, hr => by
    simp only [Rd] at hr ⊢
    obtain ⟨A, cap, sz, h1, h2, h3, h4, h5, h6⟩ := hr
    exact ⟨A, cap, sz, h1, h2, h3, h4, h5, fun a ha => ⟨(h6 a ha).1, RdRows.mono h _ _ _ rows (h6 a ha).2⟩⟩
theorem RdCells.mono {w w' : World} {F F' : Fz} (h : Stays w w' F F') (b : Nat) : ∀ (o : Nat) (cs : List C), RdCells w F b o cs → RdCells w' F' b o cs
  | _, [], _ => by simp only [RdCells]
  | o, c :: cs, hr => by
    simp only [RdCells] at hr ⊢
    obtain ⟨h1, ⟨u, hu, hc⟩, h3⟩ := hr
    exact ⟨h.up _ _ h1, ⟨u, (h.same _ _ h1).trans hu, Rd.mono h c u hc⟩, RdCells.mono h b (o + 1) cs h3⟩
theorem RdRows.mono {w w' : World} {F F' : Fz} (h : Stays w w' F F') (b sz : Nat) : ∀ (o : Nat) (rs : List (List C)), RdRows w F b sz o rs → RdRows w' F' b sz o rs
  | _, [], _ => by simp only [RdRows]
  | o, r :: rs, hr => by
    simp only [RdRows] at hr ⊢
    exact ⟨hr.1, RdCells.mono h b o r hr.2.1, RdRows.mono h b sz (o + sz) rs hr.2.2⟩
end

/-! ### Deep ownership: a slice in a block of its own, whole, and so on down; S: the blocks, each met once -/
mutual
def Own (w : World) : C → Value → List Nat → Prop
  | .v x, u, S => u = x ∧ okv x ∧ S = []
  | .sl rows, u, S => (u = .slice none 0 0 ∧ rows = [] ∧ S = []) ∨
      ∃ b cap cs e sz S', u = .slice (some ⟨b, 0, none⟩) rows.length cap ∧ w.heap[b]? = some (.cells cs e (0, 0)) ∧ rows.length ≤ cap ∧ cap ≤ maxLen ∧
        cs.size = cap * sz ∧ 0 < sz ∧ S = b :: S' ∧ OwnRows w sz rows (cs.toList.take (rows.length * sz)) S'
def OwnCells (w : World) : List C → List Value → List Nat → Prop
  | [], us, S => us = [] ∧ S = []
  | c :: cs, us, S => ∃ u us' S1 S2, us = u :: us' ∧ S = S1 ++ S2 ∧ Own w c u S1 ∧ OwnCells w cs us' S2
def OwnRows (w : World) (sz : Nat) : List (List C) → List Value → List Nat → Prop
  | [], us, S => us = [] ∧ S = []
  | r :: rs, us, S => ∃ us1 us2 S1 S2, us = us1 ++ us2 ∧ S = S1 ++ S2 ∧ r.length = sz ∧ OwnCells w r us1 S1 ∧ OwnRows w sz rs us2 S2
end

mutual
theorem Own.mono {w w' : World} : ∀ (c : C) (u : Value) (S : List Nat), (∀ b, b ∈ S → w'.heap[b]? = w.heap[b]?) → Own w c u S → Own w' c u S
  | .v _, _, _, _, hr => by simpa only [Own] using hr
  | .sl rows, u, S, hb, hr => by
    simp only [Own] at hr ⊢
    rcases hr with hr | ⟨b, cap, cs, e, sz, S', h1, h2, h3, h4, h5, h6, h7, h8⟩
    · exact .inl hr
    · subst h7
      exact .inr ⟨b, cap, cs, e, sz, S', h1, (hb b (by simp)).trans h2, h3, h4, h5, h6, rfl, OwnRows.mono sz rows _ S' (fun k hk => hb k (by simp [hk])) h8⟩
theorem OwnCells.mono {w w' : World} : ∀ (cs : List C) (us : List Value) (S : List Nat), (∀ b, b ∈ S → w'.heap[b]? = w.heap[b]?) → OwnCells w cs us S → OwnCells w' cs us S
  | [], _, _, _, hr => by simpa only [OwnCells] using hr
  | c :: cs, us, S, hb, hr => by
    simp only [OwnCells] at hr ⊢
    obtain ⟨u, us', S1, S2, h1, h2, h3, h4⟩ := hr
    subst h2
    exact ⟨u, us', S1, S2, h1, rfl, Own.mono c u S1 (fun k hk => hb k (by simp [hk])) h3, OwnCells.mono cs us' S2 (fun k hk => hb k (by simp [hk])) h4⟩
theorem OwnRows.mono {w w' : World} (sz : Nat) : ∀ (rs : List (List C)) (us : List Value) (S : List Nat), (∀ b, b ∈ S → w'.heap[b]? = w.heap[b]?) → OwnRows w sz rs us S → OwnRows w' sz rs us S
  | [], _, _, _, hr => by simpa only [OwnRows] using hr
  | r :: rs, us, S, hb, hr => by
    simp only [OwnRows] at hr ⊢
    obtain ⟨us1, us2, S1, S2, h1, h2, h3, h4, h5⟩ := hr
    subst h2
    exact ⟨us1, us2, S1, S2, h1, rfl, h3, OwnCells.mono r us1 S1 (fun k hk => hb k (by simp [hk])) h4, OwnRows.mono sz rs us2 S2 (fun k hk => hb k (by simp [hk])) h5⟩
end

theorem Own.one {w : World} {c : C} {u : Value} {S : List Nat} (h : Own w c u S) : u.oneCell' = true := by
  cases c with
  | v x => simp only [Own] at h; obtain ⟨rfl, h, _⟩ := h; cases u <;> simp_all [okv, Value.oneCell']
  | sl rows =>
    simp only [Own] at h
    rcases h with ⟨rfl, _⟩ | ⟨b, cap, cs, e, sz, S', rfl, _⟩ <;> rfl

def OwnO (w : World) (o : Option C) (u : Value) (S : List Nat) : Prop :=
  match o with
  | some c => Own w c u S
  | none => S = []
/-- Owned data, some of it given away. -/
def OwnTs (w : World) : List (Option C) → List Value → List Nat → Prop
  | [], us, S => us = [] ∧ S = []
  | o :: os, us, S => ∃ u us' S1 S2, us = u :: us' ∧ S = S1 ++ S2 ∧ OwnO w o u S1 ∧ OwnTs w os us' S2
theorem OwnTs.mono {w w' : World} : ∀ (os : List (Option C)) (us : List Value) (S : List Nat), (∀ b, b ∈ S → w'.heap[b]? = w.heap[b]?) → OwnTs w os us S → OwnTs w' os us S
  | [], _, _, _, h => by simpa only [OwnTs] using h
  | o :: os, us, S, hb, h => by
    simp only [OwnTs] at h ⊢
    obtain ⟨u, us', S1, S2, h1, h2, h3, h4⟩ := h
    subst h2
    refine ⟨u, us', S1, S2, h1, rfl, ?_, OwnTs.mono os us' S2 (fun b hb' => hb b (by simp [hb'])) h4⟩
    cases o with
    | some c => exact Own.mono c u S1 (fun b hb' => hb b (by simp [hb'])) h3
    | none => exact h3
theorem OwnTs.len {w : World} : ∀ (os : List (Option C)) (us : List Value) (S : List Nat), OwnTs w os us S → us.length = os.length
  | [], _, _, h => by simp only [OwnTs] at h; simp [h.1]
  | o :: os, us, S, h => by
    simp only [OwnTs] at h
    obtain ⟨u, us', S1, S2, rfl, rfl, _, h4⟩ := h
    simp [OwnTs.len os us' S2 h4]
/-- One of them. -/
theorem OwnTs.get {w : World} : ∀ (os : List (Option C)) (us : List Value) (S : List Nat) (i : Nat) (c : C), OwnTs w os us S → os[i]? = some (some c) →
    ∃ u SA Si SB, us[i]? = some u ∧ S = SA ++ (Si ++ SB) ∧ Own w c u Si ∧ (∀ o' Si', OwnO w o' u Si' → OwnTs w (os.set i o') us (SA ++ (Si' ++ SB))) ∧
      (∀ w' o' Si', (∀ b, b ∈ SA ++ SB → w'.heap[b]? = w.heap[b]?) → OwnO w' o' u Si' → OwnTs w' (os.set i o') us (SA ++ (Si' ++ SB)))
  | [], _, _, i, _, _, h => by simp at h
  | o :: os, us, S, 0, c, h, hi => by
    simp only [OwnTs] at h
    obtain ⟨u, us', S1, S2, rfl, rfl, h3, h4⟩ := h
    simp at hi; subst hi
    have main : ∀ w' o' Si', (∀ b, b ∈ S2 → w'.heap[b]? = w.heap[b]?) → OwnO w' o' u Si' → OwnTs w' ((some c :: os).set 0 o') (u :: us') ([] ++ (Si' ++ S2)) := by
      intro w' o' Si' hb ho
      simp only [List.set_cons_zero, OwnTs, List.nil_append]
      exact ⟨u, us', Si', S2, rfl, rfl, ho, OwnTs.mono os us' S2 hb h4⟩
    exact ⟨u, [], S1, S2, rfl, rfl, h3, fun o' Si' ho => main w o' Si' (fun _ _ => rfl) ho, fun w' o' Si' hb ho => main w' o' Si' (fun b hb' => hb b (by simpa using hb')) ho⟩
  | o :: os, us, S, i + 1, c, h, hi => by
    simp only [OwnTs] at h
    obtain ⟨u0, us', S1, S2, rfl, rfl, h3, h4⟩ := h
    obtain ⟨u, SA, Si, SB, k1, rfl, k3, k4, k5⟩ := OwnTs.get os us' S2 i c h4 (by simpa using hi)
    have main : ∀ w' o' Si', (∀ b, b ∈ S1 ++ SA ++ SB → w'.heap[b]? = w.heap[b]?) → OwnO w' o' u Si' → OwnTs w' ((o :: os).set (i + 1) o') (u0 :: us') (S1 ++ SA ++ (Si' ++ SB)) := by
      intro w' o' Si' hb ho
      simp only [List.set_cons_succ, OwnTs]
      refine ⟨u0, us', S1, SA ++ (Si' ++ SB), rfl, by simp, ?_, k5 w' o' Si' (fun b hb' => hb b (by simp at hb' ⊢; rcases hb' with h | h <;> simp [h])) ho⟩
      cases o with
      | some c0 => exact Own.mono c0 u0 S1 (fun b hb' => hb b (by simp [hb'])) h3
      | none => exact h3
    exact ⟨u, S1 ++ SA, Si, SB, by simpa using k1, by simp, k3, fun o' Si' ho => main w o' Si' (fun _ _ => rfl) ho, fun w' o' Si' hb ho => main w' o' Si' hb ho⟩

/-- All cells of these blocks. -/
def Whole (S : List Nat) : Fz := fun b _ => b ∈ S

mutual
/-- What is owned is read, its blocks' cells frozen. -/
theorem Own.rd {w : World} {F : Fz} : ∀ (c : C) (u : Value) (S : List Nat), (∀ b o, b ∈ S → F b o) → Own w c u S → Rd w F c u
  | .v _, _, _, _, hr => by simp only [Own] at hr; simp only [Rd]; exact ⟨hr.1, hr.2.1⟩
  | .sl rows, u, S, hF, hr => by
    simp only [Own] at hr
    simp only [Rd]
    rcases hr with ⟨h1, h2, _⟩ | ⟨b, cap, cs, e, sz, S', h1, h2, h3, h4, h5, h6, h7, h8⟩
    · subst h2; exact ⟨none, 0, 1, h1, Nat.le_refl _, Nat.zero_le _, Nat.one_pos, fun _ => rfl, fun a ha => by cases ha⟩
    · subst h7
      refine ⟨some ⟨b, 0, none⟩, cap, sz, h1, h3, h4, h6, (fun h => by cases h), fun a ha => ?_⟩
      obtain rfl := Option.some.inj ha
      refine ⟨fun _ => rfl, ?_⟩
      refine OwnRows.rd sz b 0 rows _ S' (fun k o hk => hF k o (by simp [hk])) (fun o => hF b o (by simp)) (fun i x hx => ?_) h8
      simp only [World.cell?, h2, Nat.zero_add]
      have hlt := (List.getElem?_eq_some_iff.1 hx).1
      rw [List.getElem?_take] at hx
      split at hx
      · simpa using hx
      · cases hx
theorem OwnCells.rd {w : World} {F : Fz} (b o : Nat) : ∀ (cs : List C) (us : List Value) (S : List Nat), (∀ k p, k ∈ S → F k p) → (∀ p, F b p) →
    (∀ (i : Nat) x, us[i]? = some x → w.cell? ⟨b, o + i, none⟩ = some x) → OwnCells w cs us S → RdCells w F b o cs
  | [], _, _, _, _, _, _ => by simp only [RdCells]
  | c :: cs, us, S, hF, hb, hc, hr => by
    simp only [OwnCells] at hr
    simp only [RdCells]
    obtain ⟨u, us', S1, S2, h1, h2, h3, h4⟩ := hr
    subst h1 h2
    refine ⟨hb o, ⟨u, by simpa using hc 0 u (by simp), Own.rd c u S1 (fun k p hk => hF k p (by simp [hk])) h3⟩, ?_⟩
    refine OwnCells.rd b (o + 1) cs us' S2 (fun k p hk => hF k p (by simp [hk])) hb (fun i x hx => ?_) h4
    have := hc (i + 1) x (by simpa using hx)
    rwa [show o + (i + 1) = o + 1 + i by omega] at this
theorem OwnRows.rd {w : World} {F : Fz} (sz b o : Nat) : ∀ (rs : List (List C)) (us : List Value) (S : List Nat), (∀ k p, k ∈ S → F k p) → (∀ p, F b p) →
    (∀ (i : Nat) x, us[i]? = some x → w.cell? ⟨b, o + i, none⟩ = some x) → OwnRows w sz rs us S → RdRows w F b sz o rs
  | [], _, _, _, _, _, _ => by simp only [RdRows]
  | r :: rs, us, S, hF, hb, hc, hr => by
    simp only [OwnRows] at hr
    simp only [RdRows]
    obtain ⟨us1, us2, S1, S2, h1, h2, h3, h4, h5⟩ := hr
    subst h1 h2
    have hlen : us1.length = sz := by rw [← h3]; exact (OwnCells.len r us1 S1 h4).symm
    refine ⟨h3, OwnCells.rd b o r us1 S1 (fun k p hk => hF k p (by simp [hk])) hb (fun i x hx => hc i x ?_) h4, ?_⟩
    · rw [List.getElem?_append_left (List.getElem?_eq_some_iff.1 hx).1]; exact hx
    · refine OwnRows.rd sz b (o + sz) rs us2 S2 (fun k p hk => hF k p (by simp [hk])) hb (fun i x hx => ?_) h5
      have := hc (sz + i) x (by rw [List.getElem?_append_right (by omega), hlen, Nat.add_sub_cancel_left]; exact hx)
      rwa [← Nat.add_assoc] at this
theorem OwnCells.len {w : World} : ∀ (cs : List C) (us : List Value) (S : List Nat), OwnCells w cs us S → cs.length = us.length
  | [], _, _, hr => by simp only [OwnCells] at hr; simp [hr.1]
  | c :: cs, us, S, hr => by
    simp only [OwnCells] at hr
    obtain ⟨u, us', S1, S2, h1, h2, h3, h4⟩ := hr
    subst h1
    simp [OwnCells.len cs us' S2 h4]
end

end Go.Ai
