/- A row of one's own becomes an owned value (a token). -/
import Derived.Test.YtdjleacnjijbjaaAiMoves2
namespace Go.Ai
set_option linter.unusedVariables false
set_option linter.unusedSimpArgs false
open Go.RowKit

section
variable {w0 : World} {M0 : Ms} {F0 F : Fz} {g : Gh} {s : St} {a : Act} {w : World}
theorem row_one {base : Nat} {e : TypeId} {sz : Nat} {v : Value} {n : Nat} {xs : List Value} (h : w.ownsRow base e sz v n xs) : v.oneCell' = true := by
  rcases h.2 with ⟨h, _⟩ | ⟨_, _, _, h, _⟩ <;> subst h <;> rfl

theorem Sim.close (h : Sim w0 M0 F0 F g s a w) {l T : Nat} {e : TypeId} {sz : Nat} {rows : List (List AC)} (hl : s.lb l = some (.arr e sz rows false)) (hT : s.lb T = none) (hn : noD rows = true) (ho : ∀ r, r ∈ rows → ∀ x, x ∈ r → isO x = true) :
    ∃ g', Sim w0 M0 F0 F g' ((s.put l .dead).put T (.tok [some (.sl (rows.map fun r => r.map toC))])) a w ∧ ∀ u, RepAC w F s.lb g (.own l rows.length) u → RepAC w F ((s.put l .dead).put T (.tok [some (.sl (rows.map fun r => r.map toC))])).lb g' (.tk T 0) u := by
  have hne : l ≠ T := fun e => by rw [← e, hl] at hT; cases hT
  have hun : ∀ b, b ∈ g.ds l → ∀ o, ¬ F b o := (h.so l _ hl).2 rfl hn
  have hrep := h.lb l _ hl
  have hone : (g.hd l).oneCell' = true := by
    obtain ⟨_, _, xs, S, hown, _⟩ := hrep
    exact row_one hown
  have hown : Own w (.sl (rows.map fun r => r.map toC)) (g.hd l) (g.ds l) := bare_own hrep hl rfl ho (by
    simp only [RepAC]
    exact ⟨hone, _, hl, Nat.le_refl _, fun _ => rfl⟩)
  have K : Keeps s.lb g ((s.put l .dead).put T (.tok [some (.sl (rows.map fun r => r.map toC))])).lb ((g.upd l (g.bl l) (g.hd l) []).upd T (g.bl T) (.agg [g.hd l].toArray) (g.ds l)) := by
    constructor
    intro k Bk hB
    by_cases e1 : k = T
    · subst e1; rw [hT] at hB; cases hB
    · by_cases e2 : k = l
      · subst e2
        refine ⟨.dead, by simp only [St.put_lb, if_neg e1, if_true], ?_⟩
        exact ⟨fun _ _ _ => trivial, fun _ _ _ => trivial, fun _ _ _ _ _ => trivial, fun _ _ _ => trivial⟩
      · refine ⟨Bk, by simp [St.put_lb, e1, e2, hB], ?_⟩
        simp only [Gh.upd, if_neg e1, if_neg e2]
        exact ⟨fun _ _ h => h, fun _ _ h => h, fun _ _ _ _ h => h, fun _ _ h => h⟩
  refine ⟨_, h.two hne (vT := .agg [g.hd l].toArray) (Sl := []) (ST := g.ds l) hl (fun b => b ∈ g.ds l) (fun b hb => .inl hb) (fun b hb => by cases hb) (fun b hb => hb) (by simp) (h.nd l _ hl) (fun b hb => by cases hb) (Stays.refl _ _) (fun b o hb => .inl hb) K trivial ?_ trivial ?_, ?_⟩
  · exact ⟨[g.hd l], by simp [Gh.upd], g.hd l, [], g.ds l, [], rfl, by simp [Gh.upd], hown, rfl, rfl⟩
  · simp only [SoftOk, Gh.upd, if_true]
    exact hun
  · intro u hu
    simp only [RepAC] at hu ⊢
    obtain ⟨k1, B, hB, hq⟩ := hu
    rw [hl] at hB
    obtain rfl := Option.some.inj hB
    refine ⟨k1, .tok [some (.sl (rows.map fun r => r.map toC))], by simp only [St.put_lb, if_true], ?_⟩
    simp only [okTkB, Gh.upd, if_true]
    exact ⟨[g.hd l], rfl, by rw [hq.2 rfl]; rfl⟩
end
theorem put_same (a : Act) (t : Tmp) : a.put (some t) (a.tmps.getD t undef) = a := by
  obtain ⟨tmps, defers⟩ := a
  simp only [Act.put]
  congr 1
  apply Array.ext
  · simp
  · intro i h1 h2
    rw [Array.getElem_setIfInBounds (by simpa using h2)]
    split
    · rename_i hi; subst hi; simp [Array.getD, h2]
    · rfl

section
variable {n : Nat} {L : List (Nat × AV)} {B : List (Nat × LB)} {G : List AV} {l : Nat} {e : TypeId} {sz : Nat} {rows : List (List AC)} {rows' : List (List C)} {T k t : Nat}
/-- A row of one's own becomes a token; one slot that holds it is told so. -/
theorem wk_close (T : Nat) (hl : lookB B l = some (.arr e sz rows false)) (hk : look L t = .one (.own l k)) (hkr : k = rows.length) (ht : t < n) (hT : lookB B T = none) (hn : noD rows = true) (ho : ∀ r, r ∈ rows → ∀ x, x ∈ r → isO x = true) (hr : (rows.map fun r => r.map toC) = rows') :
    Wk (mk n L B G) (mk n ((t, .one (.tk T 0)) :: L) ((T, .tok [some (.sl rows')]) :: (l, .dead) :: B) G) :=
  fun _ _ _ a _ ⟨F, g, h⟩ => by
    subst hkr hr
    obtain ⟨g', h', hu⟩ := h.close (T := T) (by rw [mk_lb]; exact hl) (by rw [mk_lb]; exact hT) hn ho
    have hs := h.sl t
    rw [mk_sl, hk] at hs
    simp only [RepAV] at hs
    have := h'.set (d := t) (v := .one (.tk T 0)) ht (by simp only [RepAV]; exact hu _ hs)
    rw [put_same] at this
    exact ⟨F, g', this⟩
end
end Go.Ai
