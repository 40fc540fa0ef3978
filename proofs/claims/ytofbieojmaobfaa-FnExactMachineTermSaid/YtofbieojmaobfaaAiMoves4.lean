/- A row of one's own that a variable's cell bears, as data from now on. -/
import Derived.Test.YtofbieojmaobfaaAiRow2
namespace Go.Ai
set_option linter.unusedVariables false
set_option linter.unusedSimpArgs false
open Go.RowKit

section
variable {n : Nat} {L : List (Nat × AV)} {B : List (Nat × LB)} {G : List AV} {e : TypeId} {sz : Nat} {rows : List (List AC)} {rows' : List (List C)} {fz : Bool} {k : Nat}
theorem setCells_rep {w : World} {F : Fz} {lb : Lk} {g : Gh} {x : AC} {y : C} (hxy : ∀ u, RepAC w F lb g x u → Rd w F y u) : ∀ (cells : List AC) (i : Nat) (us : List Value), cells[i]? = some x → RepACs w F lb g cells us → RepACs w F lb g (cells.set i (.c y)) us
  | [], i, _, h, _ => by simp at h
  | a :: as, 0, us, h, hr => by
    simp at h; subst h
    simp only [RepACs, List.set_cons_zero] at hr ⊢
    obtain ⟨u, us', rfl, h1, h2⟩ := hr
    exact ⟨u, us', rfl, by simp only [RepAC]; exact hxy u h1, h2⟩
  | a :: as, i + 1, us, h, hr => by
    simp only [RepACs, List.set_cons_succ] at hr ⊢
    obtain ⟨u, us', rfl, h1, h2⟩ := hr
    exact ⟨u, us', rfl, h1, setCells_rep hxy as i us' (by simpa using h) h2⟩
theorem wk_varOwn {cells : List AC} (l i t : Nat) (hl : lookB B l = some (.var cells)) (hi : cells[i]? = some (.own t k)) (ht : lookB B t = some (.arr e sz rows fz)) (hkr : k = rows.length) (hr : (rows.map fun r => r.map unN) = rows'.map fun r => r.map AC.c) :
    Wk (mk n L B G) (mk n L ((l, .var (cells.set i (.c (.sl rows')))) :: frzB t B) G) :=
  fun _ _ _ a _ ⟨F, g, h⟩ => by
    obtain ⟨F1, h1, up, pf⟩ := h.freeze t
    have hne : l ≠ t := fun e => by rw [e, ht] at hl; cases hl
    have hv : ViewC (mk n L B G).lb (.own t k) (.sl rows') := ⟨e, sz, rows, fz, rows', by rw [mk_lb]; exact ht, hkr, hr, rfl⟩
    have hrd := fun u hs => viewC_sound h1 (fun _ _ hb => hb) (x := .own t k) (y := .sl rows') (u := u) (ViewC_frz (ls := [t]) hv) hs (fun l' hl' e' sz' rows1 fz' hq b o hb ho => by
      simp only [AC.owns, List.mem_singleton] at hl'
      subst hl'
      obtain ⟨fz2, hf2⟩ := frz_arr (l := l') (s := mk n L B G) (k := l') (by rw [mk_lb]; exact ht)
      rw [hf2] at hq
      obtain ⟨rfl, rfl, rfl, _⟩ := LB.arr.inj (Option.some.inj hq)
      exact pf _ _ _ _ (by rw [mk_lb]; exact ht) b o hb ho)
    rw [mk_frz] at h1 hrd
    have hl' : (mk n L (frzB t B) G).lb l = some (.var cells) := by rw [mk_lb, lookB_frz, if_neg hne]; exact hl
    obtain ⟨cs, e, h2, h3, h4⟩ := h1.lb l _ hl'
    have K : Keeps (mk n L (frzB t B) G).lb g ((mk n L (frzB t B) G).put l (.var (cells.set i (.c (.sl rows'))))).lb (g.upd l (g.bl l) (g.hd l) (g.ds l)) := Keeps.upd (fun B0 hB => by
      rw [hl'] at hB
      obtain rfl := Option.some.inj hB
      exact ⟨fun _ _ _ => trivial, fun _ _ h => h, fun _ _ _ _ _ => trivial, fun _ _ _ => trivial⟩)
    have := h1.putLB (l := l) (b := g.bl l) (v := g.hd l) (S := g.ds l) (B' := .var (cells.set i (.c (.sl rows')))) (fun B0 hB => by
      rw [hl'] at hB
      obtain rfl := Option.some.inj hB
      exact ⟨fun _ _ _ => trivial, fun _ _ h => h, fun _ _ _ _ _ => trivial, fun _ _ _ => trivial⟩)
      ⟨cs, e, by simpa [Gh.upd] using h2, RepACs.mono (Stays.refl _ _) K _ _ (setCells_rep (fun u hu => hrd u hu) _ i _ hi h3), by simpa [Gh.upd] using h4⟩
      (by have := h1.so l _ hl'; simpa [SoftOk, Gh.upd] using this) (h1.nd l _ hl') (fun l' B0 hne hB k hk hk' => h1.dj l l' _ B0 (Ne.symm hne) hl' hB k hk hk') (fun k hk => h1.nw l _ hl' k hk)
    exact ⟨F1, _, this⟩
end
end Go.Ai
