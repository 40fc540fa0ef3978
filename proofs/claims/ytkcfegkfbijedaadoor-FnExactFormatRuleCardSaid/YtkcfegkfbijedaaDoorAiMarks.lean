/- Rows that are overwritten one element after the other. -/
import Derived.Test.YtkcfegkfbijedaaDoorAiRow2
import Derived.Test.YtkcfegkfbijedaaDoorAiKinds
namespace Go.Ai
set_option linter.unusedVariables false
set_option linter.unusedSimpArgs false
open Go.RowKit

/-- Rows of which the first i are turned. -/
def turnR (f : List (List AC)) (g : List (List AC)) (i : Nat) : List (List AC) := f.take i ++ g.drop i
section
variable {f g : List (List AC)} {i : Nat}
theorem turnR_len (h : f.length = g.length) (hi : i ≤ g.length) : (turnR f g i).length = g.length := by simp [turnR]; omega
theorem turnR_get (h : f.length = g.length) (hi : i < g.length) : (turnR f g i).getD i [] = g[i] := by
  have hf : (f.take i).length = i := by rw [List.length_take]; omega
  rw [turnR, List.getD_eq_getElem?_getD, List.getElem?_append_right (by omega), hf, Nat.sub_self, List.getElem?_drop, Nat.add_zero, List.getElem?_eq_getElem hi]; rfl
theorem turnR_set (h : f.length = g.length) (hi : i < g.length) : (turnR f g i).set i (f[i]'(by omega)) = turnR f g (i + 1) := by
  have hf : (f.take i).length = i := by rw [List.length_take]; omega
  have hi' : i < f.length := by omega
  rw [turnR, turnR, List.set_append_right _ _ (by omega), hf, Nat.sub_self, List.drop_eq_getElem_cons hi, List.set_cons_zero]
  rw [List.take_succ_eq_append_getElem hi', List.append_assoc]; rfl
/-- The i-th is being turned. -/
def turnS (f : List (List AC)) (g : List (List AC)) (i : Nat) (r : List AC) : List (List AC) := (turnR f g i).set i r
theorem turnS_len (h : f.length = g.length) (hi : i < g.length) (r : List AC) : (turnS f g i r).length = g.length := by unfold turnS; rw [List.length_set]; exact turnR_len h (by omega)
theorem turnS_get (h : f.length = g.length) (hi : i < g.length) (r : List AC) : (turnS f g i r).getD i [] = r := by
  unfold turnS
  rw [List.getD_eq_getElem?_getD, List.getElem?_set_self (by rw [turnR_len h (by omega)]; exact hi)]; rfl
theorem turnS_set (r r' : List AC) : (turnS f g i r).set i r' = turnS f g i r' := by unfold turnS; rw [List.set_set]
theorem turnR_turnS (h : f.length = g.length) (hi : i < g.length) (r : List AC) : (turnR f g i).set i r = turnS f g i r := rfl
theorem turnS_turnR (h : f.length = g.length) (hi : i < g.length) : turnS f g i (f[i]'(by omega)) = turnR f g (i + 1) := turnR_set h hi
theorem turnR_zero : turnR f g 0 = g := by simp [turnR]
theorem turnR_end (h : f.length = g.length) (hi : i = g.length) : turnR f g i = f := by simp [turnR, ← h, hi]
end
theorem turnR_eq {f g : List (List AC)} {i : Nat} {r : List AC} (h : f.length = g.length) (hi : i < g.length) (hr : g[i] = r) : turnR f g i = turnS f g i r := by
  have hg := turnR_get h hi
  unfold turnS
  rw [← hr, ← hg]
  have hl := turnR_len (i := i) h (by omega)
  rw [List.getD_eq_getElem?_getD, List.getElem?_eq_getElem (by omega)]
  simp
section
variable {n : Nat} {L : List (Nat × AV)} {B : List (Nat × LB)} {G : List AV} {l : Nat} {e : TypeId} {sz : Nat} {f g : List (List AC)} {i c T : Nat} {r : List AC} {x : C}
theorem wk_takeS (h : f.length = g.length) (hi : i < g.length) (hl : lookB B l = some (.arr e sz (turnS f g i r) false)) (hc : r[c]? = some (.m x)) (hT : lookB B T = none) (hn : noD (turnS f g i r) = true) :
    Wk (mk n L B G) (mk n L ((T, .tok [some x]) :: (l, .arr e sz (turnS f g i (r.set c (.tk T 0))) false) :: B) G) := by
  have hg := turnS_get h hi r
  have := wk_take (n := n) (L := L) (G := G) (c := c) (i := i) hl (by rw [turnS_len h hi]; exact hi) (by rw [hg]; exact hc) hT hn
  rwa [hg, turnS_set] at this
theorem wk_giveS (h : f.length = g.length) (hi : i < g.length) (hl : lookB B l = some (.arr e sz (turnS f g i r) false)) (hc : r[c]? = some (.tk T 0)) (hT : lookB B T = some (.tok [some x])) :
    Wk (mk n L B G) (mk n L ((T, .tok [none]) :: (l, .arr e sz (turnS f g i (r.set c (.m x))) false) :: B) G) := by
  have hg := turnS_get h hi r
  have := wk_give (n := n) (L := L) (G := G) (c := c) (i := i) hl (by rw [turnS_len h hi]; exact hi) (by rw [hg]; exact hc) hT rfl
  rwa [hg, turnS_set] at this
end
theorem mC_in (lb : Lk) (c : C) : inC lb (mC c) := by cases c <;> trivial
theorem mrows_in {rows : List (List C)} (lb : Lk) : ∀ r, r ∈ (rows.map fun q => q.map mC) → ∀ a, a ∈ r → inC lb a := by
  intro r hr a ha
  obtain ⟨q, _, rfl⟩ := List.mem_map.1 hr
  obtain ⟨c, _, rfl⟩ := List.mem_map.1 ha
  exact mC_in lb c
theorem turnR_in {f g : List (List AC)} {i : Nat} {lb : Lk} (hf : ∀ r, r ∈ f → ∀ a, a ∈ r → inC lb a) (hg : ∀ r, r ∈ g → ∀ a, a ∈ r → inC lb a) : ∀ r, r ∈ turnR f g i → ∀ a, a ∈ r → inC lb a := by
  intro r hr
  rcases List.mem_append.1 hr with hr | hr
  · exact hf r (List.mem_of_mem_take hr)
  · exact hg r (List.mem_of_mem_drop hr)
theorem mC_noD (c : C) : isD (mC c) = false := by cases c <;> rfl
theorem mrows_noD {rows : List (List C)} : noD (rows.map fun q => q.map mC) = true := by
  simp only [noD, List.all_eq_true, Bool.not_eq_true']
  intro r hr a ha
  obtain ⟨q, _, rfl⟩ := List.mem_map.1 hr
  obtain ⟨c, _, rfl⟩ := List.mem_map.1 ha
  exact mC_noD c
theorem turnR_noD {f g : List (List AC)} {i : Nat} (hf : noD f = true) (hg : noD g = true) : noD (turnR f g i) = true := by
  simp only [noD, List.all_eq_true] at hf hg ⊢
  intro r hr
  rcases List.mem_append.1 hr with hr | hr
  · exact hf r (List.mem_of_mem_take hr)
  · exact hg r (List.mem_of_mem_drop hr)
theorem turnS_noD {f g : List (List AC)} {i : Nat} {r : List AC} (hf : noD f = true) (hg : noD g = true) (hr : r.all (fun x => !isD x) = true) : noD (turnS f g i r) = true := by
  have := turnR_noD (i := i) hf hg
  simp only [noD, List.all_eq_true] at this hr ⊢
  intro q hq
  rcases List.mem_or_eq_of_mem_set hq with hq | rfl
  · exact this q hq
  · exact hr
theorem toC_mC (c : C) : toC (mC c) = c := by cases c <;> rfl
theorem mrows_isO {rows : List (List C)} : ∀ r, r ∈ (rows.map fun q => q.map mC) → ∀ x, x ∈ r → isO x = true := by
  intro r hr a ha
  obtain ⟨q, _, rfl⟩ := List.mem_map.1 hr
  obtain ⟨c, _, rfl⟩ := List.mem_map.1 ha
  cases c <;> rfl
theorem mrows_toC {rows : List (List C)} : (rows.map fun q => q.map mC).map (fun r => r.map toC) = rows := by
  simp only [List.map_map]
  have : ((fun r => List.map toC r) ∘ fun q => List.map mC q) = id := by
    funext q
    simp only [Function.comp, List.map_map, id]
    have : (toC ∘ mC) = id := by funext c; exact toC_mC c
    rw [this, List.map_id]
  rw [this, List.map_id]
/-! ### Rows that are filled with owned elements -/
def dC : C → AC
  | .v x => .c (.v x)
  | .sl r => .d (.sl r)
theorem dC_in (lb : Lk) (c : C) : inC lb (dC c) := by cases c <;> trivial
theorem drows_in {rows : List (List C)} (lb : Lk) : ∀ r, r ∈ (rows.map fun q => q.map dC) → ∀ a, a ∈ r → inC lb a := by
  intro r hr a ha
  obtain ⟨q, _, rfl⟩ := List.mem_map.1 hr
  obtain ⟨c, _, rfl⟩ := List.mem_map.1 ha
  exact dC_in lb c
theorem drows_isO {rows : List (List C)} : ∀ r, r ∈ (rows.map fun q => q.map dC) → ∀ x, x ∈ r → isO x = true := by
  intro r hr a ha
  obtain ⟨q, _, rfl⟩ := List.mem_map.1 hr
  obtain ⟨c, _, rfl⟩ := List.mem_map.1 ha
  cases c <;> rfl
theorem drows_toC {rows : List (List C)} : (rows.map fun q => q.map dC).map (fun r => r.map toC) = rows := by
  simp only [List.map_map]
  have : ((fun r => List.map toC r) ∘ fun q => List.map dC q) = id := by
    funext q
    simp only [Function.comp, List.map_map, id]
    have : (toC ∘ dC) = id := by funext c; cases c <;> rfl
    rw [this, List.map_id]
  rw [this, List.map_id]
theorem drows_isV {rows : List (List C)} : ∀ r, r ∈ (rows.map fun q => q.map dC) → ∀ x, x ∈ r → isV x = true := by
  intro r hr a ha
  obtain ⟨q, _, rfl⟩ := List.mem_map.1 hr
  obtain ⟨c, _, rfl⟩ := List.mem_map.1 ha
  cases c <;> rfl
section
variable {α : Type} (ec : α → List C)
/-- Rows of owned elements. -/
def drowsOf (xs : List α) : List (List AC) := xs.map fun a => (ec a).map dC
theorem drowsOf_len (xs : List α) : (drowsOf ec xs).length = xs.length := by simp [drowsOf]
theorem drowsOf_take (xs : List α) (i : Nat) (h : i < xs.length) : drowsOf ec (xs.take (i + 1)) = drowsOf ec (xs.take i) ++ [(ec xs[i]).map dC] := by
  rw [List.take_succ_eq_append_getElem h]; unfold drowsOf; rw [List.map_append]; rfl
theorem drowsOf_zero (xs : List α) : drowsOf ec (xs.take 0) = [] := by simp [drowsOf]
theorem drowsOf_in (xs : List α) (lb : Lk) : ∀ r, r ∈ drowsOf ec xs → ∀ a, a ∈ r → inC lb a := by
  have := drows_in (rows := xs.map ec) lb
  simpa [drowsOf] using this
theorem drowsOf_isO (xs : List α) : ∀ r, r ∈ drowsOf ec xs → ∀ a, a ∈ r → isO a = true := by
  have := drows_isO (rows := xs.map ec)
  simpa [drowsOf] using this
theorem drowsOf_isV (xs : List α) : ∀ r, r ∈ drowsOf ec xs → ∀ a, a ∈ r → isV a = true := by
  have := drows_isV (rows := xs.map ec)
  simpa [drowsOf] using this
theorem drowsOf_toC (xs : List α) : (drowsOf ec xs).map (fun r => r.map toC) = xs.map ec := by
  have := drows_toC (rows := xs.map ec)
  simpa [drowsOf] using this
end
theorem inB_drowsOf {α : Type} {ec : α → List C} {xs : List α} {lb : Lk} {e : TypeId} {sz : Nat} {fz : Bool} : inB lb (.arr e sz (drowsOf ec xs) fz) = True := eq_true (drowsOf_in ec xs lb)
theorem isO_drowsOf {α : Type} {ec : α → List C} {xs : List α} : (∀ r, r ∈ drowsOf ec xs → ∀ a, a ∈ r → isO a = true) = True := eq_true (drowsOf_isO ec xs)
theorem isV_drowsOf {α : Type} {ec : α → List C} {xs : List α} : (∀ r, r ∈ drowsOf ec xs → ∀ a, a ∈ r → isV a = true) = True := eq_true (drowsOf_isV ec xs)
attribute [go_sem ↓] inB_drowsOf
attribute [go_sem] isO_drowsOf isV_drowsOf drowsOf_toC
theorem rep_in {n : Nat} {z : List AC} {lb : Lk} (hz : ∀ a, a ∈ z → inC lb a) : ∀ r, r ∈ List.replicate n z → ∀ a, a ∈ r → inC lb a := by
  intro r hr
  rw [List.eq_of_mem_replicate hr]; exact hz
section
variable {n : Nat} {L : List (Nat × AV)} {B : List (Nat × LB)} {G : List AV} {l : Nat} {e : TypeId} {sz : Nat} {f g : List (List AC)} {fz : Bool} {i c T j : Nat} {r : List AC} {x : C} {xs : List (Option C)}
theorem wk_moveS (h : f.length = g.length) (hi : i < g.length) (hl : lookB B l = some (.arr e sz (turnS f g i r) fz)) (hc : r[c]? = some (.tk T j)) (hT : lookB B T = some (.tok xs)) (hx : xs[j]? = some (some x)) :
    Wk (mk n L B G) (mk n L ((T, .tok (xs.set j none)) :: (l, .arr e sz (turnS f g i (r.set c (.d x))) fz) :: B) G) := by
  have hg := turnS_get h hi r
  have := wk_move (n := n) (L := L) (G := G) (c := c) (i := i) hl (by rw [turnS_len h hi]; exact hi) (by rw [hg]; exact hc) hT hx
  rwa [hg, turnS_set] at this
end

theorem turnedRow_mk {n L m : Nat} {rows : List (List C)} {R : List (List AC)} {S : List (Nat × AV)} {B : List (Nat × LB)} {G : List AV} {e : TypeId} {sz : Nat} {fz : Bool} (hB : lookB B L = some (.arr e sz R fz)) (hR : R = rows.map fun q => q.map mC) (hn : n = rows.length) (hG : G = [.one (.own L n)]) : TurnedRow L n rows (mk m S B G) := by
  unfold TurnedRow
  rw [mk_lb, hB]
  subst hR
  exact ⟨by rw [List.length_map]; exact hn, mrows_isO, mrows_toC, hG⟩
theorem wfI_of (n : Int) (h : -4611686018427387904 ≤ n) (h' : n ≤ 4611686018427387904) : wfI n := by
  have h1 : IntKind.i64.min = -9223372036854775808 := rfl
  have h2 : IntKind.i64.max = 9223372036854775807 := rfl
  simp only [wfI, Lit.wf, h1, h2, Bool.and_eq_true, decide_eq_true_eq]
  omega
end Go.Ai
