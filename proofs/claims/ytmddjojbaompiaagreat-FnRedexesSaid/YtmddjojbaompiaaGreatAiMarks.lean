/- Rows that are overwritten one element after the other. -/
import Derived.Test.YtmddjojbaompiaaGreatAiRow2
import Derived.Test.YtmddjojbaompiaaGreatAiKinds
set_option linter.unusedVariables false
set_option linter.unusedSimpArgs false
namespace Go.Ai
open Go.RowKit
def turnR (f : List (List AC)) (g : List (List AC)) (i : Nat) : List (List AC) := f.take i ++ g.drop i
section
variable {f g : List (List AC)} {i : Nat}
def turnS (f : List (List AC)) (g : List (List AC)) (i : Nat) (r : List AC) : List (List AC) := (turnR f g i).set i r
end
section
variable {n : Nat} {L : List (Nat × AV)} {B : List (Nat × LB)} {G : List AV} {l : Nat} {e : TypeId} {sz : Nat} {f g : List (List AC)} {i c T : Nat} {r : List AC} {x : C}
end
def dC : C → AC
 | .v x => .c (.v x)
 | .sl r => .d (.sl r)
theorem dC_in (lb : Lk) (c : C) : inC lb (dC c) := by cases c <;> trivial
theorem drows_in {rows : List (List C)} (lb : Lk) : ∀ r, r ∈ (rows.map fun q => q.map dC) → ∀ a, a ∈ r → inC lb a := by
 intro r hr a ha
 obtain ⟨q, _, rfl⟩ := List.mem_map.1 hr
 obtain ⟨c, _, rfl⟩ := List.mem_map.1 ha
 exact dC_in lb c
theorem drows_isO {rows : List (List C)} : ∀ r, r ∈ (rows.map fun q => q.map dC) → ∀ x, x ∈ r → isO x = true := by
 intro r hr a ha
 obtain ⟨q, _, rfl⟩ := List.mem_map.1 hr
 obtain ⟨c, _, rfl⟩ := List.mem_map.1 ha
 cases c <;> rfl
theorem drows_toC {rows : List (List C)} : (rows.map fun q => q.map dC).map (fun r => r.map toC) = rows := by
 simp only [List.map_map]
 have : ((fun r => List.map toC r) ∘ fun q => List.map dC q) = id := by
  funext q
  simp only [Function.comp, List.map_map, id]
  have : (toC ∘ dC) = id := by funext c; cases c <;> rfl
  rw [this, List.map_id]
 rw [this, List.map_id]
section
variable {α : Type} (ec : α → List C)
def drowsOf (xs : List α) : List (List AC) := xs.map fun a => (ec a).map dC
theorem drowsOf_len (xs : List α) : (drowsOf ec xs).length = xs.length := by simp [drowsOf]
theorem drowsOf_take (xs : List α) (i : Nat) (h : i < xs.length) : drowsOf ec (xs.take (i + 1)) = drowsOf ec (xs.take i) ++ [(ec xs[i]).map dC] := by
 rw [List.take_succ_eq_append_getElem h]; unfold drowsOf; rw [List.map_append]; rfl
theorem drowsOf_in (xs : List α) (lb : Lk) : ∀ r, r ∈ drowsOf ec xs → ∀ a, a ∈ r → inC lb a := by
 have := drows_in (rows := xs.map ec) lb
 simpa [drowsOf] using this
theorem drowsOf_isO (xs : List α) : ∀ r, r ∈ drowsOf ec xs → ∀ a, a ∈ r → isO a = true := by
 have := drows_isO (rows := xs.map ec)
 simpa [drowsOf] using this
theorem drowsOf_toC (xs : List α) : (drowsOf ec xs).map (fun r => r.map toC) = xs.map ec := by
 have := drows_toC (rows := xs.map ec)
 simpa [drowsOf] using this
end
theorem inB_drowsOf {α : Type} {ec : α → List C} {xs : List α} {lb : Lk} {e : TypeId} {sz : Nat} {fz : Bool} : inB lb (.arr e sz (drowsOf ec xs) fz) = True := eq_true (drowsOf_in ec xs lb)
theorem isO_drowsOf {α : Type} {ec : α → List C} {xs : List α} : (∀ r, r ∈ drowsOf ec xs → ∀ a, a ∈ r → isO a = true) = True := eq_true (drowsOf_isO ec xs)
attribute [go_sem ↓] inB_drowsOf
attribute [go_sem] isO_drowsOf drowsOf_toC
section
variable {n : Nat} {L : List (Nat × AV)} {B : List (Nat × LB)} {G : List AV} {l : Nat} {e : TypeId} {sz : Nat} {f g : List (List AC)} {fz : Bool} {i c T j : Nat} {r : List AC} {x : C} {xs : List (Option C)}
end
theorem wfI_of (n : Int) (h : -4611686018427387904 ≤ n) (h' : n ≤ 4611686018427387904) : wfI n := by
 have h1 : IntKind.i64.min = -9223372036854775808 := rfl
 have h2 : IntKind.i64.max = 9223372036854775807 := rfl
 simp only [wfI, Lit.wf, h1, h2, Bool.and_eq_true, decide_eq_true_eq]
 omega
end Go.Ai
