/- Rows that are filled one element after the other. -/
import Derived.Test.YtmddjojbaompiaaGreatAiTerm
import Derived.Test.YtmddjojbaompiaaGreatAiRow2
set_option linter.unusedVariables false
set_option linter.unusedSimpArgs false
namespace Go.Ai
section
variable {α : Type} {ec : α → List C} {z : List AC} {xs : List α} {i : Nat}
def rowsAt (ec : α → List C) (z : List AC) (xs : List α) (i : Nat) : List (List AC) := (xs.take i).map (fun a => (ec a).map .c) ++ List.replicate (xs.length - i) z
theorem rowsAt_full (h : xs.length ≤ i) : rowsAt ec z xs i = xs.map (fun a => (ec a).map .c) := by simp [rowsAt, List.take_of_length_le h, Nat.sub_eq_zero_of_le h]
theorem rowsAt_view (h : xs.length ≤ i) : (rowsAt ec z xs i).map (fun r => r.map toC) = xs.map ec := by
 rw [rowsAt_full h, List.map_map]
 refine List.map_congr_left (fun a _ => ?_)
 simp only [Function.comp, List.map_map]
 have : toC ∘ AC.c = id := by funext x; rfl
 rw [this, List.map_id]
theorem rowsAt_isV (h : xs.length ≤ i) : ∀ r, r ∈ rowsAt ec z xs i → ∀ a, a ∈ r → isV a = true := by
 rw [rowsAt_full h]
 intro r hr a ha
 obtain ⟨x, _, rfl⟩ := List.mem_map.1 hr
 obtain ⟨c, _, rfl⟩ := List.mem_map.1 ha
 rfl
theorem rowsAt_inC {lb : Lk} (hz : ∀ a, a ∈ z → inC lb a) : ∀ r, r ∈ rowsAt ec z xs i → ∀ a, a ∈ r → inC lb a := by
 intro r hr a ha
 rcases List.mem_append.1 hr with hr | hr
 ·obtain ⟨x, _, rfl⟩ := List.mem_map.1 hr
  obtain ⟨c, _, rfl⟩ := List.mem_map.1 ha
  trivial
 ·rw [List.eq_of_mem_replicate hr] at ha
  exact hz a ha
theorem map_getD (h : i < xs.length) : (xs.map ec).getD i [] = ec xs[i] := by simp [List.getD, h]
end
section
variable {α : Type} {ec : α → List C} {xs : List α}
def rowsOf (ec : α → List C) (xs : List α) : List (List AC) := xs.map (fun a => (ec a).map .c)
theorem rowsOf_len : (rowsOf ec xs).length = xs.length := by simp [rowsOf]
theorem rowsOf_snoc (a : α) : rowsOf ec xs ++ [(ec a).map .c] = rowsOf ec (xs ++ [a]) := by simp [rowsOf]
theorem rowsOf_app (ys : List α) : rowsOf ec xs ++ rowsOf ec ys = rowsOf ec (xs ++ ys) := by simp [rowsOf]
theorem rowsOf_view : (rowsOf ec xs).map (fun r => r.map toC) = xs.map ec := by
 have := rowsAt_view (ec := ec) (z := []) (xs := xs) (Nat.le_refl _)
 rwa [rowsAt_full (Nat.le_refl _)] at this
theorem rowsOf_isV : ∀ r, r ∈ rowsOf ec xs → ∀ a, a ∈ r → isV a = true := by
 have := rowsAt_isV (ec := ec) (z := []) (xs := xs) (Nat.le_refl _)
 rwa [rowsAt_full (Nat.le_refl _)] at this
theorem rowsOf_inC {lb : Lk} : ∀ r, r ∈ rowsOf ec xs → ∀ a, a ∈ r → inC lb a := by
 have := rowsAt_inC (ec := ec) (z := []) (xs := xs) (i := xs.length) (lb := lb) (by simp)
 rwa [rowsAt_full (Nat.le_refl _)] at this
end
theorem rowsOf_more {α : Type} {ec : α → List C} {xs : List α} : (xs.map ec).map (fun r => r.map AC.c) = rowsOf ec xs := by simp [rowsOf]
theorem rowsOf_toC {α : Type} {ec : α → List C} {xs : List α} : (rowsOf ec xs).map (fun r => r.map toC) = xs.map ec := rowsOf_view
theorem rowsOf_l {α : Type} {ec : α → List C} {xs : List α} {n : Nat} (h : ∀ a, (ec a).length = n) : ∀ r, r ∈ rowsOf ec xs → r.length = n := by
 intro r hr
 obtain ⟨x, _, rfl⟩ := List.mem_map.1 hr
 rw [List.length_map, h]
theorem rowsOf_cl {α : Type} {ec : α → List C} {xs : List α} : clR (rowsOf ec xs) := by
 intro r hr a ha
 obtain ⟨x, _, rfl⟩ := List.mem_map.1 hr
 obtain ⟨c, _, rfl⟩ := List.mem_map.1 ha
 rfl
theorem rowsOf_noD {α : Type} {ec : α → List C} {xs : List α} : noD (rowsOf ec xs) = true := by
 simp only [noD, List.all_eq_true, Bool.not_eq_true']
 intro r hr a ha
 obtain ⟨x, _, rfl⟩ := List.mem_map.1 hr
 obtain ⟨c, _, rfl⟩ := List.mem_map.1 ha
 rfl
theorem rowsOf_unN {α : Type} {ec : α → List C} {xs : List α} : (rowsOf ec xs).map (fun r => r.map unN) = (xs.map ec).map fun r => r.map AC.c := by
 simp only [rowsOf, List.map_map]
 refine List.map_congr_left (fun a _ => ?_)
 simp only [Function.comp, List.map_map]
 rfl
theorem rowsOf_get {α : Type} {ec : α → List C} {xs : List α} {i : Nat} (h : i < xs.length) : (rowsOf ec xs).getD i [] = (ec xs[i]).map AC.c := by
 simp [rowsOf, List.getD, h]
theorem not_nil_all {α : Type} {p : α → Prop} : (∀ r, r ∈ ([] : List α) → p r) = True := by simp
theorem int_le0 : ((0 : Int) ≤ 0) = True := eq_true (Int.le_refl 0)
attribute [go_sem] rowsOf_more not_nil_all int_le0 Int.toNat_zero
theorem inB_rowsOf {α : Type} {ec : α → List C} {xs : List α} {lb : Lk} {e : TypeId} {sz : Nat} {fz : Bool} : inB lb (.arr e sz (rowsOf ec xs) fz) = True := eq_true rowsOf_inC
theorem isV_rowsOf {α : Type} {ec : α → List C} {xs : List α} : (∀ r, r ∈ rowsOf ec xs → ∀ a, a ∈ r → isV a = true) = True := eq_true rowsOf_isV
theorem replicate_one {α : Type} (a : α) : List.replicate 1 a = [a] := rfl
theorem replicate_zero {α : Type} (a : α) : List.replicate 0 a = [] := rfl
theorem replicate_two {α : Type} (a : α) : List.replicate 2 a = [a, a] := rfl
theorem replicate_three {α : Type} (a : α) : List.replicate 3 a = [a, a, a] := rfl
theorem replicate_four {α : Type} (a : α) : List.replicate 4 a = [a, a, a, a] := rfl
attribute [go_sem] replicate_two replicate_three replicate_four
theorem unD_c (cs : List C) : (cs.map AC.c).map unD = cs.map AC.c := by
 rw [List.map_map]; rfl
attribute [go_sem] unD_c
attribute [go_sem ↓] inB_rowsOf
attribute [go_sem] rowsOf_len rowsOf_view isV_rowsOf replicate_one replicate_zero List.flatten_cons List.flatten_nil List.length_append
end Go.Ai
