/- Names in lists: IndexOf, AllDistinct. -/
import Derived.Test.YtgdmjekkdcjipaaGreatAiW1
import Derived.Test.YtgdmjekkdcjipaaGreatAiMarks
set_option linter.unusedVariables false
set_option linter.unusedSimpArgs false
namespace Go.Ai
open Go.Proofs Go.RowKit
set_option maxRecDepth 100000
def vG0 (s : ByteArray) : List ByteArray → Int → Int
 | [], _ => -1
 | x :: xs, k => if eqS x s then k else vG0 s xs (k + 1)
theorem di0 (s : ByteArray) (xs : List ByteArray) (i : Nat) (h : i < xs.length) (k : Int) : vG0 s (xs.drop i) k = if eqS xs[i] s then k else vG0 s (xs.drop (i + 1)) (k + 1) := by
 rw [List.drop_eq_getElem_cons h]; simp only [vG0]
theorem fr0 (s : ByteArray) : ∀ (xs : List ByteArray) (k : Int), (∃ m, ∃ h : m < xs.length, vG0 s xs k = k + m ∧ eqS xs[m] s = true ∧ ∀ j (hj : j < m), eqS (xs[j]'(by omega)) s = false) ∨ (∀ j (hj : j < xs.length), eqS xs[j] s = false)
 | [], k => .inr (fun j hj => by simp at hj)
 | x :: xs, k => by
  simp only [vG0]
  by_cases hx : eqS x s = true
  ·exact .inl ⟨0, by simp, by simp [hx], by simpa using hx, fun j hj => by omega⟩
  ·have hx' : eqS x s = false := by simpa using hx
   rcases fr0 s xs (k + 1) with ⟨m, hm, h1, h2, h3⟩ | h
   ·refine .inl ⟨m + 1, by simpa using hm, by rw [if_neg hx, h1]; push_cast; omega, by simpa using h2, fun j hj => ?_⟩
    cases j with
    | zero => simpa using hx'
    | succ j => simpa using h3 j (by omega)
   ·refine .inr (fun j hj => ?_)
    cases j with
    | zero => simpa using hx'
    | succ j => simpa using h j (by simpa using hj)
theorem dV0 (s : ByteArray) : eqS s s = true := by simp [eqS]
theorem dj0 (xs : List ByteArray) (i : Nat) (h : i < xs.length) : vG0 xs[i] xs 0 = i ↔ ∀ j (hj : j < i), eqS (xs[j]'(by omega)) xs[i] = false := by
 rcases fr0 xs[i] xs 0 with ⟨m, hm, h1, h2, h3⟩ | h'
 ·rw [h1]
  constructor
  ·intro e j hj
   exact h3 j (by omega)
  ·intro hall
   rcases Nat.lt_trichotomy m i with hlt | rfl | hgt
   ·rw [hall m hlt] at h2; cases h2
   ·omega
   ·have := h3 i hgt
    rw [dV0] at this; cases this
 ·have := h' i h
  rw [dV0] at this; cases this
def distS (xs : List ByteArray) : Bool := decide ((xs.map fun s => s.data.toList).Nodup)
theorem zW1 (a b : ByteArray) : eqS a b = true ↔ a.data.toList = b.data.toList := by
 simp [eqS, qE0]
theorem dS0 (xs : List ByteArray) : distS xs = true ↔ ∀ i (h : i < xs.length), vG0 xs[i] xs 0 = i := by
 unfold distS
 rw [decide_eq_true_eq, List.Nodup, List.pairwise_iff_getElem]
 simp only [List.getElem_map, List.length_map]
 constructor
 ·intro h i hi
  rw [dj0 xs i hi]
  intro j hj
  have := h j i (by omega) hi hj
  rw [Ne, ← zW1] at this
  simpa using this
 ·intro h i j hi hj hij he
  have := (dj0 xs j hj).1 (h j hj) i hij
  rw [← zW1] at he
  rw [he] at this; cases this
theorem qj0 (xs : List ByteArray) (hl : xs.length < 100000000) (s : ByteArray) : Sat Tryz.prog 120 [slV (xs.map encS), ql0 s] (zD0 (vG0 s xs 0)) := by
 refine soc zE0 zB0 Tryz.func120 ?_
 simp -implicitDefEqProofs (disch := omega) only [go_sem]
 refine zA0 (ι := Nat) (fun i => mk 19 [(0, slV (xs.map encS)), (1, ql0 s), (5, zD0 i)] []) (fun i => i ≤ xs.length ∧ vG0 s (xs.drop i) i = vG0 s xs 0) (fun i => xs.length - i) 0 ⟨Nat.zero_le _, by simp⟩ ?_ zE0 zB0 (by decide +kernel) ?_
 ·exact lek
 ·rintro i ⟨hi, he⟩
  rcases Nat.lt_or_ge i xs.length with hlt | hge
  ·have hg := zC0 (ec := encS) hlt
   rw [di0 s xs i hlt] at he
   generalize xs[i] = x at hg he
   simp only [encS] at hg
   simp -implicitDefEqProofs (disch := omega) only [go_sem, hg, hlt, List.length_map]
   refine ⟨fun h => ?_, fun h => ⟨i + 1, ⟨hlt, ?_⟩, by omega, lek⟩⟩
   ·have he' : eqS x s = true := by simpa [eqS] using h
    simpa only [he', if_true] using he
   ·have he' : eqS x s = false := h
    simpa only [he', Bool.false_eq_true, if_false, Int.natCast_add, Int.natCast_one] using he
  ·have e1 : xs.drop i = [] := List.drop_of_length_le hge
   rw [e1] at he
   simp -implicitDefEqProofs (disch := omega) only [go_sem, Nat.not_lt.2 hge, List.length_map]
   rw [← he]; rfl
theorem specAllDistinct_sat (xs : List ByteArray) (hl : xs.length < 100000000) : Sat Tryz.prog 55 [slV (xs.map encS)] (boolV (distS xs)) := by
 obtain ⟨r, hr⟩ : ∃ r, r = distS xs := ⟨_, rfl⟩
 rw [← hr]
 refine soc zE0 zB0 Tryz.func55 ?_
 simp -implicitDefEqProofs (disch := omega) only [go_sem]
 refine zA0 (ι := Nat) (fun i => mk 18 [(0, slV (xs.map encS)), (3, zD0 i)] []) (fun i => i ≤ xs.length ∧ ∀ j (h : j < xs.length), j < i → vG0 xs[j] xs 0 = j) (fun i => xs.length - i) 0 ⟨Nat.zero_le _, fun j _ h => by omega⟩ ?_ zE0 zB0 (by decide +kernel) ?_
 ·exact lek
 ·rintro i ⟨hi, he⟩
  rcases Nat.lt_or_ge i xs.length with hlt | hge
  ·have hg := zC0 (ec := encS) hlt
   have hix := qj0 xs hl xs[i]
   have hd := dS0 xs
   obtain ⟨q, hq⟩ : ∃ q, q = vG0 xs[i] xs 0 := ⟨_, rfl⟩
   rw [← hq] at hix
   generalize hx : xs[i] = x at hg hix
   simp only [encS] at hg
   simp -implicitDefEqProofs (disch := omega) only [go_sem, hg, hlt, List.length_map]
   refine CallK.mk hix ?_
   simp -implicitDefEqProofs (disch := omega) only [go_sem, List.length_map]
   refine ⟨fun hne => ?_, fun h => ⟨i + 1, ⟨hlt, fun j hj hji => ?_⟩, by omega, lek⟩⟩
   ·cases hrr : r with
    | false => rfl
    | true => exact absurd (by rw [hq]; exact hd.1 (by rw [← hr, hrr]) i hlt) hne
   ·rcases Nat.lt_or_ge j i with hlt2 | hge2
    ·exact he j hj hlt2
    ·have : j = i := by omega
     subst this
     rw [← hq]
     simpa using h
  ·simp -implicitDefEqProofs (disch := omega) only [go_sem, Nat.not_lt.2 hge, List.length_map]
   rw [hr]
   exact ((dS0 xs).2 (fun j hj => he j hj (by omega))).symm
end Go.Ai
