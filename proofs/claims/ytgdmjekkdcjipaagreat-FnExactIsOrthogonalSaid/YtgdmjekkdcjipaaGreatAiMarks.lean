/- Plain values, texts, lists of what is known: their cells, size, equality and reading. -/
import Derived.Test.YtgdmjekkdcjipaaGreatAiRows
import Derived.Test.YtgdmjekkdcjipaaGreatAiRow2
set_option linter.unusedVariables false
set_option linter.unusedSimpArgs false
namespace Go.Ai
open Go.RowKit Go.ChangeShapes
def zO0 (n : Int) : List C := [.v (.int .i64 n)]
def encS (s : ByteArray) : List C := [.v (.string s)]
def qe0 (b : Bool) : List C := [.v (.bool b)]
def zj0 {α : Type} (ec : α → List C) (xs : List α) : List C := [.sl (xs.map ec)]
def szI (_ : Int) : Nat := 0
def szB (_ : Bool) : Nat := 0
def szS (s : ByteArray) : Nat := s.size
def szL {α : Type} (sz : α → Nat) : List α → Nat
 | [] => 0
 | a :: xs => 1 + sz a + szL sz xs
def wfI (n : Int) : Prop := (Lit.int .i64 n).wf = true
def wfS (s : ByteArray) : Prop := s.size ≤ maxLen
def wfB (_ : Bool) : Prop := True
def wfL {α : Type} (wf : α → Prop) (xs : List α) : Prop := xs.length ≤ maxLen ∧ ∀ a, a ∈ xs → wf a
def eqI (a b : Int) : Bool := a == b
def eqS (a b : ByteArray) : Bool := a.toList == b.toList
def eqB (a b : Bool) : Bool := a == b
def eqL {α : Type} (eq : α → α → Bool) : List α → List α → Bool
 | [], [] => true
 | a :: xs, b :: ys => eq a b && eqL eq xs ys
 | _, _ => false
theorem rr0 (bs : ByteArray) : ∀ n i r, bs.size - i = n → ByteArray.toList.loop bs i r = r.reverse ++ bs.data.toList.drop i := by
 intro n
 induction n with
 | zero =>
  intro i r h
  unfold ByteArray.toList.loop
  have hs : bs.size = bs.data.toList.length := by rw [Array.length_toList]; rfl
  rw [if_neg (by omega), List.drop_of_length_le (by omega)]
  simp
 | succ n ih =>
  intro i r h
  unfold ByteArray.toList.loop
  have hs : bs.size = bs.data.toList.length := by rw [Array.length_toList]; rfl
  rw [if_pos (by omega), ih (i + 1) _ (by omega)]
  have hi : i < bs.data.toList.length := by omega
  rw [List.drop_eq_getElem_cons hi]
  have hg : bs.get! i = bs.data.toList[i] := by
   have : i < bs.data.size := by simpa using hi
   simp only [ByteArray.get!]; rw [getElem!_pos bs.data i this]; rfl
  rw [hg]
  simp
theorem qE0 (bs : ByteArray) : bs.toList = bs.data.toList := by
 unfold ByteArray.toList
 rw [rr0 bs _ 0 [] rfl]; simp
theorem zB1 (a b : ByteArray) : (a == b) = (a.toList == b.toList) := by
 rw [qE0, qE0, Bool.eq_iff_iff]
 have e : ((a == b) = true) ↔ a = b := by
  obtain ⟨a⟩ := a
  obtain ⟨b⟩ := b
  show ((a == b) = true) ↔ _
  simp
 rw [e, beq_iff_eq]
 constructor
 ·intro h; rw [h]
 ·intro h; exact ByteArray.ext (Array.toList_inj.1 h)
attribute [go_sem] zB1
theorem nZ0 (a : Int) : eqI a a = true := by simp [eqI]
theorem qf0 (a : ByteArray) : eqS a a = true := by simp [eqS]
section
variable {α : Type}
theorem jZ0 {eq : α → α → Bool} (h : ∀ a, eq a a = true) (xs : List α) : eqL eq xs xs = true := by
 induction xs with
 | nil => rfl
 | cons a xs ih => simp [eqL, h, ih]
theorem vN0 (eq : α → α → Bool) : ∀ (xs ys : List α), xs.length ≠ ys.length → eqL eq xs ys = false
 | [], [], h => by simp at h
 | [], _ :: _, _ => rfl
 | _ :: _, [], _ => rfl
 | a :: xs, b :: ys, h => by simp [eqL, vN0 eq xs ys (by simpa using h)]
theorem ka0 (eq : α → α → Bool) (xs ys : List α) (i : Nat) (h : i < xs.length) (h' : i < ys.length) : eqL eq (xs.drop i) (ys.drop i) = (eq xs[i] ys[i] && eqL eq (xs.drop (i + 1)) (ys.drop (i + 1))) := by
 rw [List.drop_eq_getElem_cons h, List.drop_eq_getElem_cons h']; simp only [eqL]
theorem kx0 (sz : α → Nat) (xs : List α) (i : Nat) (h : i < xs.length) : szL sz (xs.drop i) = 1 + sz xs[i] + szL sz (xs.drop (i + 1)) := by
 rw [List.drop_eq_getElem_cons h]; simp only [szL]
theorem zQ0 (sz : α → Nat) (xs : List α) : xs.length ≤ szL sz xs := by
 induction xs with
 | nil => simp
 | cons a xs ih => simp [szL]; omega
theorem qT0 (sz : α → Nat) (xs : List α) : ∀ a, a ∈ xs → sz a < szL sz xs := by
 induction xs with
 | nil => intro a h; cases h
 | cons b xs ih =>
  intro a h
  simp only [szL]
  rcases List.mem_cons.1 h with rfl | h
  ·omega
  ·have := ih a h; omega
end
section
variable {H : Type} {enc : TypeId × Value → H} {P : Program} {w : World}
theorem lF1 {t : TypeId} (ht : P.underlying t = some (.int .i64)) (fuel : Nat) (cs : List Value) (x : DataW H × List MemPlace) (h : wy0 enc P w fuel t cs = some x) : ∃ n, wfI n ∧ (zO0 n).length = 1 ∧ RdL w (zO0 n) cs := by
 obtain ⟨n, h1, h2⟩ := qe1 ht h; exact ⟨n, h1, rfl, h2⟩
theorem bB1 {t : TypeId} (ht : P.underlying t = some .string) (fuel : Nat) (cs : List Value) (x : DataW H × List MemPlace) (h : wy0 enc P w fuel t cs = some x) : ∃ s, wfS s ∧ (encS s).length = 1 ∧ RdL w (encS s) cs := by
 obtain ⟨n, h1, h2⟩ := gQ0 ht h; exact ⟨n, h1, rfl, h2⟩
theorem rdN {α : Type} {wf : α → Prop} {ec : α → List C} {n : Nat} {cs : List Value} (h : ∃ a, wf a ∧ (ec a).length = n ∧ RdL w (ec a) cs) : ∃ a, wf a ∧ RdL w (ec a) cs := by
 obtain ⟨a, h1, _, h2⟩ := h; exact ⟨a, h1, h2⟩
theorem rdI {t : TypeId} (ht : P.underlying t = some (.int .i64)) (fuel : Nat) (cs : List Value) (x : DataW H × List MemPlace) (h : wy0 enc P w fuel t cs = some x) : ∃ n, wfI n ∧ RdL w (zO0 n) cs := rdN (lF1 ht fuel cs x h)
theorem rdS {t : TypeId} (ht : P.underlying t = some .string) (fuel : Nat) (cs : List Value) (x : DataW H × List MemPlace) (h : wy0 enc P w fuel t cs = some x) : ∃ s, wfS s ∧ RdL w (encS s) cs := rdN (bB1 ht fuel cs x h)
theorem rdL {α : Type} {ec : α → List C} {wf : α → Prop} {t e : TypeId} {sz fuel : Nat} {cs : List Value} {x : DataW H × List MemPlace} (ht : P.underlying t = some (.slice e)) (hs : P.cellsOf e = sz) (hpos : 0 < sz)
  (hel : ∀ m, m < fuel → ∀ cs x, wy0 enc P w m e cs = some x → ∃ a, wf a ∧ (ec a).length = sz ∧ RdL w (ec a) cs) (h : wy0 enc P w fuel t cs = some x) : ∃ as : List α, wfL wf as ∧ RdL w (zj0 ec as) cs := by
 obtain ⟨as, h1, h2, h3⟩ := rB0 ht hs hpos hel h
 exact ⟨as, ⟨h2, h1⟩, h3⟩
end
end Go.Ai
namespace Go.Ai
open Go.RowKit
def dP1 (f : List (List AC)) (g : List (List AC)) (i : Nat) : List (List AC) := f.take i ++ g.drop i
section
variable {f g : List (List AC)} {i : Nat}
def mk1 (f : List (List AC)) (g : List (List AC)) (i : Nat) (r : List AC) : List (List AC) := (dP1 f g i).set i r
end
section
variable {n : Nat} {L : List (Nat × AV)} {B : List (Nat × LB)} {G : List AV} {l : Nat} {e : TypeId} {sz : Nat} {f g : List (List AC)} {i c T : Nat} {r : List AC} {x : C}
end
def dC : C → AC
 | .v x => .c (.v x)
 | .sl r => .d (.sl r)
theorem pB1 (lb : Lk) (c : C) : inC lb (dC c) := by cases c <;> trivial
theorem yB1 {rows : List (List C)} (lb : Lk) : ∀ r, r ∈ (rows.map fun q => q.map dC) → ∀ a, a ∈ r → inC lb a := by
 intro r hr a ha
 obtain ⟨q, _, rfl⟩ := List.mem_map.1 hr
 obtain ⟨c, _, rfl⟩ := List.mem_map.1 ha
 exact pB1 lb c
theorem zP1 {rows : List (List C)} : ∀ r, r ∈ (rows.map fun q => q.map dC) → ∀ x, x ∈ r → isO x = true := by
 intro r hr a ha
 obtain ⟨q, _, rfl⟩ := List.mem_map.1 hr
 obtain ⟨c, _, rfl⟩ := List.mem_map.1 ha
 cases c <;> rfl
theorem zQ1 {rows : List (List C)} : (rows.map fun q => q.map dC).map (fun r => r.map toC) = rows := by
 simp only [List.map_map]
 have : ((fun r => List.map toC r) ∘ fun q => List.map dC q) = id := by
  funext q
  simp only [Function.comp, List.map_map, id]
  have : (toC ∘ dC) = id := by funext c; cases c <;> rfl
  rw [this, List.map_id]
 rw [this, List.map_id]
section
variable {α : Type} (ec : α → List C)
def zo0 (xs : List α) : List (List AC) := xs.map fun a => (ec a).map dC
theorem wr0 (xs : List α) : (zo0 ec xs).length = xs.length := by simp [zo0]
theorem jE0 (xs : List α) (i : Nat) (h : i < xs.length) : zo0 ec (xs.take (i + 1)) = zo0 ec (xs.take i) ++ [(ec xs[i]).map dC] := by
 rw [List.take_succ_eq_append_getElem h]; unfold zo0; rw [List.map_append]; rfl
theorem sK0 (xs : List α) (lb : Lk) : ∀ r, r ∈ zo0 ec xs → ∀ a, a ∈ r → inC lb a := by
 have := yB1 (rows := xs.map ec) lb
 simpa [zo0] using this
theorem lw0 (xs : List α) : ∀ r, r ∈ zo0 ec xs → ∀ a, a ∈ r → isO a = true := by
 have := zP1 (rows := xs.map ec)
 simpa [zo0] using this
theorem lx0 (xs : List α) : (zo0 ec xs).map (fun r => r.map toC) = xs.map ec := by
 have := zQ1 (rows := xs.map ec)
 simpa [zo0] using this
end
theorem mN0 {α : Type} {ec : α → List C} {xs : List α} {lb : Lk} {e : TypeId} {sz : Nat} {fz : Bool} : inB lb (.arr e sz (zo0 ec xs) fz) = True := eq_true (sK0 ec xs lb)
theorem mR0 {α : Type} {ec : α → List C} {xs : List α} : (∀ r, r ∈ zo0 ec xs → ∀ a, a ∈ r → isO a = true) = True := eq_true (lw0 ec xs)
attribute [go_sem ↓] mN0
attribute [go_sem] mR0 lx0
section
variable {n : Nat} {L : List (Nat × AV)} {B : List (Nat × LB)} {G : List AV} {l : Nat} {e : TypeId} {sz : Nat} {f g : List (List AC)} {fz : Bool} {i c T j : Nat} {r : List AC} {x : C} {xs : List (Option C)}
end
end Go.Ai
namespace Go.Ai
open Go.RowKit
variable {w : World} {F F1 : Fz} {lb : Lk} {g : Gh} {l : Nat} {e : TypeId} {sz : Nat} {rows : List (List AC)} {fz : Bool}
end Go.Ai
