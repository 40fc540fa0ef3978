/- Plain values, texts, lists of what is known: their cells, size, equality and reading. -/
import Derived.Test.YtphclghkljeaeaaGreatAiRows
import Derived.Test.YtphclghkljeaeaaGreatAiRow2
set_option linter.unusedVariables false
set_option linter.unusedSimpArgs false
namespace Go.Ai
open Go.RowKit Go.ChangeShapes
def encI (n : Int) : List C := [.v (.int .i64 n)]
def encS (s : ByteArray) : List C := [.v (.string s)]
def jI1 (b : Bool) : List C := [.v (.bool b)]
def encL {α : Type} (ec : α → List C) (xs : List α) : List C := [.sl (xs.map ec)]
def szI (_ : Int) : Nat := 0
def szB (_ : Bool) : Nat := 0
def szS (s : ByteArray) : Nat := s.size
def szL {α : Type} (sz : α → Nat) : List α → Nat
 | [] => 0
 | a :: xs => 1 + sz a + szL sz xs
def wfI (n : Int) : Prop := (Lit.int .i64 n).wf = true
def wfS (s : ByteArray) : Prop := s.size ≤ maxLen
def wfB (_ : Bool) : Prop := True
def wfL {α : Type} (wf : α → Prop) (xs : List α) : Prop := xs.length ≤ maxLen ∧ ∀ a, a ∈ xs → wf a
def eqI (a b : Int) : Bool := a == b
def eqS (a b : ByteArray) : Bool := a.toList == b.toList
def eqB (a b : Bool) : Bool := a == b
def eqL {α : Type} (eq : α → α → Bool) : List α → List α → Bool
 | [], [] => true
 | a :: xs, b :: ys => eq a b && eqL eq xs ys
 | _, _ => false
theorem sw0 (bs : ByteArray) : ∀ n i r, bs.size - i = n → ByteArray.toList.loop bs i r = r.reverse ++ bs.data.toList.drop i := by
 intro n
 induction n with
 | zero =>
  intro i r h
  unfold ByteArray.toList.loop
  have hs : bs.size = bs.data.toList.length := by rw [Array.length_toList]; rfl
  rw [if_neg (by omega), List.drop_of_length_le (by omega)]
  simp
 | succ n ih =>
  intro i r h
  unfold ByteArray.toList.loop
  have hs : bs.size = bs.data.toList.length := by rw [Array.length_toList]; rfl
  rw [if_pos (by omega), ih (i + 1) _ (by omega)]
  have hi : i < bs.data.toList.length := by omega
  rw [List.drop_eq_getElem_cons hi]
  have hg : bs.get! i = bs.data.toList[i] := by
   have : i < bs.data.size := by simpa using hi
   simp only [ByteArray.get!]; rw [getElem!_pos bs.data i this]; rfl
  rw [hg]
  simp
theorem qZ0 (bs : ByteArray) : bs.toList = bs.data.toList := by
 unfold ByteArray.toList
 rw [sw0 bs _ 0 [] rfl]; simp
theorem qb1 (a b : ByteArray) : (a == b) = (a.toList == b.toList) := by
 rw [qZ0, qZ0, Bool.eq_iff_iff]
 have e : ((a == b) = true) ↔ a = b := by
  obtain ⟨a⟩ := a
  obtain ⟨b⟩ := b
  show ((a == b) = true) ↔ _
  simp
 rw [e, beq_iff_eq]
 constructor
 ·intro h; rw [h]
 ·intro h; exact ByteArray.ext (Array.toList_inj.1 h)
attribute [go_sem] qb1
theorem cY0 (a : Int) : eqI a a = true := by simp [eqI]
theorem vR0 (a : ByteArray) : eqS a a = true := by simp [eqS]
section
variable {α : Type}
theorem jy1 {eq : α → α → Bool} (h : ∀ a, eq a a = true) (xs : List α) : eqL eq xs xs = true := by
 induction xs with
 | nil => rfl
 | cons a xs ih => simp [eqL, h, ih]
theorem qv1 (eq : α → α → Bool) : ∀ (xs ys : List α), xs.length ≠ ys.length → eqL eq xs ys = false
 | [], [], h => by simp at h
 | [], _ :: _, _ => rfl
 | _ :: _, [], _ => rfl
 | a :: xs, b :: ys, h => by simp [eqL, qv1 eq xs ys (by simpa using h)]
theorem jx1 (eq : α → α → Bool) (xs ys : List α) (i : Nat) (h : i < xs.length) (h' : i < ys.length) : eqL eq (xs.drop i) (ys.drop i) = (eq xs[i] ys[i] && eqL eq (xs.drop (i + 1)) (ys.drop (i + 1))) := by
 rw [List.drop_eq_getElem_cons h, List.drop_eq_getElem_cons h']; simp only [eqL]
theorem zz0 (sz : α → Nat) (xs : List α) : xs.length ≤ szL sz xs := by
 induction xs with
 | nil => simp
 | cons a xs ih => simp [szL]; omega
theorem yz0 (sz : α → Nat) (xs : List α) : ∀ a, a ∈ xs → sz a < szL sz xs := by
 induction xs with
 | nil => intro a h; cases h
 | cons b xs ih =>
  intro a h
  simp only [szL]
  rcases List.mem_cons.1 h with rfl | h
  ·omega
  ·have := ih a h; omega
end
section
variable {H : Type} {enc : TypeId × Value → H} {P : Program} {w : World}
theorem rdL {α : Type} {ec : α → List C} {wf : α → Prop} {t e : TypeId} {sz fuel : Nat} {cs : List Value} {x : DataW H × List MemPlace} (ht : P.underlying t = some (.slice e)) (hs : P.cellsOf e = sz) (hpos : 0 < sz)
  (hel : ∀ m, m < fuel → ∀ cs x, dX0 enc P w m e cs = some x → ∃ a, wf a ∧ (ec a).length = sz ∧ RdL w (ec a) cs) (h : dX0 enc P w fuel t cs = some x) : ∃ as : List α, wfL wf as ∧ RdL w (encL ec as) cs := by
 obtain ⟨as, h1, h2, h3⟩ := kQ1 ht hs hpos hel h
 exact ⟨as, ⟨h2, h1⟩, h3⟩
end
end Go.Ai
namespace Go.Ai
open Go.RowKit
def nF1 (f : List (List AC)) (g : List (List AC)) (i : Nat) : List (List AC) := f.take i ++ g.drop i
section
variable {f g : List (List AC)} {i : Nat}
def sw1 (f : List (List AC)) (g : List (List AC)) (i : Nat) (r : List AC) : List (List AC) := (nF1 f g i).set i r
end
section
variable {n : Nat} {L : List (Nat × AV)} {B : List (Nat × LB)} {G : List AV} {l : Nat} {e : TypeId} {sz : Nat} {f g : List (List AC)} {i c T : Nat} {r : List AC} {x : C}
end
def dC : C → AC
 | .v x => .c (.v x)
 | .sl r => .d (.sl r)
theorem bV1 (lb : Lk) (c : C) : inC lb (dC c) := by cases c <;> trivial
theorem ju1 {rows : List (List C)} (lb : Lk) : ∀ r, r ∈ (rows.map fun q => q.map dC) → ∀ a, a ∈ r → inC lb a := by
 intro r hr a ha
 obtain ⟨q, _, rfl⟩ := List.mem_map.1 hr
 obtain ⟨c, _, rfl⟩ := List.mem_map.1 ha
 exact bV1 lb c
theorem qq1 {rows : List (List C)} : ∀ r, r ∈ (rows.map fun q => q.map dC) → ∀ x, x ∈ r → isO x = true := by
 intro r hr a ha
 obtain ⟨q, _, rfl⟩ := List.mem_map.1 hr
 obtain ⟨c, _, rfl⟩ := List.mem_map.1 ha
 cases c <;> rfl
theorem qr1 {rows : List (List C)} : (rows.map fun q => q.map dC).map (fun r => r.map toC) = rows := by
 simp only [List.map_map]
 have : ((fun r => List.map toC r) ∘ fun q => List.map dC q) = id := by
  funext q
  simp only [Function.comp, List.map_map, id]
  have : (toC ∘ dC) = id := by funext c; cases c <;> rfl
  rw [this, List.map_id]
 rw [this, List.map_id]
section
variable {α : Type} (ec : α → List C)
def zV0 (xs : List α) : List (List AC) := xs.map fun a => (ec a).map dC
theorem drowsOf_len (xs : List α) : (zV0 ec xs).length = xs.length := by simp [zV0]
theorem wG0 (xs : List α) (i : Nat) (h : i < xs.length) : zV0 ec (xs.take (i + 1)) = zV0 ec (xs.take i) ++ [(ec xs[i]).map dC] := by
 rw [List.take_succ_eq_append_getElem h]; unfold zV0; rw [List.map_append]; rfl
theorem tQ0 (xs : List α) (lb : Lk) : ∀ r, r ∈ zV0 ec xs → ∀ a, a ∈ r → inC lb a := by
 have := ju1 (rows := xs.map ec) lb
 simpa [zV0] using this
theorem mm0 (xs : List α) : ∀ r, r ∈ zV0 ec xs → ∀ a, a ∈ r → isO a = true := by
 have := qq1 (rows := xs.map ec)
 simpa [zV0] using this
theorem mn0 (xs : List α) : (zV0 ec xs).map (fun r => r.map toC) = xs.map ec := by
 have := qr1 (rows := xs.map ec)
 simpa [zV0] using this
end
theorem nG0 {α : Type} {ec : α → List C} {xs : List α} {lb : Lk} {e : TypeId} {sz : Nat} {fz : Bool} : inB lb (.arr e sz (zV0 ec xs) fz) = True := eq_true (tQ0 ec xs lb)
theorem nK0 {α : Type} {ec : α → List C} {xs : List α} : (∀ r, r ∈ zV0 ec xs → ∀ a, a ∈ r → isO a = true) = True := eq_true (mm0 ec xs)
attribute [go_sem ↓] nG0
attribute [go_sem] nK0 mn0
section
variable {n : Nat} {L : List (Nat × AV)} {B : List (Nat × LB)} {G : List AV} {l : Nat} {e : TypeId} {sz : Nat} {f g : List (List AC)} {fz : Bool} {i c T j : Nat} {r : List AC} {x : C} {xs : List (Option C)}
end
theorem kJ0 (n : Int) (h : -4611686018427387904 ≤ n) (h' : n ≤ 4611686018427387904) : wfI n := by
 have h1 : IntKind.i64.min = -9223372036854775808 := rfl
 have h2 : IntKind.i64.max = 9223372036854775807 := rfl
 simp only [wfI, Lit.wf, h1, h2, Bool.and_eq_true, decide_eq_true_eq]
 omega
end Go.Ai
namespace Go.Ai
open Go.RowKit
variable {w : World} {F F1 : Fz} {lb : Lk} {g : Gh} {l : Nat} {e : TypeId} {sz : Nat} {rows : List (List AC)} {fz : Bool}
theorem kc1 {rows' : List (List C)} (hrows : rows.map (fun r => r.map unN) = rows'.map (fun r => r.map .c)) (h : RepLB w F lb g l (.arr e sz rows fz)) (up : ∀ b o, F b o → F1 b o)
  (hF : ∀ b o, b ∈ blkOf (g.hd l) → o < rows.length * sz → F1 b o) : Rd w F1 (.sl rows') (g.hd l) := by
 obtain ⟨hsz, hrl, xs, S, hown, hcells, _⟩ := h
 have hlr : rows'.length = rows.length := by have := congrArg List.length hrows; rw [List.length_map, List.length_map] at this; exact this.symm
 have hl' : ∀ r, r ∈ rows' → r.length = sz := by
  intro r hr
  have : r.map AC.c ∈ rows.map (fun r => r.map unN) := by rw [hrows]; exact List.mem_map.2 ⟨r, hr, rfl⟩
  obtain ⟨q, hq1, hq2⟩ := List.mem_map.1 this
  have := congrArg List.length hq2
  rw [List.length_map, List.length_map] at this
  rw [← this]; exact hrl q hq1
 have hun := RepACs.mono (w' := w) ⟨up, fun _ _ _ => rfl⟩ (Keeps.refl lb g) _ _ (RepCells.unN hcells)
 rw [← yX0, hrows] at hun
 simp only [Rd]
 rcases hown.2 with ⟨k1, k2⟩ | ⟨gg, cap, cur, k1, _, hh, hle, hcm, _, _⟩
 ·refine ⟨none, 0, 1, by rw [k1, hlr, k2], by omega, Nat.zero_le _, Nat.one_pos, fun _ => rfl, fun a ha => by cases ha⟩
 ·refine ⟨some ⟨gg, 0, none⟩, cap, sz, by rw [k1, hlr], by omega, hcm, hsz, fun h => (by cases h), fun a ha => ?_⟩
  obtain rfl := Option.some.inj ha
  refine ⟨fun _ => rfl, dG0 rows' xs 0 hl' hun (fun j hj => ?_) (fun j u hj => ?_)⟩
  ·rw [Nat.zero_add]
   exact nw1
  ·have := hown.cells (g := gg) (by rw [k1]; rfl) j u hj
   rwa [wR0] at this
end Go.Ai
