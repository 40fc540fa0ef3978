/- Plain values, texts, lists of what is known: their cells, size, equality and reading. -/
import Derived.Test.YtmddjojbaompiaaGreatAiRows
set_option linter.unusedVariables false
set_option linter.unusedSimpArgs false
namespace Go.Ai
open Go.RowKit Go.ChangeShapes
def encI (n : Int) : List C := [.v (.int .i64 n)]
def encS (s : ByteArray) : List C := [.v (.string s)]
def encB (b : Bool) : List C := [.v (.bool b)]
def encL {α : Type} (ec : α → List C) (xs : List α) : List C := [.sl (xs.map ec)]
def szI (_ : Int) : Nat := 0
def szB (_ : Bool) : Nat := 0
def szS (s : ByteArray) : Nat := s.size
def szL {α : Type} (sz : α → Nat) : List α → Nat
 | [] => 0
 | a :: xs => 1 + sz a + szL sz xs
def wfI (n : Int) : Prop := (Lit.int .i64 n).wf = true
def wfS (s : ByteArray) : Prop := s.size ≤ maxLen
def wfB (_ : Bool) : Prop := True
def wfL {α : Type} (wf : α → Prop) (xs : List α) : Prop := xs.length ≤ maxLen ∧ ∀ a, a ∈ xs → wf a
def eqI (a b : Int) : Bool := a == b
def eqS (a b : ByteArray) : Bool := a.toList == b.toList
def eqB (a b : Bool) : Bool := a == b
def eqL {α : Type} (eq : α → α → Bool) : List α → List α → Bool
 | [], [] => true
 | a :: xs, b :: ys => eq a b && eqL eq xs ys
 | _, _ => false
theorem bytes_loop (bs : ByteArray) : ∀ n i r, bs.size - i = n → ByteArray.toList.loop bs i r = r.reverse ++ bs.data.toList.drop i := by
 intro n
 induction n with
 | zero =>
  intro i r h
  unfold ByteArray.toList.loop
  have hs : bs.size = bs.data.toList.length := by rw [Array.length_toList]; rfl
  rw [if_neg (by omega), List.drop_of_length_le (by omega)]
  simp
 | succ n ih =>
  intro i r h
  unfold ByteArray.toList.loop
  have hs : bs.size = bs.data.toList.length := by rw [Array.length_toList]; rfl
  rw [if_pos (by omega), ih (i + 1) _ (by omega)]
  have hi : i < bs.data.toList.length := by omega
  rw [List.drop_eq_getElem_cons hi]
  have hg : bs.get! i = bs.data.toList[i] := by
   have : i < bs.data.size := by simpa using hi
   simp only [ByteArray.get!]; rw [getElem!_pos bs.data i this]; rfl
  rw [hg]
  simp
theorem bytes_toList (bs : ByteArray) : bs.toList = bs.data.toList := by
 unfold ByteArray.toList
 rw [bytes_loop bs _ 0 [] rfl]; simp
theorem bytes_beq (a b : ByteArray) : (a == b) = (a.toList == b.toList) := by
 rw [bytes_toList, bytes_toList, Bool.eq_iff_iff]
 have e : ((a == b) = true) ↔ a = b := by
  obtain ⟨a⟩ := a
  obtain ⟨b⟩ := b
  show ((a == b) = true) ↔ _
  simp
 rw [e, beq_iff_eq]
 constructor
 ·intro h; rw [h]
 ·intro h; exact ByteArray.ext (Array.toList_inj.1 h)
attribute [go_sem] bytes_beq
theorem eqI_refl (a : Int) : eqI a a = true := by simp [eqI]
theorem eqS_refl (a : ByteArray) : eqS a a = true := by simp [eqS]
section
variable {α : Type}
theorem eqL_refl {eq : α → α → Bool} (h : ∀ a, eq a a = true) (xs : List α) : eqL eq xs xs = true := by
 induction xs with
 | nil => rfl
 | cons a xs ih => simp [eqL, h, ih]
theorem len_szL (sz : α → Nat) (xs : List α) : xs.length ≤ szL sz xs := by
 induction xs with
 | nil => simp
 | cons a xs ih => simp [szL]; omega
theorem szL_mem (sz : α → Nat) (xs : List α) : ∀ a, a ∈ xs → sz a < szL sz xs := by
 induction xs with
 | nil => intro a h; cases h
 | cons b xs ih =>
  intro a h
  simp only [szL]
  rcases List.mem_cons.1 h with rfl | h
  ·omega
  ·have := ih a h; omega
theorem szL_int (xs : List Int) : szL szI xs = xs.length := by
 induction xs with
 | nil => rfl
 | cons a xs ih => simp [szL, szI, ih]; omega
end
section
variable {H : Type} {enc : TypeId × Value → H} {P : Program} {w : World}
theorem rdL {α : Type} {ec : α → List C} {wf : α → Prop} {t e : TypeId} {sz fuel : Nat} {cs : List Value} {x : DataW H × List MemPlace} (ht : P.underlying t = some (.slice e)) (hs : P.cellsOf e = sz) (hpos : 0 < sz)
  (hel : ∀ m, m < fuel → ∀ cs x, trodA enc P w m e cs = some x → ∃ a, wf a ∧ (ec a).length = sz ∧ RdL w (ec a) cs) (h : trodA enc P w fuel t cs = some x) : ∃ as : List α, wfL wf as ∧ RdL w (encL ec as) cs := by
 obtain ⟨as, h1, h2, h3⟩ := rd_slice ht hs hpos hel h
 exact ⟨as, ⟨h2, h1⟩, h3⟩
end
end Go.Ai
