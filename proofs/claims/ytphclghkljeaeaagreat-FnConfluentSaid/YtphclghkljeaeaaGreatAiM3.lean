/- Marks: what laws.markText gives; slices of texts and numbers that are overwritten with marks, and looked at again. -/
import Derived.Test.YtphclghkljeaeaaGreatAiMarks
import Derived.Test.YtphclghkljeaeaaGreatAiD1
set_option linter.unusedVariables false
set_option linter.unusedSimpArgs false
namespace Go.Ai
open Go.Proofs
set_option maxRecDepth 100000
def tJ1 (k : Int) : ByteArray := yf1 [[.c (.v (.int .u8 (IntKind.u8.wrap (48 + k.tmod 10))))]]
def cQ1 : Nat → Int → ByteArray → ByteArray
 | 0, _, out => out
 | f + 1, k, out => if 0 < k then cQ1 f (k.tdiv 10) (tJ1 k ++ out) else out
def cR1 (k : Int) : ByteArray := if k ≤ 0 then ⟨⟨[109, 48]⟩⟩ else ⟨⟨[109]⟩⟩ ++ cQ1 k.toNat k ⟨⟨[]⟩⟩
def cN1 : List ByteArray → Int → List ByteArray
 | [], _ => []
 | _ :: xs, k => cR1 k :: cN1 xs (k + 1)
def cM1 : List Int → Int → List Int
 | [], _ => []
 | _ :: xs, k => k :: cM1 xs (k + 1)
end Go.Ai
/- Marks on data of any type: what the mark functions make of it. -/
namespace Go.Ai
open Go.Proofs
mutual
def mkC : C → Int → C × Int
 | .v (.int kd _), k => (.v (.int kd k), k + 1)
 | .v (.string _), k => (.v (.string (cR1 k)), k + 1)
 | .v x, k => (.v x, k)
 | .sl rows, k => (.sl (mkRows rows k).1, (mkRows rows k).2)
def fr0 : List C → Int → List C × Int
 | [], k => ([], k)
 | c :: cs, k => ((mkC c k).1 :: (fr0 cs (mkC c k).2).1, (fr0 cs (mkC c k).2).2)
def mkRows : List (List C) → Int → List (List C) × Int
 | [], k => ([], k)
 | r :: rs, k => ((fr0 r k).1 :: (mkRows rs (fr0 r k).2).1, (mkRows rs (fr0 r k).2).2)
end
def xY1 : List C → Int → List C × Int
 | [], k => ([], k)
 | .v x :: cs, k => (.v x :: (xY1 cs k).1, (xY1 cs k).2)
 | .sl rows :: cs, k => (.sl (mkRows rows k).1 :: (xY1 cs (mkRows rows k).2).1, (xY1 cs (mkRows rows k).2).2)
def kAt (rows : List (List C)) (k : Int) (i : Nat) : Int := (mkRows (rows.take i) k).2
mutual
def cnt : C → Nat
 | .v (.int _ _) => 1
 | .v (.string _) => 1
 | .v _ => 0
 | .sl rows => cntRows rows
def tS0 : List C → Nat
 | [] => 0
 | c :: cs => cnt c + tS0 cs
def cntRows : List (List C) → Nat
 | [] => 0
 | r :: rs => tS0 r + cntRows rs
end
def pR1 : List C → Nat
 | [] => 0
 | .v _ :: cs => pR1 cs
 | .sl rows :: cs => cntRows rows + pR1 cs
mutual
def csz : C → Nat
 | .v (.string s) => s.size
 | .v _ => 0
 | .sl rows => cszRows rows
def zm0 : List C → Nat
 | [] => 0
 | c :: cs => csz c + zm0 cs
def cszRows : List (List C) → Nat
 | [] => 0
 | r :: rs => 1 + zm0 r + cszRows rs
end
mutual
def nar : C → Prop
 | .v _ => True
 | .sl rows => narRows rows
def qA0 : List C → Prop
 | [] => True
 | c :: cs => nar c ∧ qA0 cs
def narRows : List (List C) → Prop
 | [] => True
 | r :: rs => r.length ≤ 64 ∧ qA0 r ∧ narRows rs
end
theorem rY0 {α : Type} (ec : α → List C) (f : α → Nat) (h : ∀ x, zm0 (ec x) = f x) (xs : List α) : cszRows (xs.map ec) = szL f xs := by
 induction xs with
 | nil => rfl
 | cons x xs ih => simp only [List.map_cons, cszRows, szL, ih, h]
theorem sL0 {α : Type} (ec : α → List C) (h : ∀ x, (ec x).length ≤ 64 ∧ qA0 (ec x)) (xs : List α) : narRows (xs.map ec) := by
 induction xs with
 | nil => trivial
 | cons x xs ih => exact ⟨(h x).1, (h x).2, ih⟩
theorem zr0 : ∀ (a b : List C), zm0 (a ++ b) = zm0 a + zm0 b
 | [], _ => by simp [zm0]
 | c :: a, b => by simp only [List.cons_append, zm0, zr0 a b]; omega
theorem zV0 : ∀ (a b : List C), qA0 a → qA0 b → qA0 (a ++ b)
 | [], _, _, h => h
 | c :: a, b, h, k => ⟨h.1, zV0 a b h.2 k⟩
theorem Tm.csz : ∀ t : Tm, zm0 t.enc = t.size := by
 refine Tm.ind (fun k n s ts ih => ?_)
 have : cszRows (Tm.encs ts) = Tm.sizes ts := by
  induction ts with
  | nil => rfl
  | cons a ts ih2 => simp only [Tm.encs, cszRows, Tm.sizes, ih a (by simp), ih2 (fun b hb => ih b (by simp [hb]))]
 simp [Tm.enc, Tm.size, zm0, Ai.csz, this]
theorem Tm.nar : ∀ t : Tm, qA0 t.enc := by
 refine Tm.ind (fun k n s ts ih => ?_)
 have : narRows (Tm.encs ts) := by
  induction ts with
  | nil => trivial
  | cons a ts ih2 => exact ⟨by rw [enc_len]; omega, ih a (by simp), ih2 (fun b hb => ih b (by simp [hb]))⟩
 exact ⟨trivial, trivial, trivial, this, trivial⟩
theorem tU0 (x : Int) : zm0 (encI x) = szI x := rfl
theorem ll0 (x : ByteArray) : zm0 (encS x) = szS x := by simp [encS, szS, zm0, csz]
theorem tw0 (x : Int) : qA0 (encI x) := ⟨trivial, trivial⟩
theorem cu0 (x : ByteArray) : qA0 (encS x) := ⟨trivial, trivial⟩
theorem ky0 {α : Type} {ec : α → List C} {f : α → Nat} (h : ∀ x, zm0 (ec x) = f x) (xs : List α) : zm0 (encL ec xs) = szL f xs := by
 simp only [encL, zm0, csz, Nat.add_zero]; exact rY0 ec f h xs
theorem vG0 {α : Type} {ec : α → List C} (h : ∀ x, (ec x).length ≤ 64 ∧ qA0 (ec x)) (xs : List α) : qA0 (encL ec xs) := ⟨sL0 ec h xs, trivial⟩
end Go.Ai
/- Marks on terms. -/
namespace Go.Ai
open Go.Proofs
set_option maxRecDepth 100000
end Go.Ai
/- What laws.toTerm and laws.toTermS give is owned. -/
namespace Go.Ai
open Go.Proofs
set_option maxRecDepth 100000
end Go.Ai
