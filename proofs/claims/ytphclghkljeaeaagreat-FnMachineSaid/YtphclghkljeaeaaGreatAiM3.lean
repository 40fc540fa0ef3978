/- Marks: what laws.markText gives; slices of texts and numbers that are overwritten with marks, and looked at again. -/
import Derived.Test.YtphclghkljeaeaaGreatAiMarks
import Derived.Test.YtphclghkljeaeaaGreatAiD1
set_option linter.unusedVariables false
set_option linter.unusedSimpArgs false
namespace Go.Ai
open Go.Proofs
set_option maxRecDepth 100000
def tf1 (k : Int) : ByteArray := wy1 [[.c (.v (.int .u8 (IntKind.u8.wrap (48 + k.tmod 10))))]]
def br1 : Nat → Int → ByteArray → ByteArray
 | 0, _, out => out
 | f + 1, k, out => if 0 < k then br1 f (k.tdiv 10) (tf1 k ++ out) else out
def bs1 (k : Int) : ByteArray := if k ≤ 0 then ⟨⟨[109, 48]⟩⟩ else ⟨⟨[109]⟩⟩ ++ br1 k.toNat k ⟨⟨[]⟩⟩
def bo1 : List ByteArray → Int → List ByteArray
 | [], _ => []
 | _ :: xs, k => bs1 k :: bo1 xs (k + 1)
def bn1 : List Int → Int → List Int
 | [], _ => []
 | _ :: xs, k => k :: bn1 xs (k + 1)
mutual
def mkC : C → Int → C × Int
 | .v (.int kd _), k => (.v (.int kd k), k + 1)
 | .v (.string _), k => (.v (.string (bs1 k)), k + 1)
 | .v x, k => (.v x, k)
 | .sl rows, k => (.sl (mkRows rows k).1, (mkRows rows k).2)
def fZ0 : List C → Int → List C × Int
 | [], k => ([], k)
 | c :: cs, k => ((mkC c k).1 :: (fZ0 cs (mkC c k).2).1, (fZ0 cs (mkC c k).2).2)
def mkRows : List (List C) → Int → List (List C) × Int
 | [], k => ([], k)
 | r :: rs, k => ((fZ0 r k).1 :: (mkRows rs (fZ0 r k).2).1, (mkRows rs (fZ0 r k).2).2)
end
def vu1 : List C → Int → List C × Int
 | [], k => ([], k)
 | .v x :: cs, k => (.v x :: (vu1 cs k).1, (vu1 cs k).2)
 | .sl rows :: cs, k => (.sl (mkRows rows k).1 :: (vu1 cs (mkRows rows k).2).1, (vu1 cs (mkRows rows k).2).2)
def kAt (rows : List (List C)) (k : Int) (i : Nat) : Int := (mkRows (rows.take i) k).2
mutual
def cnt : C → Nat
 | .v (.int _ _) => 1
 | .v (.string _) => 1
 | .v _ => 0
 | .sl rows => cntRows rows
def sj0 : List C → Nat
 | [] => 0
 | c :: cs => cnt c + sj0 cs
def cntRows : List (List C) → Nat
 | [] => 0
 | r :: rs => sj0 r + cntRows rs
end
def xm1 : List C → Nat
 | [] => 0
 | .v _ :: cs => xm1 cs
 | .sl rows :: cs => cntRows rows + xm1 cs
mutual
def csz : C → Nat
 | .v (.string s) => s.size
 | .v _ => 0
 | .sl rows => cszRows rows
def zi0 : List C → Nat
 | [] => 0
 | c :: cs => csz c + zi0 cs
def cszRows : List (List C) → Nat
 | [] => 0
 | r :: rs => 1 + zi0 r + cszRows rs
end
mutual
def nar : C → Prop
 | .v _ => True
 | .sl rows => narRows rows
def zx0 : List C → Prop
 | [] => True
 | c :: cs => nar c ∧ zx0 cs
def narRows : List (List C) → Prop
 | [] => True
 | r :: rs => r.length ≤ 64 ∧ zx0 r ∧ narRows rs
end
theorem nq0 {α : Type} (ec : α → List C) (f : α → Nat) (h : ∀ x, zi0 (ec x) = f x) (xs : List α) : cszRows (xs.map ec) = szL f xs := by
 induction xs with
 | nil => rfl
 | cons x xs ih => simp only [List.map_cons, cszRows, szL, ih, h]
theorem ra0 {α : Type} (ec : α → List C) (h : ∀ x, (ec x).length ≤ 64 ∧ zx0 (ec x)) (xs : List α) : narRows (xs.map ec) := by
 induction xs with
 | nil => trivial
 | cons x xs ih => exact ⟨(h x).1, (h x).2, ih⟩
theorem zn0 : ∀ (a b : List C), zi0 (a ++ b) = zi0 a + zi0 b
 | [], _ => by simp [zi0]
 | c :: a, b => by simp only [List.cons_append, zi0, zn0 a b]; omega
theorem zR0 : ∀ (a b : List C), zx0 a → zx0 b → zx0 (a ++ b)
 | [], _, _, h => h
 | c :: a, b, h, k => ⟨h.1, zR0 a b h.2 k⟩
theorem Tm.csz : ∀ t : Tm, zi0 t.enc = t.size := by
 refine Tm.ind (fun k n s ts ih => ?_)
 have : cszRows (Tm.encs ts) = Tm.sizes ts := by
  induction ts with
  | nil => rfl
  | cons a ts ih2 => simp only [Tm.encs, cszRows, Tm.sizes, ih a (by simp), ih2 (fun b hb => ih b (by simp [hb]))]
 simp [Tm.enc, Tm.size, zi0, Ai.csz, this]
theorem Tm.nar : ∀ t : Tm, zx0 t.enc := by
 refine Tm.ind (fun k n s ts ih => ?_)
 have : narRows (Tm.encs ts) := by
  induction ts with
  | nil => trivial
  | cons a ts ih2 => exact ⟨by rw [enc_len]; omega, ih a (by simp), ih2 (fun b hb => ih b (by simp [hb]))⟩
 exact ⟨trivial, trivial, trivial, this, trivial⟩
theorem sn0 (x : Int) : zi0 (encI x) = szI x := rfl
theorem lD0 (x : ByteArray) : zi0 (encS x) = szS x := by simp [encS, szS, zi0, csz]
theorem tR0 (x : Int) : zx0 (encI x) := ⟨trivial, trivial⟩
theorem cP0 (x : ByteArray) : zx0 (encS x) := ⟨trivial, trivial⟩
theorem ky0 {α : Type} {ec : α → List C} {f : α → Nat} (h : ∀ x, zi0 (ec x) = f x) (xs : List α) : zi0 (encL ec xs) = szL f xs := by
 simp only [encL, zi0, csz, Nat.add_zero]; exact nq0 ec f h xs
theorem vH0 {α : Type} {ec : α → List C} (h : ∀ x, (ec x).length ≤ 64 ∧ zx0 (ec x)) (xs : List α) : zx0 (encL ec xs) := ⟨ra0 ec h xs, trivial⟩
end Go.Ai
namespace Go.Ai
open Go.Proofs
set_option maxRecDepth 100000
end Go.Ai
