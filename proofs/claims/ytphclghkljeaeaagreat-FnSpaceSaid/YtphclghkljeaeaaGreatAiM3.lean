/- Marks: what laws.markText gives; slices of texts and numbers that are overwritten with marks, and looked at again. -/
import Derived.Test.YtphclghkljeaeaaGreatAiMarks
import Derived.Test.YtphclghkljeaeaaGreatAiD1
set_option linter.unusedVariables false
set_option linter.unusedSimpArgs false
namespace Go.Ai
open Go.Proofs
set_option maxRecDepth 100000
def tm1 (k : Int) : ByteArray := wy1 [[.c (.v (.int .u8 (IntKind.u8.wrap (48 + k.tmod 10))))]]
def cF1 : Nat → Int → ByteArray → ByteArray
 | 0, _, out => out
 | f + 1, k, out => if 0 < k then cF1 f (k.tdiv 10) (tm1 k ++ out) else out
def cG1 (k : Int) : ByteArray := if k ≤ 0 then ⟨⟨[109, 48]⟩⟩ else ⟨⟨[109]⟩⟩ ++ cF1 k.toNat k ⟨⟨[]⟩⟩
def cC1 : List ByteArray → Int → List ByteArray
 | [], _ => []
 | _ :: xs, k => cG1 k :: cC1 xs (k + 1)
def cB1 : List Int → Int → List Int
 | [], _ => []
 | _ :: xs, k => k :: cB1 xs (k + 1)
mutual
def mkC : C → Int → C × Int
 | .v (.int kd _), k => (.v (.int kd k), k + 1)
 | .v (.string _), k => (.v (.string (cG1 k)), k + 1)
 | .v x, k => (.v x, k)
 | .sl rows, k => (.sl (mkRows rows k).1, (mkRows rows k).2)
def fY0 : List C → Int → List C × Int
 | [], k => ([], k)
 | c :: cs, k => ((mkC c k).1 :: (fY0 cs (mkC c k).2).1, (fY0 cs (mkC c k).2).2)
def mkRows : List (List C) → Int → List (List C) × Int
 | [], k => ([], k)
 | r :: rs, k => ((fY0 r k).1 :: (mkRows rs (fY0 r k).2).1, (mkRows rs (fY0 r k).2).2)
end
def xD1 : List C → Int → List C × Int
 | [], k => ([], k)
 | .v x :: cs, k => (.v x :: (xD1 cs k).1, (xD1 cs k).2)
 | .sl rows :: cs, k => (.sl (mkRows rows k).1 :: (xD1 cs (mkRows rows k).2).1, (xD1 cs (mkRows rows k).2).2)
def kAt (rows : List (List C)) (k : Int) (i : Nat) : Int := (mkRows (rows.take i) k).2
mutual
def cnt : C → Nat
 | .v (.int _ _) => 1
 | .v (.string _) => 1
 | .v _ => 0
 | .sl rows => cntRows rows
def tA0 : List C → Nat
 | [] => 0
 | c :: cs => cnt c + tA0 cs
def cntRows : List (List C) → Nat
 | [] => 0
 | r :: rs => tA0 r + cntRows rs
end
def xw1 : List C → Nat
 | [] => 0
 | .v _ :: cs => xw1 cs
 | .sl rows :: cs => cntRows rows + xw1 cs
mutual
def csz : C → Nat
 | .v (.string s) => s.size
 | .v _ => 0
 | .sl rows => cszRows rows
def zg0 : List C → Nat
 | [] => 0
 | c :: cs => csz c + zg0 cs
def cszRows : List (List C) → Nat
 | [] => 0
 | r :: rs => 1 + zg0 r + cszRows rs
end
mutual
def nar : C → Prop
 | .v _ => True
 | .sl rows => narRows rows
def zw0 : List C → Prop
 | [] => True
 | c :: cs => nar c ∧ zw0 cs
def narRows : List (List C) → Prop
 | [] => True
 | r :: rs => r.length ≤ 64 ∧ zw0 r ∧ narRows rs
end
theorem rH0 {α : Type} (ec : α → List C) (f : α → Nat) (h : ∀ x, zg0 (ec x) = f x) (xs : List α) : cszRows (xs.map ec) = szL f xs := by
 induction xs with
 | nil => rfl
 | cons x xs ih => simp only [List.map_cons, cszRows, szL, ih, h]
theorem rp0 {α : Type} (ec : α → List C) (h : ∀ x, (ec x).length ≤ 64 ∧ zw0 (ec x)) (xs : List α) : narRows (xs.map ec) := by
 induction xs with
 | nil => trivial
 | cons x xs ih => exact ⟨(h x).1, (h x).2, ih⟩
theorem zl0 : ∀ (a b : List C), zg0 (a ++ b) = zg0 a + zg0 b
 | [], _ => by simp [zg0]
 | c :: a, b => by simp only [List.cons_append, zg0, zl0 a b]; omega
theorem zR0 : ∀ (a b : List C), zw0 a → zw0 b → zw0 (a ++ b)
 | [], _, _, h => h
 | c :: a, b, h, k => ⟨h.1, zR0 a b h.2 k⟩
theorem Tm.csz : ∀ t : Tm, zg0 t.enc = t.size := by
 refine Tm.ind (fun k n s ts ih => ?_)
 have : cszRows (Tm.encs ts) = Tm.sizes ts := by
  induction ts with
  | nil => rfl
  | cons a ts ih2 => simp only [Tm.encs, cszRows, Tm.sizes, ih a (by simp), ih2 (fun b hb => ih b (by simp [hb]))]
 simp [Tm.enc, Tm.size, zg0, Ai.csz, this]
theorem Tm.nar : ∀ t : Tm, zw0 t.enc := by
 refine Tm.ind (fun k n s ts ih => ?_)
 have : narRows (Tm.encs ts) := by
  induction ts with
  | nil => trivial
  | cons a ts ih2 => exact ⟨by rw [enc_len]; omega, ih a (by simp), ih2 (fun b hb => ih b (by simp [hb]))⟩
 exact ⟨trivial, trivial, trivial, this, trivial⟩
theorem tC0 (x : Int) : zg0 (encI x) = szI x := rfl
theorem lQ0 (x : ByteArray) : zg0 (encS x) = szS x := by simp [encS, szS, zg0, csz]
theorem tb0 (x : Int) : zw0 (encI x) := ⟨trivial, trivial⟩
theorem cY0 (x : ByteArray) : zw0 (encS x) := ⟨trivial, trivial⟩
theorem kf0 {α : Type} {ec : α → List C} {f : α → Nat} (h : ∀ x, zg0 (ec x) = f x) (xs : List α) : zg0 (encL ec xs) = szL f xs := by
 simp only [encL, zg0, csz, Nat.add_zero]; exact rH0 ec f h xs
theorem kq0 {α : Type} {ec : α → List C} (h : ∀ x, (ec x).length ≤ 64 ∧ zw0 (ec x)) (xs : List α) : zw0 (encL ec xs) := ⟨rp0 ec h xs, trivial⟩
end Go.Ai
namespace Go.Ai
open Go.Proofs
set_option maxRecDepth 100000
end Go.Ai
