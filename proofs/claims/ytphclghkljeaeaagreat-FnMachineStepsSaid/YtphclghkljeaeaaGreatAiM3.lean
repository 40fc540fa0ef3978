/- Marks: what laws.markText gives; slices of texts and numbers that are overwritten with marks, and looked at again. -/
import Derived.Test.YtphclghkljeaeaaGreatAiMarks
import Derived.Test.YtphclghkljeaeaaGreatAiD1
set_option linter.unusedVariables false
set_option linter.unusedSimpArgs false
namespace Go.Ai
open Go.Proofs
set_option maxRecDepth 100000
def rM1 (k : Int) : ByteArray := qa1 [[.c (.v (.int .u8 (IntKind.u8.wrap (48 + k.tmod 10))))]]
def pn1 : Nat → Int → ByteArray → ByteArray
 | 0, _, out => out
 | f + 1, k, out => if 0 < k then pn1 f (k.tdiv 10) (rM1 k ++ out) else out
def po1 (k : Int) : ByteArray := if k ≤ 0 then ⟨⟨[109, 48]⟩⟩ else ⟨⟨[109]⟩⟩ ++ pn1 k.toNat k ⟨⟨[]⟩⟩
def pk1 : List ByteArray → Int → List ByteArray
 | [], _ => []
 | _ :: xs, k => po1 k :: pk1 xs (k + 1)
def pj1 : List Int → Int → List Int
 | [], _ => []
 | _ :: xs, k => k :: pj1 xs (k + 1)
mutual
def mkC : C → Int → C × Int
 | .v (.int kd _), k => (.v (.int kd k), k + 1)
 | .v (.string _), k => (.v (.string (po1 k)), k + 1)
 | .v x, k => (.v x, k)
 | .sl rows, k => (.sl (mkRows rows k).1, (mkRows rows k).2)
def py0 : List C → Int → List C × Int
 | [], k => ([], k)
 | c :: cs, k => ((mkC c k).1 :: (py0 cs (mkC c k).2).1, (py0 cs (mkC c k).2).2)
def mkRows : List (List C) → Int → List (List C) × Int
 | [], k => ([], k)
 | r :: rs, k => ((py0 r k).1 :: (mkRows rs (py0 r k).2).1, (mkRows rs (py0 r k).2).2)
end
def kL1 : List C → Int → List C × Int
 | [], k => ([], k)
 | .v x :: cs, k => (.v x :: (kL1 cs k).1, (kL1 cs k).2)
 | .sl rows :: cs, k => (.sl (mkRows rows k).1 :: (kL1 cs (mkRows rows k).2).1, (kL1 cs (mkRows rows k).2).2)
def kAt (rows : List (List C)) (k : Int) (i : Nat) : Int := (mkRows (rows.take i) k).2
mutual
def cnt : C → Nat
 | .v (.int _ _) => 1
 | .v (.string _) => 1
 | .v _ => 0
 | .sl rows => cntRows rows
def rX0 : List C → Nat
 | [] => 0
 | c :: cs => cnt c + rX0 cs
def cntRows : List (List C) → Nat
 | [] => 0
 | r :: rs => rX0 r + cntRows rs
end
def vC1 : List C → Nat
 | [] => 0
 | .v _ :: cs => vC1 cs
 | .sl rows :: cs => cntRows rows + vC1 cs
mutual
def csz : C → Nat
 | .v (.string s) => s.size
 | .v _ => 0
 | .sl rows => cszRows rows
def zj0 : List C → Nat
 | [] => 0
 | c :: cs => csz c + zj0 cs
def cszRows : List (List C) → Nat
 | [] => 0
 | r :: rs => 1 + zj0 r + cszRows rs
end
mutual
def nar : C → Prop
 | .v _ => True
 | .sl rows => narRows rows
def qC0 : List C → Prop
 | [] => True
 | c :: cs => nar c ∧ qC0 cs
def narRows : List (List C) → Prop
 | [] => True
 | r :: rs => r.length ≤ 64 ∧ qC0 r ∧ narRows rs
end
theorem mk0 {α : Type} (ec : α → List C) (f : α → Nat) (h : ∀ x, zj0 (ec x) = f x) (xs : List α) : cszRows (xs.map ec) = szL f xs := by
 induction xs with
 | nil => rfl
 | cons x xs ih => simp only [List.map_cons, cszRows, szL, ih, h]
theorem nW0 {α : Type} (ec : α → List C) (h : ∀ x, (ec x).length ≤ 64 ∧ qC0 (ec x)) (xs : List α) : narRows (xs.map ec) := by
 induction xs with
 | nil => trivial
 | cons x xs ih => exact ⟨(h x).1, (h x).2, ih⟩
theorem zv0 : ∀ (a b : List C), zj0 (a ++ b) = zj0 a + zj0 b
 | [], _ => by simp [zj0]
 | c :: a, b => by simp only [List.cons_append, zj0, zv0 a b]; omega
theorem zR0 : ∀ (a b : List C), qC0 a → qC0 b → qC0 (a ++ b)
 | [], _, _, h => h
 | c :: a, b, h, k => ⟨h.1, zR0 a b h.2 k⟩
theorem Tm.csz : ∀ t : Tm, zj0 t.enc = t.size := by
 refine Tm.ind (fun k n s ts ih => ?_)
 have : cszRows (Tm.encs ts) = Tm.sizes ts := by
  induction ts with
  | nil => rfl
  | cons a ts ih2 => simp only [Tm.encs, cszRows, Tm.sizes, ih a (by simp), ih2 (fun b hb => ih b (by simp [hb]))]
 simp [Tm.enc, Tm.size, zj0, Ai.csz, this]
theorem Tm.nar : ∀ t : Tm, qC0 t.enc := by
 refine Tm.ind (fun k n s ts ih => ?_)
 have : narRows (Tm.encs ts) := by
  induction ts with
  | nil => trivial
  | cons a ts ih2 => exact ⟨by rw [enc_len]; omega, ih a (by simp), ih2 (fun b hb => ih b (by simp [hb]))⟩
 exact ⟨trivial, trivial, trivial, this, trivial⟩
theorem vD1 (x : Int) : zj0 (encI x) = szI x := rfl
theorem gG0 (x : ByteArray) : zj0 (encS x) = szS x := by simp [encS, szS, zj0, csz]
theorem vM1 (x : Int) : qC0 (encI x) := ⟨trivial, trivial⟩
theorem bj0 (x : ByteArray) : qC0 (encS x) := ⟨trivial, trivial⟩
theorem vt0 {α : Type} {ec : α → List C} {f : α → Nat} (h : ∀ x, zj0 (ec x) = f x) (xs : List α) : zj0 (encL ec xs) = szL f xs := by
 simp only [encL, zj0, csz, Nat.add_zero]; exact mk0 ec f h xs
theorem xD0 {α : Type} {ec : α → List C} (h : ∀ x, (ec x).length ≤ 64 ∧ qC0 (ec x)) (xs : List α) : qC0 (encL ec xs) := ⟨nW0 ec h xs, trivial⟩
end Go.Ai
namespace Go.Ai
open Go.Proofs
set_option maxRecDepth 100000
end Go.Ai
