/- Marks: what laws.markText gives; slices of texts and numbers that are overwritten with marks, and looked at again. -/
import Derived.Test.YtmddjojbaompiaaGreatAiMarks
import Derived.Test.YtmddjojbaompiaaGreatAiD1
set_option linter.unusedVariables false
set_option linter.unusedSimpArgs false
namespace Go.Ai
open Go.Proofs
set_option maxRecDepth 100000
def mdig (k : Int) : ByteArray := bytesOf [[.c (.v (.int .u8 (IntKind.u8.wrap (48 + k.tmod 10))))]]
def mloop : Nat → Int → ByteArray → ByteArray
 | 0, _, out => out
 | f + 1, k, out => if 0 < k then mloop f (k.tdiv 10) (mdig k ++ out) else out
def mtext (k : Int) : ByteArray := if k ≤ 0 then ⟨⟨[109, 48]⟩⟩ else ⟨⟨[109]⟩⟩ ++ mloop k.toNat k ⟨⟨[]⟩⟩
def marksS : List ByteArray → Int → List ByteArray
 | [], _ => []
 | _ :: xs, k => mtext k :: marksS xs (k + 1)
def marksI : List Int → Int → List Int
 | [], _ => []
 | _ :: xs, k => k :: marksI xs (k + 1)
end Go.Ai
/- Marks on data of any type: what the mark functions make of it. -/
namespace Go.Ai
open Go.Proofs
mutual
def mkC : C → Int → C × Int
 | .v (.int kd _), k => (.v (.int kd k), k + 1)
 | .v (.string _), k => (.v (.string (mtext k)), k + 1)
 | .v x, k => (.v x, k)
 | .sl rows, k => (.sl (mkRows rows k).1, (mkRows rows k).2)
def mkCells : List C → Int → List C × Int
 | [], k => ([], k)
 | c :: cs, k => ((mkC c k).1 :: (mkCells cs (mkC c k).2).1, (mkCells cs (mkC c k).2).2)
def mkRows : List (List C) → Int → List (List C) × Int
 | [], k => ([], k)
 | r :: rs, k => ((mkCells r k).1 :: (mkRows rs (mkCells r k).2).1, (mkRows rs (mkCells r k).2).2)
end
def mkTop : List C → Int → List C × Int
 | [], k => ([], k)
 | .v x :: cs, k => (.v x :: (mkTop cs k).1, (mkTop cs k).2)
 | .sl rows :: cs, k => (.sl (mkRows rows k).1 :: (mkTop cs (mkRows rows k).2).1, (mkTop cs (mkRows rows k).2).2)
def kAt (rows : List (List C)) (k : Int) (i : Nat) : Int := (mkRows (rows.take i) k).2
mutual
def cnt : C → Nat
 | .v (.int _ _) => 1
 | .v (.string _) => 1
 | .v _ => 0
 | .sl rows => cntRows rows
def cntCells : List C → Nat
 | [] => 0
 | c :: cs => cnt c + cntCells cs
def cntRows : List (List C) → Nat
 | [] => 0
 | r :: rs => cntCells r + cntRows rs
end
def cntTop : List C → Nat
 | [] => 0
 | .v _ :: cs => cntTop cs
 | .sl rows :: cs => cntRows rows + cntTop cs
mutual
def csz : C → Nat
 | .v (.string s) => s.size
 | .v _ => 0
 | .sl rows => cszRows rows
def cszCells : List C → Nat
 | [] => 0
 | c :: cs => csz c + cszCells cs
def cszRows : List (List C) → Nat
 | [] => 0
 | r :: rs => 1 + cszCells r + cszRows rs
end
mutual
def nar : C → Prop
 | .v _ => True
 | .sl rows => narRows rows
def narCells : List C → Prop
 | [] => True
 | c :: cs => nar c ∧ narCells cs
def narRows : List (List C) → Prop
 | [] => True
 | r :: rs => r.length ≤ 64 ∧ narCells r ∧ narRows rs
end
theorem cszRows_map {α : Type} (ec : α → List C) (f : α → Nat) (h : ∀ x, cszCells (ec x) = f x) (xs : List α) : cszRows (xs.map ec) = szL f xs := by
 induction xs with
 | nil => rfl
 | cons x xs ih => simp only [List.map_cons, cszRows, szL, ih, h]
theorem narRows_map {α : Type} (ec : α → List C) (h : ∀ x, (ec x).length ≤ 64 ∧ narCells (ec x)) (xs : List α) : narRows (xs.map ec) := by
 induction xs with
 | nil => trivial
 | cons x xs ih => exact ⟨(h x).1, (h x).2, ih⟩
theorem cszCells_append : ∀ (a b : List C), cszCells (a ++ b) = cszCells a + cszCells b
 | [], _ => by simp [cszCells]
 | c :: a, b => by simp only [List.cons_append, cszCells, cszCells_append a b]; omega
theorem narCells_append : ∀ (a b : List C), narCells a → narCells b → narCells (a ++ b)
 | [], _, _, h => h
 | c :: a, b, h, k => ⟨h.1, narCells_append a b h.2 k⟩
theorem Tm.csz : ∀ t : Tm, cszCells t.enc = t.size := by
 refine Tm.ind (fun k n s ts ih => ?_)
 have : cszRows (Tm.encs ts) = Tm.sizes ts := by
  induction ts with
  | nil => rfl
  | cons a ts ih2 => simp only [Tm.encs, cszRows, Tm.sizes, ih a (by simp), ih2 (fun b hb => ih b (by simp [hb]))]
 simp [Tm.enc, Tm.size, cszCells, Ai.csz, this]
theorem Tm.nar : ∀ t : Tm, narCells t.enc := by
 refine Tm.ind (fun k n s ts ih => ?_)
 have : narRows (Tm.encs ts) := by
  induction ts with
  | nil => trivial
  | cons a ts ih2 => exact ⟨by rw [enc_len]; omega, ih a (by simp), ih2 (fun b hb => ih b (by simp [hb]))⟩
 exact ⟨trivial, trivial, trivial, this, trivial⟩
theorem cszE_I (x : Int) : cszCells (encI x) = szI x := rfl
theorem cszE_S (x : ByteArray) : cszCells (encS x) = szS x := by simp [encS, szS, cszCells, csz]
theorem narE_I (x : Int) : narCells (encI x) := ⟨trivial, trivial⟩
theorem narE_S (x : ByteArray) : narCells (encS x) := ⟨trivial, trivial⟩
theorem cszL_of {α : Type} {ec : α → List C} {f : α → Nat} (h : ∀ x, cszCells (ec x) = f x) (xs : List α) : cszCells (encL ec xs) = szL f xs := by
 simp only [encL, cszCells, csz, Nat.add_zero]; exact cszRows_map ec f h xs
theorem narL_of {α : Type} {ec : α → List C} (h : ∀ x, (ec x).length ≤ 64 ∧ narCells (ec x)) (xs : List α) : narCells (encL ec xs) := ⟨narRows_map ec h xs, trivial⟩
end Go.Ai
/- Marks on terms. -/
namespace Go.Ai
open Go.Proofs
set_option maxRecDepth 100000
end Go.Ai
/- What laws.toTerm and laws.toTermS give is owned. -/
namespace Go.Ai
open Go.Proofs
set_option maxRecDepth 100000
end Go.Ai
