/- Marks: what laws.markText gives; slices of texts and numbers that are overwritten with marks, and looked at again. -/
import Derived.Test.YtgdmjekkdcjipaaGreatAiMarks
import Derived.Test.YtgdmjekkdcjipaaGreatAiD1
set_option linter.unusedVariables false
set_option linter.unusedSimpArgs false
namespace Go.Ai
open Go.Proofs
set_option maxRecDepth 100000
def dz1 (k : Int) : ByteArray := zA1 [[.c (.v (.int .u8 (IntKind.u8.wrap (48 + k.tmod 10))))]]
def vo1 : Nat → Int → ByteArray → ByteArray
 | 0, _, out => out
 | f + 1, k, out => if 0 < k then vo1 f (k.tdiv 10) (dz1 k ++ out) else out
def vp1 (k : Int) : ByteArray := if k ≤ 0 then ⟨⟨[109, 48]⟩⟩ else ⟨⟨[109]⟩⟩ ++ vo1 k.toNat k ⟨⟨[]⟩⟩
def vm1 : List ByteArray → Int → List ByteArray
 | [], _ => []
 | _ :: xs, k => vp1 k :: vm1 xs (k + 1)
def vl1 : List Int → Int → List Int
 | [], _ => []
 | _ :: xs, k => k :: vl1 xs (k + 1)
mutual
def mkC : C → Int → C × Int
 | .v (.int kd _), k => (.v (.int kd k), k + 1)
 | .v (.string _), k => (.v (.string (vp1 k)), k + 1)
 | .v x, k => (.v x, k)
 | .sl rows, k => (.sl (mkRows rows k).1, (mkRows rows k).2)
def pU0 : List C → Int → List C × Int
 | [], k => ([], k)
 | c :: cs, k => ((mkC c k).1 :: (pU0 cs (mkC c k).2).1, (pU0 cs (mkC c k).2).2)
def mkRows : List (List C) → Int → List (List C) × Int
 | [], k => ([], k)
 | r :: rs, k => ((pU0 r k).1 :: (mkRows rs (pU0 r k).2).1, (mkRows rs (pU0 r k).2).2)
end
def yR1 : List C → Int → List C × Int
 | [], k => ([], k)
 | .v x :: cs, k => (.v x :: (yR1 cs k).1, (yR1 cs k).2)
 | .sl rows :: cs, k => (.sl (mkRows rows k).1 :: (yR1 cs (mkRows rows k).2).1, (yR1 cs (mkRows rows k).2).2)
def kAt (rows : List (List C)) (k : Int) (i : Nat) : Int := (mkRows (rows.take i) k).2
mutual
def cnt : C → Nat
 | .v (.int _ _) => 1
 | .v (.string _) => 1
 | .v _ => 0
 | .sl rows => cntRows rows
def nQ0 : List C → Nat
 | [] => 0
 | c :: cs => cnt c + nQ0 cs
def cntRows : List (List C) → Nat
 | [] => 0
 | r :: rs => nQ0 r + cntRows rs
end
def jI1 : List C → Nat
 | [] => 0
 | .v _ :: cs => jI1 cs
 | .sl rows :: cs => cntRows rows + jI1 cs
mutual
def csz : C → Nat
 | .v (.string s) => s.size
 | .v _ => 0
 | .sl rows => cszRows rows
def xl0 : List C → Nat
 | [] => 0
 | c :: cs => csz c + xl0 cs
def cszRows : List (List C) → Nat
 | [] => 0
 | r :: rs => 1 + xl0 r + cszRows rs
end
mutual
def nar : C → Prop
 | .v _ => True
 | .sl rows => narRows rows
def cC0 : List C → Prop
 | [] => True
 | c :: cs => nar c ∧ cC0 cs
def narRows : List (List C) → Prop
 | [] => True
 | r :: rs => r.length ≤ 64 ∧ cC0 r ∧ narRows rs
end
theorem Tm.csz : ∀ t : Tm, xl0 t.enc = t.size := by
 refine Tm.ind (fun k n s ts ih => ?_)
 have : cszRows (Tm.encs ts) = Tm.sizes ts := by
  induction ts with
  | nil => rfl
  | cons a ts ih2 => simp only [Tm.encs, cszRows, Tm.sizes, ih a (by simp), ih2 (fun b hb => ih b (by simp [hb]))]
 simp [Tm.enc, Tm.size, xl0, Ai.csz, this]
theorem Tm.nar : ∀ t : Tm, cC0 t.enc := by
 refine Tm.ind (fun k n s ts ih => ?_)
 have : narRows (Tm.encs ts) := by
  induction ts with
  | nil => trivial
  | cons a ts ih2 => exact ⟨by rw [enc_len]; omega, ih a (by simp), ih2 (fun b hb => ih b (by simp [hb]))⟩
 exact ⟨trivial, trivial, trivial, this, trivial⟩
end Go.Ai
namespace Go.Ai
open Go.Proofs
set_option maxRecDepth 100000
end Go.Ai
