/- Sorts of variables. Written by mk19.py. -/
import Derived.Test.YtmddjojbaompiaaGreatAiKinds
import Derived.Test.YtmddjojbaompiaaGreatAiC1
set_option linter.unusedVariables false
set_option linter.unusedSimpArgs false
namespace Go.Ai
open Go.Proofs
set_option maxRecDepth 100000
structure GVarSort where
 na : ByteArray
 so : ByteArray
def GVarSort.enc (x : GVarSort) : List C := encS x.na ++ (encS x.so)
def GVarSort.size (x : GVarSort) : Nat := szS x.na + szS x.so
def GVarSort.wf (x : GVarSort) : Prop := wfS x.na ∧ wfS x.so
def GVarSort.eqb (x y : GVarSort) : Bool := eqS x.na y.na && (eqS x.so y.so)
theorem GVarSort.enc_len (x : GVarSort) : x.enc.length = 2 := by simp [GVarSort.enc, encI, encS, encB, encL, Go.Ai.enc_len]
theorem GVarSort.enc_take (x : GVarSort) : x.enc.take 2 = x.enc := List.take_of_length_le (by rw [GVarSort.enc_len]; exact Nat.le_refl _)
theorem GVarSort.encm_take (x : GVarSort) : (x.enc.map AC.c).take 2 = x.enc.map AC.c := List.take_of_length_le (by rw [List.length_map, GVarSort.enc_len]; exact Nat.le_refl _)
attribute [go_sem] GVarSort.enc_len GVarSort.enc_take GVarSort.encm_take
theorem GVarSort.eqb_refl (x : GVarSort) : x.eqb x = true := by simp only [GVarSort.eqb, eqS_refl x.na, eqS_refl x.so, Bool.and_self]
end Go.Ai
