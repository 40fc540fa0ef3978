/- Bindings. Written by mk11.py. -/
import Derived.Test.YtmddjojbaompiaaGreatAiKinds
import Derived.Test.YtmddjojbaompiaaGreatAiC1
set_option linter.unusedVariables false
set_option linter.unusedSimpArgs false
namespace Go.Ai
open Go.Proofs
set_option maxRecDepth 100000
structure GBind where
 na : ByteArray
 t : Tm
def GBind.enc (x : GBind) : List C := encS x.na ++ (Tm.enc x.t)
def GBind.size (x : GBind) : Nat := szS x.na + Tm.size x.t
def GBind.wf (x : GBind) : Prop := wfS x.na ∧ Tm.wf x.t
def GBind.eqb (x y : GBind) : Bool := eqS x.na y.na && (Tm.eqb x.t y.t)
theorem GBind.enc_len (x : GBind) : x.enc.length = 5 := by simp [GBind.enc, encI, encS, encB, encL, Go.Ai.enc_len]
theorem GBind.enc_take (x : GBind) : x.enc.take 5 = x.enc := List.take_of_length_le (by rw [GBind.enc_len]; exact Nat.le_refl _)
theorem GBind.encm_take (x : GBind) : (x.enc.map AC.c).take 5 = x.enc.map AC.c := List.take_of_length_le (by rw [List.length_map, GBind.enc_len]; exact Nat.le_refl _)
attribute [go_sem] GBind.enc_len GBind.enc_take GBind.encm_take
theorem GBind.eqb_refl (x : GBind) : x.eqb x = true := by simp only [GBind.eqb, eqS_refl x.na, Tm.eqb_refl x.t, Bool.and_self]
end Go.Ai
