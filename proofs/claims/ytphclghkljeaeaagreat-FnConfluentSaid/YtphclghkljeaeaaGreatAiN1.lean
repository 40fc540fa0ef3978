/- Definitions: marks, owned copies. Written by mk7.py. -/
import Derived.Test.YtphclghkljeaeaaGreatAiD1
import Derived.Test.YtphclghkljeaeaaGreatAiM3
set_option linter.unusedVariables false
set_option linter.unusedSimpArgs false
namespace Go.Ai
open Go.Proofs Go.RowKit
set_option maxRecDepth 100000
theorem GGuard.csz (x : GGuard) : zm0 x.enc = x.size := by simp only [GGuard.enc, GGuard.size, zr0, Nat.add_assoc, Tm.csz, tU0]
theorem GGuard.nar (x : GGuard) : qA0 x.enc := (zV0 _ _ (tw0 x.kd) (zV0 _ _ (Tm.nar x.le) (Tm.nar x.ri)))
theorem GRule.csz (x : GRule) : zm0 x.enc = x.size := by simp only [GRule.enc, GRule.size, zr0, Nat.add_assoc, Tm.csz, ll0, ky0 GGuard.csz]
theorem GRule.nar (x : GRule) : qA0 x.enc := (zV0 _ _ (cu0 x.na) (zV0 _ _ (Tm.nar x.le) (zV0 _ _ (Tm.nar x.ri) (vG0 (fun y => ⟨by rw [GGuard.enc_len]; omega, GGuard.nar y⟩) x.gu))))
theorem GOp.csz (x : GOp) : zm0 x.enc = x.size := by simp only [GOp.enc, GOp.size, zr0, Nat.add_assoc, ll0, ky0 ll0]
theorem GOp.nar (x : GOp) : qA0 x.enc := (zV0 _ _ (cu0 x.na) (zV0 _ _ (vG0 (fun y => ⟨by simp [encS], cu0 y⟩) x.ar) (cu0 x.re)))
theorem GStrict.csz (x : GStrict) : zm0 x.enc = x.size := by simp only [GStrict.enc, GStrict.size, zr0, Nat.add_assoc, tU0, ll0]
theorem GStrict.nar (x : GStrict) : qA0 x.enc := (zV0 _ _ (cu0 x.op) (tw0 x.ar))
theorem GSignature.csz (x : GSignature) : zm0 x.enc = x.size := by simp only [GSignature.enc, GSignature.size, zr0, Nat.add_assoc, ky0 GOp.csz, ky0 ll0]
theorem GSignature.nar (x : GSignature) : qA0 x.enc := (zV0 _ _ (vG0 (fun y => ⟨by simp [encS], cu0 y⟩) x.so) (vG0 (fun y => ⟨by rw [GOp.enc_len]; omega, GOp.nar y⟩) x.op))
theorem GDefinition.csz (x : GDefinition) : zm0 x.enc = x.size := by simp only [GDefinition.enc, GDefinition.size, zr0, Nat.add_assoc, GSignature.csz, ky0 GRule.csz, ky0 GStrict.csz]
theorem GDefinition.nar (x : GDefinition) : qA0 x.enc := (zV0 _ _ (GSignature.nar x.si) (zV0 _ _ (vG0 (fun y => ⟨by rw [GRule.enc_len]; omega, GRule.nar y⟩) x.ru) (vG0 (fun y => ⟨by rw [GStrict.enc_len]; omega, GStrict.nar y⟩) x.st)))
end Go.Ai
