/- Definitions: marks, owned copies. Written by mk7.py. -/
import Derived.Test.YtphclghkljeaeaaGreatAiD1
import Derived.Test.YtphclghkljeaeaaGreatAiM3
set_option linter.unusedVariables false
set_option linter.unusedSimpArgs false
namespace Go.Ai
open Go.Proofs Go.RowKit
set_option maxRecDepth 100000
theorem GGuard.csz (x : GGuard) : zi0 x.enc = x.size := by simp only [GGuard.enc, GGuard.size, zn0, Nat.add_assoc, Tm.csz, sn0]
theorem GGuard.nar (x : GGuard) : zx0 x.enc := (zR0 _ _ (tR0 x.kd) (zR0 _ _ (Tm.nar x.le) (Tm.nar x.ri)))
theorem GRule.csz (x : GRule) : zi0 x.enc = x.size := by simp only [GRule.enc, GRule.size, zn0, Nat.add_assoc, Tm.csz, lD0, ky0 GGuard.csz]
theorem GRule.nar (x : GRule) : zx0 x.enc := (zR0 _ _ (cP0 x.na) (zR0 _ _ (Tm.nar x.le) (zR0 _ _ (Tm.nar x.ri) (vH0 (fun y => ⟨by rw [GGuard.enc_len]; omega, GGuard.nar y⟩) x.gu))))
theorem GOp.csz (x : GOp) : zi0 x.enc = x.size := by simp only [GOp.enc, GOp.size, zn0, Nat.add_assoc, lD0, ky0 lD0]
theorem GOp.nar (x : GOp) : zx0 x.enc := (zR0 _ _ (cP0 x.na) (zR0 _ _ (vH0 (fun y => ⟨by simp [encS], cP0 y⟩) x.ar) (cP0 x.re)))
theorem GStrict.csz (x : GStrict) : zi0 x.enc = x.size := by simp only [GStrict.enc, GStrict.size, zn0, Nat.add_assoc, sn0, lD0]
theorem GStrict.nar (x : GStrict) : zx0 x.enc := (zR0 _ _ (cP0 x.op) (tR0 x.ar))
theorem GSignature.csz (x : GSignature) : zi0 x.enc = x.size := by simp only [GSignature.enc, GSignature.size, zn0, Nat.add_assoc, ky0 GOp.csz, ky0 lD0]
theorem GSignature.nar (x : GSignature) : zx0 x.enc := (zR0 _ _ (vH0 (fun y => ⟨by simp [encS], cP0 y⟩) x.so) (vH0 (fun y => ⟨by rw [GOp.enc_len]; omega, GOp.nar y⟩) x.op))
theorem GDefinition.csz (x : GDefinition) : zi0 x.enc = x.size := by simp only [GDefinition.enc, GDefinition.size, zn0, Nat.add_assoc, GSignature.csz, ky0 GRule.csz, ky0 GStrict.csz]
theorem GDefinition.nar (x : GDefinition) : zx0 x.enc := (zR0 _ _ (GSignature.nar x.si) (zR0 _ _ (vH0 (fun y => ⟨by rw [GRule.enc_len]; omega, GRule.nar y⟩) x.ru) (vH0 (fun y => ⟨by rw [GStrict.enc_len]; omega, GStrict.nar y⟩) x.st)))
end Go.Ai
