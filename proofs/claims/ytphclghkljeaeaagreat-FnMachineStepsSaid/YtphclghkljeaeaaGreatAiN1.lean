/- Definitions: marks, owned copies. Written by mk7.py. -/
import Derived.Test.YtphclghkljeaeaaGreatAiD1
import Derived.Test.YtphclghkljeaeaaGreatAiM3
set_option linter.unusedVariables false
set_option linter.unusedSimpArgs false
namespace Go.Ai
open Go.Proofs Go.RowKit
set_option maxRecDepth 100000
theorem GGuard.csz (x : GGuard) : zj0 x.enc = x.size := by simp only [GGuard.enc, GGuard.size, zv0, Nat.add_assoc, Tm.csz, vD1]
theorem GGuard.nar (x : GGuard) : qC0 x.enc := (zR0 _ _ (vM1 x.kd) (zR0 _ _ (Tm.nar x.le) (Tm.nar x.ri)))
theorem GRule.csz (x : GRule) : zj0 x.enc = x.size := by simp only [GRule.enc, GRule.size, zv0, Nat.add_assoc, Tm.csz, gG0, vt0 GGuard.csz]
theorem GRule.nar (x : GRule) : qC0 x.enc := (zR0 _ _ (bj0 x.na) (zR0 _ _ (Tm.nar x.le) (zR0 _ _ (Tm.nar x.ri) (xD0 (fun y => ⟨by rw [GGuard.enc_len]; omega, GGuard.nar y⟩) x.gu))))
theorem GOp.csz (x : GOp) : zj0 x.enc = x.size := by simp only [GOp.enc, GOp.size, zv0, Nat.add_assoc, gG0, vt0 gG0]
theorem GOp.nar (x : GOp) : qC0 x.enc := (zR0 _ _ (bj0 x.na) (zR0 _ _ (xD0 (fun y => ⟨by simp [encS], bj0 y⟩) x.ar) (bj0 x.re)))
theorem GStrict.csz (x : GStrict) : zj0 x.enc = x.size := by simp only [GStrict.enc, GStrict.size, zv0, Nat.add_assoc, vD1, gG0]
theorem GStrict.nar (x : GStrict) : qC0 x.enc := (zR0 _ _ (bj0 x.op) (vM1 x.ar))
theorem GSignature.csz (x : GSignature) : zj0 x.enc = x.size := by simp only [GSignature.enc, GSignature.size, zv0, Nat.add_assoc, vt0 GOp.csz, vt0 gG0]
theorem GSignature.nar (x : GSignature) : qC0 x.enc := (zR0 _ _ (xD0 (fun y => ⟨by simp [encS], bj0 y⟩) x.so) (xD0 (fun y => ⟨by rw [GOp.enc_len]; omega, GOp.nar y⟩) x.op))
theorem GDefinition.csz (x : GDefinition) : zj0 x.enc = x.size := by simp only [GDefinition.enc, GDefinition.size, zv0, Nat.add_assoc, GSignature.csz, vt0 GRule.csz, vt0 GStrict.csz]
theorem GDefinition.nar (x : GDefinition) : qC0 x.enc := (zR0 _ _ (GSignature.nar x.si) (zR0 _ _ (xD0 (fun y => ⟨by rw [GRule.enc_len]; omega, GRule.nar y⟩) x.ru) (xD0 (fun y => ⟨by rw [GStrict.enc_len]; omega, GStrict.nar y⟩) x.st)))
end Go.Ai
