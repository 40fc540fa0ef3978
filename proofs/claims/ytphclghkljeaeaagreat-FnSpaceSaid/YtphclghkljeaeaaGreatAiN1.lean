/- Definitions: marks, owned copies. Written by mk7.py. -/
import Derived.Test.YtphclghkljeaeaaGreatAiD1
import Derived.Test.YtphclghkljeaeaaGreatAiM3
set_option linter.unusedVariables false
set_option linter.unusedSimpArgs false
namespace Go.Ai
open Go.Proofs Go.RowKit
set_option maxRecDepth 100000
theorem GGuard.csz (x : GGuard) : zg0 x.enc = x.size := by simp only [GGuard.enc, GGuard.size, zl0, Nat.add_assoc, Tm.csz, tC0]
theorem GGuard.nar (x : GGuard) : zw0 x.enc := (zR0 _ _ (tb0 x.kd) (zR0 _ _ (Tm.nar x.le) (Tm.nar x.ri)))
theorem GRule.csz (x : GRule) : zg0 x.enc = x.size := by simp only [GRule.enc, GRule.size, zl0, Nat.add_assoc, Tm.csz, lQ0, kf0 GGuard.csz]
theorem GRule.nar (x : GRule) : zw0 x.enc := (zR0 _ _ (cY0 x.na) (zR0 _ _ (Tm.nar x.le) (zR0 _ _ (Tm.nar x.ri) (kq0 (fun y => ⟨by rw [GGuard.enc_len]; omega, GGuard.nar y⟩) x.gu))))
theorem GOp.csz (x : GOp) : zg0 x.enc = x.size := by simp only [GOp.enc, GOp.size, zl0, Nat.add_assoc, lQ0, kf0 lQ0]
theorem GOp.nar (x : GOp) : zw0 x.enc := (zR0 _ _ (cY0 x.na) (zR0 _ _ (kq0 (fun y => ⟨by simp [encS], cY0 y⟩) x.ar) (cY0 x.re)))
theorem GStrict.csz (x : GStrict) : zg0 x.enc = x.size := by simp only [GStrict.enc, GStrict.size, zl0, Nat.add_assoc, tC0, lQ0]
theorem GStrict.nar (x : GStrict) : zw0 x.enc := (zR0 _ _ (cY0 x.op) (tb0 x.ar))
theorem GSignature.csz (x : GSignature) : zg0 x.enc = x.size := by simp only [GSignature.enc, GSignature.size, zl0, Nat.add_assoc, kf0 GOp.csz, kf0 lQ0]
theorem GSignature.nar (x : GSignature) : zw0 x.enc := (zR0 _ _ (kq0 (fun y => ⟨by simp [encS], cY0 y⟩) x.so) (kq0 (fun y => ⟨by rw [GOp.enc_len]; omega, GOp.nar y⟩) x.op))
theorem GDefinition.csz (x : GDefinition) : zg0 x.enc = x.size := by simp only [GDefinition.enc, GDefinition.size, zl0, Nat.add_assoc, GSignature.csz, kf0 GRule.csz, kf0 GStrict.csz]
theorem GDefinition.nar (x : GDefinition) : zw0 x.enc := (zR0 _ _ (GSignature.nar x.si) (zR0 _ _ (kq0 (fun y => ⟨by rw [GRule.enc_len]; omega, GRule.nar y⟩) x.ru) (kq0 (fun y => ⟨by rw [GStrict.enc_len]; omega, GStrict.nar y⟩) x.st)))
end Go.Ai
