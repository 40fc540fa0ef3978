/- Definitions: marks, owned copies. Written by mk7.py. -/
import Derived.Test.YtmddjojbaompiaaGreatAiD1
import Derived.Test.YtmddjojbaompiaaGreatAiM3
set_option linter.unusedVariables false
set_option linter.unusedSimpArgs false
namespace Go.Ai
open Go.Proofs Go.RowKit
set_option maxRecDepth 100000
theorem GGuard.csz (x : GGuard) : cszCells x.enc = x.size := by simp only [GGuard.enc, GGuard.size, cszCells_append, Nat.add_assoc, Tm.csz, cszE_I]
theorem GGuard.nar (x : GGuard) : narCells x.enc := (narCells_append _ _ (narE_I x.kd) (narCells_append _ _ (Tm.nar x.le) (Tm.nar x.ri)))
theorem GRule.csz (x : GRule) : cszCells x.enc = x.size := by simp only [GRule.enc, GRule.size, cszCells_append, Nat.add_assoc, Tm.csz, cszE_S, cszL_of GGuard.csz]
theorem GRule.nar (x : GRule) : narCells x.enc := (narCells_append _ _ (narE_S x.na) (narCells_append _ _ (Tm.nar x.le) (narCells_append _ _ (Tm.nar x.ri) (narL_of (fun y => ⟨by rw [GGuard.enc_len]; omega, GGuard.nar y⟩) x.gu))))
theorem GOp.csz (x : GOp) : cszCells x.enc = x.size := by simp only [GOp.enc, GOp.size, cszCells_append, Nat.add_assoc, cszE_S, cszL_of cszE_S]
theorem GOp.nar (x : GOp) : narCells x.enc := (narCells_append _ _ (narE_S x.na) (narCells_append _ _ (narL_of (fun y => ⟨by simp [encS], narE_S y⟩) x.ar) (narE_S x.re)))
theorem GStrict.csz (x : GStrict) : cszCells x.enc = x.size := by simp only [GStrict.enc, GStrict.size, cszCells_append, Nat.add_assoc, cszE_I, cszE_S]
theorem GStrict.nar (x : GStrict) : narCells x.enc := (narCells_append _ _ (narE_S x.op) (narE_I x.ar))
theorem GSignature.csz (x : GSignature) : cszCells x.enc = x.size := by simp only [GSignature.enc, GSignature.size, cszCells_append, Nat.add_assoc, cszL_of GOp.csz, cszL_of cszE_S]
theorem GSignature.nar (x : GSignature) : narCells x.enc := (narCells_append _ _ (narL_of (fun y => ⟨by simp [encS], narE_S y⟩) x.so) (narL_of (fun y => ⟨by rw [GOp.enc_len]; omega, GOp.nar y⟩) x.op))
theorem GDefinition.csz (x : GDefinition) : cszCells x.enc = x.size := by simp only [GDefinition.enc, GDefinition.size, cszCells_append, Nat.add_assoc, GSignature.csz, cszL_of GRule.csz, cszL_of GStrict.csz]
theorem GDefinition.nar (x : GDefinition) : narCells x.enc := (narCells_append _ _ (GSignature.nar x.si) (narCells_append _ _ (narL_of (fun y => ⟨by rw [GRule.enc_len]; omega, GRule.nar y⟩) x.ru) (narL_of (fun y => ⟨by rw [GStrict.enc_len]; omega, GStrict.nar y⟩) x.st)))
end Go.Ai
