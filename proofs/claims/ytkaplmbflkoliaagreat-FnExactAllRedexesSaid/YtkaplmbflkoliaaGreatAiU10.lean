/- The laws on IsValidDefinition and IsConfig. Written by mk21.py. -/
import Derived.Test.YtkaplmbflkoliaaGreatAiU9
namespace Go.Ai
set_option linter.unusedVariables false
set_option linter.unusedSimpArgs false
open Go.Proofs Go.RowKit
set_option maxRecDepth 100000

end Go.Ai
