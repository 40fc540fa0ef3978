/- The laws on IsValidDefinition and IsConfig. Written by mk21.py. -/
import Derived.Test.YtmddjojbaompiaaGreatAiU9
set_option linter.unusedVariables false
set_option linter.unusedSimpArgs false
namespace Go.Ai
open Go.Proofs Go.RowKit
set_option maxRecDepth 100000
end Go.Ai
