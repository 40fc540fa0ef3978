/- Linear terms: IndexOf, AllDistinct, IsLinear; the law. -/
import Derived.Test.YtkaplmbflkoliaaGreatAiT0
import Derived.Test.YtkaplmbflkoliaaGreatAiT1
import Derived.Test.YtkaplmbflkoliaaGreatAiM3
namespace Go.Ai
set_option linter.unusedVariables false
set_option linter.unusedSimpArgs false
open Go.Proofs Go.RowKit
set_option maxRecDepth 100000

end Go.Ai
