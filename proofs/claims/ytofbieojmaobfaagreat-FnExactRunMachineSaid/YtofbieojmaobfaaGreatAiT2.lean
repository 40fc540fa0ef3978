/- Linear terms: IndexOf, AllDistinct, IsLinear; the law. -/
import Derived.Test.YtofbieojmaobfaaGreatAiT0
import Derived.Test.YtofbieojmaobfaaGreatAiT1
import Derived.Test.YtofbieojmaobfaaGreatAiM3
namespace Go.Ai
set_option linter.unusedVariables false
set_option linter.unusedSimpArgs false
open Go.Proofs Go.RowKit
set_option maxRecDepth 100000

end Go.Ai
