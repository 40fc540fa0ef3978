/- Linear terms: IndexOf, AllDistinct, IsLinear; the law. -/
import Derived.Test.YtdjhdjffbmgmnaaGreatAiT0
import Derived.Test.YtdjhdjffbmgmnaaGreatAiT1
import Derived.Test.YtdjhdjffbmgmnaaGreatAiM3
namespace Go.Ai
set_option linter.unusedVariables false
set_option linter.unusedSimpArgs false
open Go.Proofs Go.RowKit
set_option maxRecDepth 100000

end Go.Ai
