/- Helpers of the great laws: big, has, climbs, sameInts. -/
import Derived.Test.YtphclghkljeaeaaGreatAiDw13
import Derived.Test.YtphclghkljeaeaaGreatAiF1
import Derived.Test.YtphclghkljeaeaaGreatAiU6
import Derived.Test.YtphclghkljeaeaaGreatAiU9
import Derived.Test.YtphclghkljeaeaaGreatAiQ2
set_option linter.unusedVariables false
set_option linter.unusedSimpArgs false
namespace Go.Ai
open Go.Proofs
set_option maxRecDepth 100000
theorem nO0 (bs : List Int) (b : Bool) (hb : b = decide (1048576 < bs.length)) : Sat Tryz.prog 8 [slV (bs.map mC0)] (boolV b) := by
 subst hb
 refine soc zE0 zA0 Tryz.func8 ?_
 by_cases h : (bs.length : Int) > 1048576
 ·have h2 : 1048576 < bs.length := by omega
  simp -implicitDefEqProofs only [go_sem, List.length_map, h, h2]
 ·have h2 : ¬ 1048576 < bs.length := by omega
  simp -implicitDefEqProofs only [go_sem, List.length_map, h, h2]
end Go.Ai
