/- Helpers of the great laws: big, has, climbs, sameInts. -/
import Derived.Test.YtphclghkljeaeaaGreatAiDw13
import Derived.Test.YtphclghkljeaeaaGreatAiF1
import Derived.Test.YtphclghkljeaeaaGreatAiU6
import Derived.Test.YtphclghkljeaeaaGreatAiU10
import Derived.Test.YtphclghkljeaeaaGreatAiQ2
import Derived.Test.YtphclghkljeaeaaGreatAiPR3
import Derived.Test.YtphclghkljeaeaaGreatAiY3
set_option linter.unusedVariables false
set_option linter.unusedSimpArgs false
namespace Go.Ai
open Go.Proofs
set_option maxRecDepth 100000
theorem rj0 (bs : List Int) (b : Bool) (hb : b = decide (1048576 < bs.length)) : Sat Tryz.prog 8 [slV (bs.map gh0)] (boolV b) := by
 subst hb
 refine soc zE0 zA0 Tryz.func8 ?_
 by_cases h : (bs.length : Int) > 1048576
 ·have h2 : 1048576 < bs.length := by omega
  simp -implicitDefEqProofs only [go_sem, List.length_map, h, h2]
 ·have h2 : ¬ 1048576 < bs.length := by omega
  simp -implicitDefEqProofs only [go_sem, List.length_map, h, h2]
theorem mE0 (xs : List Int) (hl : xs.length < 100000000) : Sat Tryz.prog 35 [slV (xs.map encI), slV (xs.map encI)] (boolV true) := by
 refine soc zE0 zA0 Tryz.func35 ?_
 refine bW0 ?_
 refine zB0 (ι := Nat) (fun i => mk 26 [(0, slV (xs.map encI)), (1, slV (xs.map encI)), (5, zG0 i)] []) (fun i => i ≤ xs.length) (fun i => xs.length - i) 0 (Nat.zero_le _) ?_ zE0 zA0 (by decide +kernel) ?_
 ·exact lek
 ·intro i hi
  rcases Nat.lt_or_ge i xs.length with hlt | hge
  ·have hg := zD0 (ec := encI) hlt
   generalize xs[i] = x at hg
   simp only [encI] at hg
   refine cM1 ?_
   exact cr1
  ·have : i = xs.length := by omega
   subst this
   simp -implicitDefEqProofs (disch := omega) only [go_sem, List.length_map, Nat.lt_irrefl]
theorem ko0 (xs : List GRedex) (hl : xs.length < 100000000) (hp : ∀ x, x ∈ xs → x.ps.length < 100000000) : Sat Tryz.prog 40 [slV (xs.map GRedex.enc), slV (xs.map GRedex.enc)] (boolV true) := by
 refine soc zE0 zA0 Tryz.func40 ?_
 refine bW0 ?_
 refine zB0 (ι := Nat) (fun i => mk 42 [(0, slV (xs.map GRedex.enc)), (1, slV (xs.map GRedex.enc)), (5, zG0 i)] []) (fun i => i ≤ xs.length) (fun i => xs.length - i) 0 (Nat.zero_le _) ?_ zE0 zA0 (by decide +kernel) ?_
 ·exact lek
 ·intro i hi
  rcases Nat.lt_or_ge i xs.length with hlt | hge
  ·have hg := zD0 (ec := GRedex.enc) hlt
   have hs := mE0 xs[i].ps (hp _ (List.getElem_mem hlt))
   generalize xs[i] = x at hg hs
   obtain ⟨ru, ps⟩ := x
   simp only [GRedex.enc, encI, encL, List.cons_append, List.nil_append] at hg
   refine cM1 ?_
   refine c0' hs ?_
   exact cr1
  ·have : i = xs.length := by omega
   subst this
   simp -implicitDefEqProofs (disch := omega) only [go_sem, List.length_map, Nat.lt_irrefl]
end Go.Ai
