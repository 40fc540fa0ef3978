/- Helpers of the great laws: big, has, climbs, sameInts. -/
import Derived.Test.YtphclghkljeaeaaGreatAiDw13
import Derived.Test.YtphclghkljeaeaaGreatAiF1
import Derived.Test.YtphclghkljeaeaaGreatAiU6
import Derived.Test.YtphclghkljeaeaaGreatAiU10
import Derived.Test.YtphclghkljeaeaaGreatAiQ2
import Derived.Test.YtphclghkljeaeaaGreatAiPR3
import Derived.Test.YtphclghkljeaeaaGreatAiY3
set_option linter.unusedVariables false
set_option linter.unusedSimpArgs false
namespace Go.Ai
open Go.Proofs
set_option maxRecDepth 100000
theorem sE0 (bs : List Int) (b : Bool) (hb : b = decide (1048576 < bs.length)) : Sat Tryz.prog 8 [slV (bs.map xJ0)] (boolV b) := by
 subst hb
 refine soc zF0 zB0 Tryz.func8 ?_
 by_cases h : (bs.length : Int) > 1048576
 ·have h2 : 1048576 < bs.length := by omega
  simp -implicitDefEqProofs only [go_sem, List.length_map, h, h2]
 ·have h2 : ¬ 1048576 < bs.length := by omega
  simp -implicitDefEqProofs only [go_sem, List.length_map, h, h2]
theorem xy0 (xs : List Int) (hl : xs.length < 100000000) : Sat Tryz.prog 35 [slV (xs.map encI), slV (xs.map encI)] (boolV true) := by
 refine soc zF0 zB0 Tryz.func35 ?_
 refine fx0 ?_
 refine zC0 (ι := Nat) (fun i => mk 26 [(0, slV (xs.map encI)), (1, slV (xs.map encI)), (5, zG0 i)] []) (fun i => i ≤ xs.length) (fun i => xs.length - i) 0 (Nat.zero_le _) ?_ zF0 zB0 (by decide +kernel) ?_
 ·exact lek
 ·intro i hi
  rcases Nat.lt_or_ge i xs.length with hlt | hge
  ·have hg := zE0 (ec := encI) hlt
   generalize xs[i] = x at hg
   simp only [encI] at hg
   simp -implicitDefEqProofs (disch := omega) only [go_sem, List.length_map, hlt, hg]
   exact ⟨i + 1, by omega, by omega, lek⟩
  ·have : i = xs.length := by omega
   subst this
   simp -implicitDefEqProofs (disch := omega) only [go_sem, List.length_map, Nat.lt_irrefl]
theorem cB0 (xs : List Int) (hl : xs.length < 100000000) (h : ∀ i, 0 < i → i < xs.length → xs.getD (i - 1) 0 < xs.getD i 0) : Sat Tryz.prog 37 [slV (xs.map encI)] (boolV true) := by
 refine soc zF0 zB0 Tryz.func37 ?_
 refine fx0 ?_
 refine zC0 (ι := Nat) (fun i => mk 20 [(0, slV (xs.map encI)), (3, zG0 (i + 1 : Nat))] []) (fun i => i ≤ xs.length) (fun i => xs.length - i) 0 (Nat.zero_le _) ?_ zF0 zB0 (by decide +kernel) ?_
 ·exact lek
 ·intro i hi
  rcases Nat.lt_or_ge (i + 1) xs.length with hlt | hge
  ·have hg := zE0 (ec := encI) hlt
   have hlt0 : i < xs.length := by omega
   have hg0 := zE0 (ec := encI) hlt0
   have hx := h (i + 1) (by omega) hlt
   rw [Nat.add_sub_cancel, List.getD_eq_getElem?_getD, List.getElem?_eq_getElem hlt0, List.getD_eq_getElem?_getD, List.getElem?_eq_getElem hlt] at hx
   simp only [Option.getD_some] at hx
   have e1 : (((i + 1 : Nat) : Int) - 1) = (i : Int) := by omega
   have hlti : (((i + 1 : Nat) : Int)) < xs.length := by omega
   generalize xs[i + 1] = x at hg hx
   generalize xs[i] = y at hg0 hx
   simp only [encI] at hg hg0
   have hge2 : ¬ y ≥ x := by omega
   simp -implicitDefEqProofs (disch := omega) only [go_sem, List.length_map, hlti, e1, hg, hg0, hge2]
   exact ⟨hlt0, fun _ => ⟨i + 1, by omega, by omega, lek⟩⟩
  ·have hlti : ¬ (((i + 1 : Nat) : Int)) < xs.length := by omega
   simp -implicitDefEqProofs (disch := omega) only [go_sem, List.length_map, hlti]
end Go.Ai
/- FnRedexes. -/
namespace Go.Ai
open Go.Proofs
set_option maxRecDepth 100000
theorem vE0 (xs : List GRedex) (hl : xs.length < 100000000) (hp : ∀ x, x ∈ xs → x.ps.length < 100000000) : Sat Tryz.prog 40 [slV (xs.map GRedex.enc), slV (xs.map GRedex.enc)] (boolV true) := by
 refine soc zF0 zB0 Tryz.func40 ?_
 refine fx0 ?_
 refine zC0 (ι := Nat) (fun i => mk 42 [(0, slV (xs.map GRedex.enc)), (1, slV (xs.map GRedex.enc)), (5, zG0 i)] []) (fun i => i ≤ xs.length) (fun i => xs.length - i) 0 (Nat.zero_le _) ?_ zF0 zB0 (by decide +kernel) ?_
 ·exact lek
 ·intro i hi
  rcases Nat.lt_or_ge i xs.length with hlt | hge
  ·have hg := zE0 (ec := GRedex.enc) hlt
   have hs := xy0 xs[i].ps (hp _ (List.getElem_mem hlt))
   generalize xs[i] = x at hg hs
   obtain ⟨ru, ps⟩ := x
   simp only [GRedex.enc, encI, encL, List.cons_append, List.nil_append] at hg
   simp -implicitDefEqProofs (disch := omega) only [go_sem, List.length_map, hlt, hg]
   refine c0' hs ?_
   exact ⟨i + 1, by omega, by omega, lek⟩
  ·have : i = xs.length := by omega
   subst this
   simp -implicitDefEqProofs (disch := omega) only [go_sem, List.length_map, Nat.lt_irrefl]
end Go.Ai
