/-
  DERIVED. GIVEN WITH THE SEED: THE CARDS: each row of YtkcfegkfbijedaaGreatDoorRows.lean that lists a variable, with what it lists TIED to the program's text (the seventh form; the later family's looks); each row that meets fmt, with fmt's text TOLD by the authors' own Lean function (tested against real Go, not proved from fmt's source: count such statements apart). THE CARD IS WHAT COUNTS. Prove the row's statement (the work); the ties are given (YtkcfegkfbijedaaGreatDoorTie.lean); close each card by the builder's one call (the guide's Derived/Test/ToyasCard.lean, 'card_holds'). Laid BY PROGRAM, IN A SANDBOX (cutbox-door.mjs). By AI agents, Wed Nov 11 2026. No macro, syntax, notation, axiom, sorry.
-/
import Derived.Test.YtkcfegkfbijedaaGreatDoorRows
import GoSem.ClaimSeven
namespace Go.Proofs.YtkcfegkfbijedaaGreatDoor
namespace Rows

/-- THE TIED CARD OF 'laws.FnExactTreeRule'. -/
def fnExactTreeRuleCard : Claim7 := { stood := { row := fnExactTreeRuleRow, standIns := [], harness := (true, "f1aaaf24bc6e40ac1c0cb09ba07eaac43c1b57d1d0e984cba2664e1941a057a2"), looks := false }, kinds := [], alts := [], laidByText := true, laidKinds := [.data, .data, .data], laidTests := true, laidLooks := .later }
def FnExactTreeRuleCardSaid : Prop := Claim7.holds Tryz.pinned (.plain (OpenSpec.ofChange fnExactTreeRuleSpec)) fnExactTreeRuleCard

/-- THE SECOND FORM's CARD OF 'laws.FnExactTreeRule'. -/
def fnExactTreeRuleUptoCard : Claim7 := { stood := { row := fnExactTreeRuleUptoRow, standIns := [], harness := (true, "f1aaaf24bc6e40ac1c0cb09ba07eaac43c1b57d1d0e984cba2664e1941a057a2"), looks := false }, kinds := [], alts := [], laidByText := true, laidKinds := [.data, .data, .data], laidTests := true, laidLooks := .later }
def FnExactTreeRuleUptoCardSaid : Prop := Claim7.holds Tryz.pinned (.plain (OpenSpec.upto fnExactTreeRuleSpec)) fnExactTreeRuleUptoCard
end Rows
end Go.Proofs.YtkcfegkfbijedaaGreatDoor
