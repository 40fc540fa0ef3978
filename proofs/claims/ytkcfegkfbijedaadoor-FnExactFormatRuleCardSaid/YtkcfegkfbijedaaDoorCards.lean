/-
  DERIVED. GIVEN WITH THE SEED: THE CARDS: each row of YtkcfegkfbijedaaDoorRows.lean that lists a variable, with what it lists TIED to the program's text (the seventh form; the later family's looks); each row that meets fmt, with fmt's text TOLD by the authors' own Lean function (tested against real Go, not proved from fmt's source: count such statements apart). THE CARD IS WHAT COUNTS. Prove the row's statement (the work); the ties are given (YtkcfegkfbijedaaDoorTie.lean); close each card by the builder's one call (the guide's Derived/Test/ToyasCard.lean, 'card_holds'). Laid BY PROGRAM, IN A SANDBOX (cutbox-door.mjs). By AI agents, Wed Nov 11 2026. No macro, syntax, notation, axiom, sorry.
-/
import Derived.Test.YtkcfegkfbijedaaDoorRows
import GoSem.ClaimSeven
namespace Go.Proofs.YtkcfegkfbijedaaDoor
namespace Rows

/-- THE TIED CARD OF 'laws.FnExactSymbolAt'. -/
def fnExactSymbolAtCard : Claim7 := { stood := { row := fnExactSymbolAtRow, standIns := [], harness := (true, "3da0f47545ea828f8a5bebe099cf36b5c976a98df9e9d69387c02be39252ec91"), looks := false }, kinds := [], alts := [], laidByText := true, laidKinds := [.data, .data, .data], laidTests := true, laidLooks := .later }
def FnExactSymbolAtCardSaid : Prop := Claim7.holds Tryd.pinned (.plain (OpenSpec.ofChange fnExactSymbolAtSpec)) fnExactSymbolAtCard

/-- THE TIED CARD OF 'laws.FnExactSelectRules'. -/
def fnExactSelectRulesCard : Claim7 := { stood := { row := fnExactSelectRulesRow, standIns := [], harness := (true, "3da0f47545ea828f8a5bebe099cf36b5c976a98df9e9d69387c02be39252ec91"), looks := false }, kinds := [], alts := [], laidByText := true, laidKinds := [.data, .data, .data], laidTests := true, laidLooks := .later }
def FnExactSelectRulesCardSaid : Prop := Claim7.holds Tryd.pinned (.plain (OpenSpec.ofChange fnExactSelectRulesSpec)) fnExactSelectRulesCard

/-- THE TIED CARD OF 'laws.FnExactFormatRule'. -/
def fnExactFormatRuleCard : Claim7 := { stood := { row := fnExactFormatRuleRow, standIns := [], harness := (true, "3da0f47545ea828f8a5bebe099cf36b5c976a98df9e9d69387c02be39252ec91"), looks := false }, kinds := [], alts := [], laidByText := true, laidKinds := [.data, .data, .data], laidTests := true, laidLooks := .later }
def FnExactFormatRuleCardSaid : Prop := Claim7.holds Tryd.pinned (.plain (OpenSpec.ofChange fnExactFormatRuleSpec)) fnExactFormatRuleCard

/-- THE SECOND FORM's CARD OF 'laws.FnExactSymbolAt'. -/
def fnExactSymbolAtUptoCard : Claim7 := { stood := { row := fnExactSymbolAtUptoRow, standIns := [], harness := (true, "3da0f47545ea828f8a5bebe099cf36b5c976a98df9e9d69387c02be39252ec91"), looks := false }, kinds := [], alts := [], laidByText := true, laidKinds := [.data, .data, .data], laidTests := true, laidLooks := .later }
def FnExactSymbolAtUptoCardSaid : Prop := Claim7.holds Tryd.pinned (.plain (OpenSpec.upto fnExactSymbolAtSpec)) fnExactSymbolAtUptoCard

/-- THE SECOND FORM's CARD OF 'laws.FnExactSelectRules'. -/
def fnExactSelectRulesUptoCard : Claim7 := { stood := { row := fnExactSelectRulesUptoRow, standIns := [], harness := (true, "3da0f47545ea828f8a5bebe099cf36b5c976a98df9e9d69387c02be39252ec91"), looks := false }, kinds := [], alts := [], laidByText := true, laidKinds := [.data, .data, .data], laidTests := true, laidLooks := .later }
def FnExactSelectRulesUptoCardSaid : Prop := Claim7.holds Tryd.pinned (.plain (OpenSpec.upto fnExactSelectRulesSpec)) fnExactSelectRulesUptoCard

/-- THE SECOND FORM's CARD OF 'laws.FnExactFormatRule'. -/
def fnExactFormatRuleUptoCard : Claim7 := { stood := { row := fnExactFormatRuleUptoRow, standIns := [], harness := (true, "3da0f47545ea828f8a5bebe099cf36b5c976a98df9e9d69387c02be39252ec91"), looks := false }, kinds := [], alts := [], laidByText := true, laidKinds := [.data, .data, .data], laidTests := true, laidLooks := .later }
def FnExactFormatRuleUptoCardSaid : Prop := Claim7.holds Tryd.pinned (.plain (OpenSpec.upto fnExactFormatRuleSpec)) fnExactFormatRuleUptoCard
end Rows
end Go.Proofs.YtkcfegkfbijedaaDoor
