/-
  NARROWER THAN 'FOR EVERY INPUT', by the rows' own cells (each row's printed sentence says how): FnExactPathIn: loops · FnExactInstanceOf: loops · FnExactIsLinear: loops · FnExactIsStrictPosition: loops · FnExactEqualDefinition: loops · FnExactAllCases: loops · FnExactRulesFor: loops · FnExactStrictArgs: loops.
  DERIVED. THE GIVEN ROWS OF THIS SEAT. 8 by the template 'for every input the law returns true; each argument reads behind the call as it read before'; 0 by the template 'total and deterministic' (their statements: YtdjleacnjijbjaaTotals.lean).
  GIVEN WITH THE SEED: the statements are not yours to turn. If you find one false, say at which input.
  Laid BY PROGRAM, IN A SANDBOX (cutbox-rows.mjs): the forced cells as the released guide's own fill.sh prints them over the translation a1e205bfc6f61e42… (all of the seat's roots in one cut). By AI agents, Wed Nov 11 2026. No macro, syntax, notation, axiom, sorry.
-/
import Derived.Test.YtdjleacnjijbjaaChecked
import GoSem.Claim
import GoSem.ClaimJoined
import GoSem.ClaimMapViews
import Derived.JoinedTies
import Derived.KernelRfl
namespace Go.Proofs.Ytdjleacnjijbjaa
/- THE CELL 'sum', in the pinned program and in every row, IS THE sha256 OF THE DUMP (.gsa) THAT YtdjleacnjijbjaaProg.lean LOADS. Nothing in Lean hashes anything: it is a label: what it is worth is what the hold of that sum in a sandbox is worth. -/
noncomputable def Try.pinned : Pinned := { name := "ytdjleacnjijbjaa", sum := "a1e205bfc6f61e42bf30d9d401c5b10c846f9162bb0ab3860af226ae4f77a84f", checked := Try.checked }
namespace Rows
def none {H : Type} : Left H := { results := [], args := [] }

/-- 'laws.FnExactPathIn': WHATEVER THE INPUT: true; the input reads as it did. -/
def fnExactPathInSpec : ChangeSpec := { name := "fnExactPathIn", fn := fun _ => fun
  | [d1, d2] => { results := [.lit (.bool true)], args := [d1, d2] }
  | _ => none }
def fnExactPathInRow : OpenClaim := { program := "ytdjleacnjijbjaa", sum := "a1e205bfc6f61e42bf30d9d401c5b10c846f9162bb0ab3860af226ae4f77a84f", func := "loop.example/g00517/laws.FnExactPathIn", spec := "fnExactPathIn", unfollowed := true, recurses := true, loops := true, apart := false }
def FnExactPathInSaid : Prop := fnExactPathInRow.holds Try.pinned (OpenSpec.ofChange fnExactPathInSpec)

/-- ITS FALSE NEIGHBOUR: 'it returns false'. Refute it at one input. -/
def fnExactPathInWrong : ChangeSpec := { name := "fnExactPathIn", fn := fun _ => fun
  | [d1, d2] => { results := [.lit (.bool false)], args := [d1, d2] }
  | _ => none }
def FnExactPathInWrongFalsely : Prop := fnExactPathInRow.holds Try.pinned (OpenSpec.ofChange fnExactPathInWrong)

/-- 'laws.FnExactInstanceOf': WHATEVER THE INPUT: true; the input reads as it did. -/
def fnExactInstanceOfSpec : ChangeSpec := { name := "fnExactInstanceOf", fn := fun _ => fun
  | [d1, d2] => { results := [.lit (.bool true)], args := [d1, d2] }
  | _ => none }
def fnExactInstanceOfRow : OpenClaim := { program := "ytdjleacnjijbjaa", sum := "a1e205bfc6f61e42bf30d9d401c5b10c846f9162bb0ab3860af226ae4f77a84f", func := "loop.example/g00517/laws.FnExactInstanceOf", spec := "fnExactInstanceOf", recurses := true, loops := true, apart := false }
def FnExactInstanceOfSaid : Prop := fnExactInstanceOfRow.holds Try.pinned (OpenSpec.ofChange fnExactInstanceOfSpec)

/-- ITS FALSE NEIGHBOUR: 'it returns false'. Refute it at one input. -/
def fnExactInstanceOfWrong : ChangeSpec := { name := "fnExactInstanceOf", fn := fun _ => fun
  | [d1, d2] => { results := [.lit (.bool false)], args := [d1, d2] }
  | _ => none }
def FnExactInstanceOfWrongFalsely : Prop := fnExactInstanceOfRow.holds Try.pinned (OpenSpec.ofChange fnExactInstanceOfWrong)

/-- 'laws.FnExactIsLinear': WHATEVER THE INPUT: true; the input reads as it did. -/
def fnExactIsLinearSpec : ChangeSpec := { name := "fnExactIsLinear", fn := fun _ => fun
  | [d] => { results := [.lit (.bool true)], args := [d] }
  | _ => none }
def fnExactIsLinearRow : OpenClaim := { program := "ytdjleacnjijbjaa", sum := "a1e205bfc6f61e42bf30d9d401c5b10c846f9162bb0ab3860af226ae4f77a84f", func := "loop.example/g00517/laws.FnExactIsLinear", spec := "fnExactIsLinear", recurses := true, loops := true, apart := false }
def FnExactIsLinearSaid : Prop := fnExactIsLinearRow.holds Try.pinned (OpenSpec.ofChange fnExactIsLinearSpec)

/-- ITS FALSE NEIGHBOUR: 'it returns false'. Refute it at one input. -/
def fnExactIsLinearWrong : ChangeSpec := { name := "fnExactIsLinear", fn := fun _ => fun
  | [d] => { results := [.lit (.bool false)], args := [d] }
  | _ => none }
def FnExactIsLinearWrongFalsely : Prop := fnExactIsLinearRow.holds Try.pinned (OpenSpec.ofChange fnExactIsLinearWrong)

/-- 'laws.FnExactIsStrictPosition': WHATEVER THE INPUT: true; the input reads as it did. -/
def fnExactIsStrictPositionSpec : ChangeSpec := { name := "fnExactIsStrictPosition", fn := fun _ => fun
  | [d1, d2, d3] => { results := [.lit (.bool true)], args := [d1, d2, d3] }
  | _ => none }
def fnExactIsStrictPositionRow : OpenClaim := { program := "ytdjleacnjijbjaa", sum := "a1e205bfc6f61e42bf30d9d401c5b10c846f9162bb0ab3860af226ae4f77a84f", func := "loop.example/g00517/laws.FnExactIsStrictPosition", spec := "fnExactIsStrictPosition", recurses := true, loops := true, apart := false }
def FnExactIsStrictPositionSaid : Prop := fnExactIsStrictPositionRow.holds Try.pinned (OpenSpec.ofChange fnExactIsStrictPositionSpec)

/-- ITS FALSE NEIGHBOUR: 'it returns false'. Refute it at one input. -/
def fnExactIsStrictPositionWrong : ChangeSpec := { name := "fnExactIsStrictPosition", fn := fun _ => fun
  | [d1, d2, d3] => { results := [.lit (.bool false)], args := [d1, d2, d3] }
  | _ => none }
def FnExactIsStrictPositionWrongFalsely : Prop := fnExactIsStrictPositionRow.holds Try.pinned (OpenSpec.ofChange fnExactIsStrictPositionWrong)

/-- 'laws.FnExactEqualDefinition': WHATEVER THE INPUT: true; the input reads as it did. -/
def fnExactEqualDefinitionSpec : ChangeSpec := { name := "fnExactEqualDefinition", fn := fun _ => fun
  | [d1, d2] => { results := [.lit (.bool true)], args := [d1, d2] }
  | _ => none }
def fnExactEqualDefinitionRow : OpenClaim := { program := "ytdjleacnjijbjaa", sum := "a1e205bfc6f61e42bf30d9d401c5b10c846f9162bb0ab3860af226ae4f77a84f", func := "loop.example/g00517/laws.FnExactEqualDefinition", spec := "fnExactEqualDefinition", unfollowed := true, recurses := true, loops := true, apart := false }
def FnExactEqualDefinitionSaid : Prop := fnExactEqualDefinitionRow.holds Try.pinned (OpenSpec.ofChange fnExactEqualDefinitionSpec)

/-- ITS FALSE NEIGHBOUR: 'it returns false'. Refute it at one input. -/
def fnExactEqualDefinitionWrong : ChangeSpec := { name := "fnExactEqualDefinition", fn := fun _ => fun
  | [d1, d2] => { results := [.lit (.bool false)], args := [d1, d2] }
  | _ => none }
def FnExactEqualDefinitionWrongFalsely : Prop := fnExactEqualDefinitionRow.holds Try.pinned (OpenSpec.ofChange fnExactEqualDefinitionWrong)

/-- 'laws.FnExactAllCases': WHATEVER THE INPUT: true; the input reads as it did. -/
def fnExactAllCasesSpec : ChangeSpec := { name := "fnExactAllCases", fn := fun _ => fun
  | [d1, d2] => { results := [.lit (.bool true)], args := [d1, d2] }
  | _ => none }
def fnExactAllCasesRow : OpenClaim := { program := "ytdjleacnjijbjaa", sum := "a1e205bfc6f61e42bf30d9d401c5b10c846f9162bb0ab3860af226ae4f77a84f", func := "loop.example/g00517/laws.FnExactAllCases", spec := "fnExactAllCases", unfollowed := true, recurses := true, loops := true, apart := false }
def FnExactAllCasesSaid : Prop := fnExactAllCasesRow.holds Try.pinned (OpenSpec.ofChange fnExactAllCasesSpec)

/-- ITS FALSE NEIGHBOUR: 'it returns false'. Refute it at one input. -/
def fnExactAllCasesWrong : ChangeSpec := { name := "fnExactAllCases", fn := fun _ => fun
  | [d1, d2] => { results := [.lit (.bool false)], args := [d1, d2] }
  | _ => none }
def FnExactAllCasesWrongFalsely : Prop := fnExactAllCasesRow.holds Try.pinned (OpenSpec.ofChange fnExactAllCasesWrong)

/-- 'laws.FnExactRulesFor': WHATEVER THE INPUT: true; the input reads as it did. -/
def fnExactRulesForSpec : ChangeSpec := { name := "fnExactRulesFor", fn := fun _ => fun
  | [d1, d2] => { results := [.lit (.bool true)], args := [d1, d2] }
  | _ => none }
def fnExactRulesForRow : OpenClaim := { program := "ytdjleacnjijbjaa", sum := "a1e205bfc6f61e42bf30d9d401c5b10c846f9162bb0ab3860af226ae4f77a84f", func := "loop.example/g00517/laws.FnExactRulesFor", spec := "fnExactRulesFor", recurses := true, loops := true, apart := false }
def FnExactRulesForSaid : Prop := fnExactRulesForRow.holds Try.pinned (OpenSpec.ofChange fnExactRulesForSpec)

/-- ITS FALSE NEIGHBOUR: 'it returns false'. Refute it at one input. -/
def fnExactRulesForWrong : ChangeSpec := { name := "fnExactRulesFor", fn := fun _ => fun
  | [d1, d2] => { results := [.lit (.bool false)], args := [d1, d2] }
  | _ => none }
def FnExactRulesForWrongFalsely : Prop := fnExactRulesForRow.holds Try.pinned (OpenSpec.ofChange fnExactRulesForWrong)

/-- 'laws.FnExactStrictArgs': WHATEVER THE INPUT: true; the input reads as it did. -/
def fnExactStrictArgsSpec : ChangeSpec := { name := "fnExactStrictArgs", fn := fun _ => fun
  | [d1, d2] => { results := [.lit (.bool true)], args := [d1, d2] }
  | _ => none }
def fnExactStrictArgsRow : OpenClaim := { program := "ytdjleacnjijbjaa", sum := "a1e205bfc6f61e42bf30d9d401c5b10c846f9162bb0ab3860af226ae4f77a84f", func := "loop.example/g00517/laws.FnExactStrictArgs", spec := "fnExactStrictArgs", recurses := true, loops := true, apart := false }
def FnExactStrictArgsSaid : Prop := fnExactStrictArgsRow.holds Try.pinned (OpenSpec.ofChange fnExactStrictArgsSpec)

/-- ITS FALSE NEIGHBOUR: 'it returns false'. Refute it at one input. -/
def fnExactStrictArgsWrong : ChangeSpec := { name := "fnExactStrictArgs", fn := fun _ => fun
  | [d1, d2] => { results := [.lit (.bool false)], args := [d1, d2] }
  | _ => none }
def FnExactStrictArgsWrongFalsely : Prop := fnExactStrictArgsRow.holds Try.pinned (OpenSpec.ofChange fnExactStrictArgsWrong)

/- THE SECOND FORM. 'bulk': how many values and letters a reading holds, each counted each time it is reached (what is shared counts as often as it is met; a slice's spare places count too). A statement '..UptoSaid' is the law's where the arguments, and the package variables that the reading takes, are together of bulk at most 1048576: NARROWER than '..Said'. Prove '..Said' where nothing that the law and all that it calls make is longer than what came in: it says more and counts as full. Else prove '..UptoSaid'. A law counts once. -/
mutual
def uptoBulk {H : Type} : DataW H → Nat
  | .lit (.string bytes) => bytes.length + 1
  | .lit _ => 1
  | .nil => 1
  | .ptr d => uptoBulk d + 1
  | .slice elems spare => uptoBulkAll elems + uptoBulkAll spare + 1
  | .agg parts => uptoBulkAll parts + 1
  | .iface _ d => uptoBulk d + 1
  | .map entries => uptoBulkEntries entries + 1
  | .held _ => 1
def uptoBulkAll {H : Type} : List (DataW H) → Nat
  | [] => 0
  | d :: r => uptoBulk d + uptoBulkAll r
def uptoBulkEntries {H : Type} : List (Lit × DataW H) → Nat
  | [] => 0
  | x :: r => uptoBulkEntry x + uptoBulkEntries r
def uptoBulkEntry {H : Type} : Lit × DataW H → Nat
  | (.string bytes, d) => bytes.length + uptoBulk d + 1
  | (_, d) => uptoBulk d + 1
 end
def uptoSmall : (H : Type) → List (DataW H) → Bool := fun _ ds => decide (uptoBulkAll ds ≤ 1048576)
def OpenSpec.upto (s : _root_.Go.ChangeSpec) : _root_.Go.OpenSpec := { _root_.Go.OpenSpec.ofChange s with cond := some uptoSmall }

/-- 'laws.FnExactPathIn', WHERE WHAT IT READS IS OF BULK AT MOST 1048576: true; the input reads as it did. -/
def fnExactPathInUptoRow : OpenClaim := { program := "ytdjleacnjijbjaa", sum := "a1e205bfc6f61e42bf30d9d401c5b10c846f9162bb0ab3860af226ae4f77a84f", func := "loop.example/g00517/laws.FnExactPathIn", spec := "fnExactPathIn", unfollowed := true, recurses := true, loops := true, apart := false, narrowed := true }
def FnExactPathInUptoSaid : Prop := fnExactPathInUptoRow.holds Try.pinned (OpenSpec.upto fnExactPathInSpec)

/-- 'laws.FnExactInstanceOf', WHERE WHAT IT READS IS OF BULK AT MOST 1048576: true; the input reads as it did. -/
def fnExactInstanceOfUptoRow : OpenClaim := { program := "ytdjleacnjijbjaa", sum := "a1e205bfc6f61e42bf30d9d401c5b10c846f9162bb0ab3860af226ae4f77a84f", func := "loop.example/g00517/laws.FnExactInstanceOf", spec := "fnExactInstanceOf", recurses := true, loops := true, apart := false, narrowed := true }
def FnExactInstanceOfUptoSaid : Prop := fnExactInstanceOfUptoRow.holds Try.pinned (OpenSpec.upto fnExactInstanceOfSpec)

/-- 'laws.FnExactIsLinear', WHERE WHAT IT READS IS OF BULK AT MOST 1048576: true; the input reads as it did. -/
def fnExactIsLinearUptoRow : OpenClaim := { program := "ytdjleacnjijbjaa", sum := "a1e205bfc6f61e42bf30d9d401c5b10c846f9162bb0ab3860af226ae4f77a84f", func := "loop.example/g00517/laws.FnExactIsLinear", spec := "fnExactIsLinear", recurses := true, loops := true, apart := false, narrowed := true }
def FnExactIsLinearUptoSaid : Prop := fnExactIsLinearUptoRow.holds Try.pinned (OpenSpec.upto fnExactIsLinearSpec)

/-- 'laws.FnExactIsStrictPosition', WHERE WHAT IT READS IS OF BULK AT MOST 1048576: true; the input reads as it did. -/
def fnExactIsStrictPositionUptoRow : OpenClaim := { program := "ytdjleacnjijbjaa", sum := "a1e205bfc6f61e42bf30d9d401c5b10c846f9162bb0ab3860af226ae4f77a84f", func := "loop.example/g00517/laws.FnExactIsStrictPosition", spec := "fnExactIsStrictPosition", recurses := true, loops := true, apart := false, narrowed := true }
def FnExactIsStrictPositionUptoSaid : Prop := fnExactIsStrictPositionUptoRow.holds Try.pinned (OpenSpec.upto fnExactIsStrictPositionSpec)

/-- 'laws.FnExactEqualDefinition', WHERE WHAT IT READS IS OF BULK AT MOST 1048576: true; the input reads as it did. -/
def fnExactEqualDefinitionUptoRow : OpenClaim := { program := "ytdjleacnjijbjaa", sum := "a1e205bfc6f61e42bf30d9d401c5b10c846f9162bb0ab3860af226ae4f77a84f", func := "loop.example/g00517/laws.FnExactEqualDefinition", spec := "fnExactEqualDefinition", unfollowed := true, recurses := true, loops := true, apart := false, narrowed := true }
def FnExactEqualDefinitionUptoSaid : Prop := fnExactEqualDefinitionUptoRow.holds Try.pinned (OpenSpec.upto fnExactEqualDefinitionSpec)

/-- 'laws.FnExactAllCases', WHERE WHAT IT READS IS OF BULK AT MOST 1048576: true; the input reads as it did. -/
def fnExactAllCasesUptoRow : OpenClaim := { program := "ytdjleacnjijbjaa", sum := "a1e205bfc6f61e42bf30d9d401c5b10c846f9162bb0ab3860af226ae4f77a84f", func := "loop.example/g00517/laws.FnExactAllCases", spec := "fnExactAllCases", unfollowed := true, recurses := true, loops := true, apart := false, narrowed := true }
def FnExactAllCasesUptoSaid : Prop := fnExactAllCasesUptoRow.holds Try.pinned (OpenSpec.upto fnExactAllCasesSpec)

/-- 'laws.FnExactRulesFor', WHERE WHAT IT READS IS OF BULK AT MOST 1048576: true; the input reads as it did. -/
def fnExactRulesForUptoRow : OpenClaim := { program := "ytdjleacnjijbjaa", sum := "a1e205bfc6f61e42bf30d9d401c5b10c846f9162bb0ab3860af226ae4f77a84f", func := "loop.example/g00517/laws.FnExactRulesFor", spec := "fnExactRulesFor", recurses := true, loops := true, apart := false, narrowed := true }
def FnExactRulesForUptoSaid : Prop := fnExactRulesForUptoRow.holds Try.pinned (OpenSpec.upto fnExactRulesForSpec)

/-- 'laws.FnExactStrictArgs', WHERE WHAT IT READS IS OF BULK AT MOST 1048576: true; the input reads as it did. -/
def fnExactStrictArgsUptoRow : OpenClaim := { program := "ytdjleacnjijbjaa", sum := "a1e205bfc6f61e42bf30d9d401c5b10c846f9162bb0ab3860af226ae4f77a84f", func := "loop.example/g00517/laws.FnExactStrictArgs", spec := "fnExactStrictArgs", recurses := true, loops := true, apart := false, narrowed := true }
def FnExactStrictArgsUptoSaid : Prop := fnExactStrictArgsUptoRow.holds Try.pinned (OpenSpec.upto fnExactStrictArgsSpec)

end Rows
end Go.Proofs.Ytdjleacnjijbjaa
