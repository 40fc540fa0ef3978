/-
  NARROWER THAN 'FOR EVERY INPUT', by the rows' own cells (each row's printed sentence says how): FnExactEqualOutcome: loops · FnExactEqualMachine: loops · FnExactEqualSymbolic: loops · FnExactLoadMachine: loops.
  DERIVED. THE GIVEN ROWS OF THIS SEAT. 7 by the template 'for every input the law returns true; each argument reads behind the call as it read before'; 0 by the template 'total and deterministic' (their statements: YthaghkakjaengaaTotals.lean).
  GIVEN WITH THE SEED: the statements are not yours to turn. If you find one false, say at which input.
  Laid BY PROGRAM, IN A SANDBOX (cutbox-rows.mjs): the forced cells as the released guide's own fill.sh prints them over the translation df8f2b64d3489b2b… (all of the seat's roots in one cut). By AI agents, Wed Nov 11 2026. No macro, syntax, notation, axiom, sorry.
-/
import Derived.Test.YthaghkakjaengaaChecked
import GoSem.Claim
import GoSem.ClaimJoined
import GoSem.ClaimMapViews
import Derived.JoinedTies
import Derived.KernelRfl
namespace Go.Proofs.Ythaghkakjaengaa
/- THE CELL 'sum', in the pinned program and in every row, IS THE sha256 OF THE DUMP (.gsa) THAT YthaghkakjaengaaProg.lean LOADS. Nothing in Lean hashes anything: it is a label: what it is worth is what the hold of that sum in a sandbox is worth. -/
noncomputable def Try.pinned : Pinned := { name := "ythaghkakjaengaa", sum := "df8f2b64d3489b2b7cb5e508e23575fa9434261bbe8028e6600a97ef74b5c6d5", checked := Try.checked }
namespace Rows
def none {H : Type} : Left H := { results := [], args := [] }

/-- 'laws.FnExactCountCases': WHATEVER THE INPUT: true; the input reads as it did. -/
def fnExactCountCasesSpec : ChangeSpec := { name := "fnExactCountCases", fn := fun _ => fun
  | [d] => { results := [.lit (.bool true)], args := [d] }
  | _ => none }
def fnExactCountCasesRow : OpenClaim := { program := "ythaghkakjaengaa", sum := "df8f2b64d3489b2b7cb5e508e23575fa9434261bbe8028e6600a97ef74b5c6d5", func := "loop.example/g00517/laws.FnExactCountCases", spec := "fnExactCountCases", apart := false }
def FnExactCountCasesSaid : Prop := fnExactCountCasesRow.holds Try.pinned (OpenSpec.ofChange fnExactCountCasesSpec)

/-- ITS FALSE NEIGHBOUR: 'it returns false'. Refute it at one input. -/
def fnExactCountCasesWrong : ChangeSpec := { name := "fnExactCountCases", fn := fun _ => fun
  | [d] => { results := [.lit (.bool false)], args := [d] }
  | _ => none }
def FnExactCountCasesWrongFalsely : Prop := fnExactCountCasesRow.holds Try.pinned (OpenSpec.ofChange fnExactCountCasesWrong)

/-- 'laws.FnExactValuesOf': WHATEVER THE INPUT: true; the input reads as it did. -/
def fnExactValuesOfSpec : ChangeSpec := { name := "fnExactValuesOf", fn := fun _ => fun
  | [d1, d2] => { results := [.lit (.bool true)], args := [d1, d2] }
  | _ => none }
def fnExactValuesOfRow : OpenClaim := { program := "ythaghkakjaengaa", sum := "df8f2b64d3489b2b7cb5e508e23575fa9434261bbe8028e6600a97ef74b5c6d5", func := "loop.example/g00517/laws.FnExactValuesOf", spec := "fnExactValuesOf", apart := false }
def FnExactValuesOfSaid : Prop := fnExactValuesOfRow.holds Try.pinned (OpenSpec.ofChange fnExactValuesOfSpec)

/-- ITS FALSE NEIGHBOUR: 'it returns false'. Refute it at one input. -/
def fnExactValuesOfWrong : ChangeSpec := { name := "fnExactValuesOf", fn := fun _ => fun
  | [d1, d2] => { results := [.lit (.bool false)], args := [d1, d2] }
  | _ => none }
def FnExactValuesOfWrongFalsely : Prop := fnExactValuesOfRow.holds Try.pinned (OpenSpec.ofChange fnExactValuesOfWrong)

/-- 'laws.FnExactEqualOutcome': WHATEVER THE INPUT: true; the input reads as it did. -/
def fnExactEqualOutcomeSpec : ChangeSpec := { name := "fnExactEqualOutcome", fn := fun _ => fun
  | [d1, d2] => { results := [.lit (.bool true)], args := [d1, d2] }
  | _ => none }
def fnExactEqualOutcomeRow : OpenClaim := { program := "ythaghkakjaengaa", sum := "df8f2b64d3489b2b7cb5e508e23575fa9434261bbe8028e6600a97ef74b5c6d5", func := "loop.example/g00517/laws.FnExactEqualOutcome", spec := "fnExactEqualOutcome", unfollowed := true, recurses := true, loops := true, apart := false }
def FnExactEqualOutcomeSaid : Prop := fnExactEqualOutcomeRow.holds Try.pinned (OpenSpec.ofChange fnExactEqualOutcomeSpec)

/-- ITS FALSE NEIGHBOUR: 'it returns false'. Refute it at one input. -/
def fnExactEqualOutcomeWrong : ChangeSpec := { name := "fnExactEqualOutcome", fn := fun _ => fun
  | [d1, d2] => { results := [.lit (.bool false)], args := [d1, d2] }
  | _ => none }
def FnExactEqualOutcomeWrongFalsely : Prop := fnExactEqualOutcomeRow.holds Try.pinned (OpenSpec.ofChange fnExactEqualOutcomeWrong)

/-- 'laws.FnExactEqualMachine': WHATEVER THE INPUT: true; the input reads as it did. -/
def fnExactEqualMachineSpec : ChangeSpec := { name := "fnExactEqualMachine", fn := fun _ => fun
  | [d1, d2] => { results := [.lit (.bool true)], args := [d1, d2] }
  | _ => none }
def fnExactEqualMachineRow : OpenClaim := { program := "ythaghkakjaengaa", sum := "df8f2b64d3489b2b7cb5e508e23575fa9434261bbe8028e6600a97ef74b5c6d5", func := "loop.example/g00517/laws.FnExactEqualMachine", spec := "fnExactEqualMachine", unfollowed := true, recurses := true, loops := true, apart := false }
def FnExactEqualMachineSaid : Prop := fnExactEqualMachineRow.holds Try.pinned (OpenSpec.ofChange fnExactEqualMachineSpec)

/-- ITS FALSE NEIGHBOUR: 'it returns false'. Refute it at one input. -/
def fnExactEqualMachineWrong : ChangeSpec := { name := "fnExactEqualMachine", fn := fun _ => fun
  | [d1, d2] => { results := [.lit (.bool false)], args := [d1, d2] }
  | _ => none }
def FnExactEqualMachineWrongFalsely : Prop := fnExactEqualMachineRow.holds Try.pinned (OpenSpec.ofChange fnExactEqualMachineWrong)

/-- 'laws.FnExactEqualSymbolic': WHATEVER THE INPUT: true; the input reads as it did. -/
def fnExactEqualSymbolicSpec : ChangeSpec := { name := "fnExactEqualSymbolic", fn := fun _ => fun
  | [d1, d2] => { results := [.lit (.bool true)], args := [d1, d2] }
  | _ => none }
def fnExactEqualSymbolicRow : OpenClaim := { program := "ythaghkakjaengaa", sum := "df8f2b64d3489b2b7cb5e508e23575fa9434261bbe8028e6600a97ef74b5c6d5", func := "loop.example/g00517/laws.FnExactEqualSymbolic", spec := "fnExactEqualSymbolic", unfollowed := true, recurses := true, loops := true, apart := false }
def FnExactEqualSymbolicSaid : Prop := fnExactEqualSymbolicRow.holds Try.pinned (OpenSpec.ofChange fnExactEqualSymbolicSpec)

/-- ITS FALSE NEIGHBOUR: 'it returns false'. Refute it at one input. -/
def fnExactEqualSymbolicWrong : ChangeSpec := { name := "fnExactEqualSymbolic", fn := fun _ => fun
  | [d1, d2] => { results := [.lit (.bool false)], args := [d1, d2] }
  | _ => none }
def FnExactEqualSymbolicWrongFalsely : Prop := fnExactEqualSymbolicRow.holds Try.pinned (OpenSpec.ofChange fnExactEqualSymbolicWrong)

/-- 'laws.FnExactLoadMachine': WHATEVER THE INPUT: true; the input reads as it did. -/
def fnExactLoadMachineSpec : ChangeSpec := { name := "fnExactLoadMachine", fn := fun _ => fun
  | [d] => { results := [.lit (.bool true)], args := [d] }
  | _ => none }
def fnExactLoadMachineRow : OpenClaim := { program := "ythaghkakjaengaa", sum := "df8f2b64d3489b2b7cb5e508e23575fa9434261bbe8028e6600a97ef74b5c6d5", func := "loop.example/g00517/laws.FnExactLoadMachine", spec := "fnExactLoadMachine", recurses := true, loops := true, apart := false }
def FnExactLoadMachineSaid : Prop := fnExactLoadMachineRow.holds Try.pinned (OpenSpec.ofChange fnExactLoadMachineSpec)

/-- ITS FALSE NEIGHBOUR: 'it returns false'. Refute it at one input. -/
def fnExactLoadMachineWrong : ChangeSpec := { name := "fnExactLoadMachine", fn := fun _ => fun
  | [d] => { results := [.lit (.bool false)], args := [d] }
  | _ => none }
def FnExactLoadMachineWrongFalsely : Prop := fnExactLoadMachineRow.holds Try.pinned (OpenSpec.ofChange fnExactLoadMachineWrong)

/-- 'laws.FnExactCaseSubst': WHATEVER THE INPUT: true; the input reads as it did. -/
def fnExactCaseSubstSpec : ChangeSpec := { name := "fnExactCaseSubst", fn := fun _ => fun
  | [d1, d2] => { results := [.lit (.bool true)], args := [d1, d2] }
  | _ => none }
def fnExactCaseSubstRow : OpenClaim := { program := "ythaghkakjaengaa", sum := "df8f2b64d3489b2b7cb5e508e23575fa9434261bbe8028e6600a97ef74b5c6d5", func := "loop.example/g00517/laws.FnExactCaseSubst", spec := "fnExactCaseSubst", recurses := true, apart := false }
def FnExactCaseSubstSaid : Prop := fnExactCaseSubstRow.holds Try.pinned (OpenSpec.ofChange fnExactCaseSubstSpec)

/-- ITS FALSE NEIGHBOUR: 'it returns false'. Refute it at one input. -/
def fnExactCaseSubstWrong : ChangeSpec := { name := "fnExactCaseSubst", fn := fun _ => fun
  | [d1, d2] => { results := [.lit (.bool false)], args := [d1, d2] }
  | _ => none }
def FnExactCaseSubstWrongFalsely : Prop := fnExactCaseSubstRow.holds Try.pinned (OpenSpec.ofChange fnExactCaseSubstWrong)

/- THE SECOND FORM. 'bulk': how many values and letters a reading holds, each counted each time it is reached (what is shared counts as often as it is met; a slice's spare places count too). A statement '..UptoSaid' is the law's where the arguments, and the package variables that the reading takes, are together of bulk at most 1048576: NARROWER than '..Said'. Prove '..Said' where nothing that the law and all that it calls make is longer than what came in: it says more and counts as full. Else prove '..UptoSaid'. A law counts once. -/
mutual
def uptoBulk {H : Type} : DataW H → Nat
  | .lit (.string bytes) => bytes.length + 1
  | .lit _ => 1
  | .nil => 1
  | .ptr d => uptoBulk d + 1
  | .slice elems spare => uptoBulkAll elems + uptoBulkAll spare + 1
  | .agg parts => uptoBulkAll parts + 1
  | .iface _ d => uptoBulk d + 1
  | .map entries => uptoBulkEntries entries + 1
  | .held _ => 1
def uptoBulkAll {H : Type} : List (DataW H) → Nat
  | [] => 0
  | d :: r => uptoBulk d + uptoBulkAll r
def uptoBulkEntries {H : Type} : List (Lit × DataW H) → Nat
  | [] => 0
  | x :: r => uptoBulkEntry x + uptoBulkEntries r
def uptoBulkEntry {H : Type} : Lit × DataW H → Nat
  | (.string bytes, d) => bytes.length + uptoBulk d + 1
  | (_, d) => uptoBulk d + 1
 end
def uptoSmall : (H : Type) → List (DataW H) → Bool := fun _ ds => decide (uptoBulkAll ds ≤ 1048576)
def OpenSpec.upto (s : _root_.Go.ChangeSpec) : _root_.Go.OpenSpec := { _root_.Go.OpenSpec.ofChange s with cond := some uptoSmall }

/-- 'laws.FnExactCountCases', WHERE WHAT IT READS IS OF BULK AT MOST 1048576: true; the input reads as it did. -/
def fnExactCountCasesUptoRow : OpenClaim := { program := "ythaghkakjaengaa", sum := "df8f2b64d3489b2b7cb5e508e23575fa9434261bbe8028e6600a97ef74b5c6d5", func := "loop.example/g00517/laws.FnExactCountCases", spec := "fnExactCountCases", apart := false, narrowed := true }
def FnExactCountCasesUptoSaid : Prop := fnExactCountCasesUptoRow.holds Try.pinned (OpenSpec.upto fnExactCountCasesSpec)

/-- 'laws.FnExactValuesOf', WHERE WHAT IT READS IS OF BULK AT MOST 1048576: true; the input reads as it did. -/
def fnExactValuesOfUptoRow : OpenClaim := { program := "ythaghkakjaengaa", sum := "df8f2b64d3489b2b7cb5e508e23575fa9434261bbe8028e6600a97ef74b5c6d5", func := "loop.example/g00517/laws.FnExactValuesOf", spec := "fnExactValuesOf", apart := false, narrowed := true }
def FnExactValuesOfUptoSaid : Prop := fnExactValuesOfUptoRow.holds Try.pinned (OpenSpec.upto fnExactValuesOfSpec)

/-- 'laws.FnExactEqualOutcome', WHERE WHAT IT READS IS OF BULK AT MOST 1048576: true; the input reads as it did. -/
def fnExactEqualOutcomeUptoRow : OpenClaim := { program := "ythaghkakjaengaa", sum := "df8f2b64d3489b2b7cb5e508e23575fa9434261bbe8028e6600a97ef74b5c6d5", func := "loop.example/g00517/laws.FnExactEqualOutcome", spec := "fnExactEqualOutcome", unfollowed := true, recurses := true, loops := true, apart := false, narrowed := true }
def FnExactEqualOutcomeUptoSaid : Prop := fnExactEqualOutcomeUptoRow.holds Try.pinned (OpenSpec.upto fnExactEqualOutcomeSpec)

/-- 'laws.FnExactEqualMachine', WHERE WHAT IT READS IS OF BULK AT MOST 1048576: true; the input reads as it did. -/
def fnExactEqualMachineUptoRow : OpenClaim := { program := "ythaghkakjaengaa", sum := "df8f2b64d3489b2b7cb5e508e23575fa9434261bbe8028e6600a97ef74b5c6d5", func := "loop.example/g00517/laws.FnExactEqualMachine", spec := "fnExactEqualMachine", unfollowed := true, recurses := true, loops := true, apart := false, narrowed := true }
def FnExactEqualMachineUptoSaid : Prop := fnExactEqualMachineUptoRow.holds Try.pinned (OpenSpec.upto fnExactEqualMachineSpec)

/-- 'laws.FnExactEqualSymbolic', WHERE WHAT IT READS IS OF BULK AT MOST 1048576: true; the input reads as it did. -/
def fnExactEqualSymbolicUptoRow : OpenClaim := { program := "ythaghkakjaengaa", sum := "df8f2b64d3489b2b7cb5e508e23575fa9434261bbe8028e6600a97ef74b5c6d5", func := "loop.example/g00517/laws.FnExactEqualSymbolic", spec := "fnExactEqualSymbolic", unfollowed := true, recurses := true, loops := true, apart := false, narrowed := true }
def FnExactEqualSymbolicUptoSaid : Prop := fnExactEqualSymbolicUptoRow.holds Try.pinned (OpenSpec.upto fnExactEqualSymbolicSpec)

/-- 'laws.FnExactLoadMachine', WHERE WHAT IT READS IS OF BULK AT MOST 1048576: true; the input reads as it did. -/
def fnExactLoadMachineUptoRow : OpenClaim := { program := "ythaghkakjaengaa", sum := "df8f2b64d3489b2b7cb5e508e23575fa9434261bbe8028e6600a97ef74b5c6d5", func := "loop.example/g00517/laws.FnExactLoadMachine", spec := "fnExactLoadMachine", recurses := true, loops := true, apart := false, narrowed := true }
def FnExactLoadMachineUptoSaid : Prop := fnExactLoadMachineUptoRow.holds Try.pinned (OpenSpec.upto fnExactLoadMachineSpec)

/-- 'laws.FnExactCaseSubst', WHERE WHAT IT READS IS OF BULK AT MOST 1048576: true; the input reads as it did. -/
def fnExactCaseSubstUptoRow : OpenClaim := { program := "ythaghkakjaengaa", sum := "df8f2b64d3489b2b7cb5e508e23575fa9434261bbe8028e6600a97ef74b5c6d5", func := "loop.example/g00517/laws.FnExactCaseSubst", spec := "fnExactCaseSubst", recurses := true, apart := false, narrowed := true }
def FnExactCaseSubstUptoSaid : Prop := fnExactCaseSubstUptoRow.holds Try.pinned (OpenSpec.upto fnExactCaseSubstSpec)

end Rows
end Go.Proofs.Ythaghkakjaengaa
