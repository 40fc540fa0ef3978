/-
  NARROWER THAN 'FOR EVERY INPUT', by the rows' own cells (each row's printed sentence says how): FnExactRootRule: loops · FnExactIsNormal: loops · FnExactIsOrthogonal: loops.
  DERIVED. THE GIVEN ROWS OF THIS SEAT. 11 by the template 'for every input the law returns true; each argument reads behind the call as it read before'; 0 by the template 'total and deterministic' (their statements: YtlaflibbnliefaaGreatTotals.lean).
  GIVEN WITH THE SEED: the statements are not yours to turn. If you find one false, say at which input.
  Laid BY PROGRAM, IN A SANDBOX (cutbox-rows.mjs): the forced cells as the released guide's own fill.sh prints them over the translation 8a31b9694ead3c1f… (all of the seat's roots in one cut). By AI agents, Wed Nov 11 2026. No macro, syntax, notation, axiom, sorry.
-/
import Derived.Test.YtlaflibbnliefaaGreatChecked
import GoSem.Claim
import GoSem.ClaimJoined
import GoSem.ClaimMapViews
import Derived.JoinedTies
import Derived.KernelRfl
namespace Go.Proofs.YtlaflibbnliefaaGreat
/- THE CELL 'sum', in the pinned program and in every row, IS THE sha256 OF THE DUMP (.gsa) THAT YtlaflibbnliefaaGreatProg.lean LOADS. Nothing in Lean hashes anything: it is a label: what it is worth is what the hold of that sum in a sandbox is worth. -/
noncomputable def Tryz.pinned : Pinned := { name := "ytlaflibbnliefaagreat", sum := "8a31b9694ead3c1f2fdefcd2f2ed73abfc2322842a7d8705bf6d49886e5050dd", checked := Tryz.checked }
namespace Rows
def none {H : Type} : Left H := { results := [], args := [] }

/-- 'laws.FnSymbolic': WHATEVER THE INPUT: true; the input reads as it did. -/
def fnSymbolicSpec : ChangeSpec := { name := "fnSymbolic", fn := fun _ => fun
  | [d] => { results := [.lit (.bool true)], args := [d] }
  | _ => none }
def fnSymbolicRow : OpenClaim := { program := "ytlaflibbnliefaagreat", sum := "8a31b9694ead3c1f2fdefcd2f2ed73abfc2322842a7d8705bf6d49886e5050dd", func := "loop.example/g00517/laws.FnSymbolic", spec := "fnSymbolic", unfollowed := true, recurses := true, apart := false }
def FnSymbolicSaid : Prop := fnSymbolicRow.holds Tryz.pinned (OpenSpec.ofChange fnSymbolicSpec)

/-- ITS FALSE NEIGHBOUR: 'it returns false'. Refute it at one input. -/
def fnSymbolicWrong : ChangeSpec := { name := "fnSymbolic", fn := fun _ => fun
  | [d] => { results := [.lit (.bool false)], args := [d] }
  | _ => none }
def FnSymbolicWrongFalsely : Prop := fnSymbolicRow.holds Tryz.pinned (OpenSpec.ofChange fnSymbolicWrong)

/-- 'laws.FnRedexes': WHATEVER THE INPUT: true; the input reads as it did. -/
def fnRedexesSpec : ChangeSpec := { name := "fnRedexes", fn := fun _ => fun
  | [d] => { results := [.lit (.bool true)], args := [d] }
  | _ => none }
def fnRedexesRow : OpenClaim := { program := "ytlaflibbnliefaagreat", sum := "8a31b9694ead3c1f2fdefcd2f2ed73abfc2322842a7d8705bf6d49886e5050dd", func := "loop.example/g00517/laws.FnRedexes", spec := "fnRedexes", unfollowed := true, recurses := true, apart := false }
def FnRedexesSaid : Prop := fnRedexesRow.holds Tryz.pinned (OpenSpec.ofChange fnRedexesSpec)

/-- ITS FALSE NEIGHBOUR: 'it returns false'. Refute it at one input. -/
def fnRedexesWrong : ChangeSpec := { name := "fnRedexes", fn := fun _ => fun
  | [d] => { results := [.lit (.bool false)], args := [d] }
  | _ => none }
def FnRedexesWrongFalsely : Prop := fnRedexesRow.holds Tryz.pinned (OpenSpec.ofChange fnRedexesWrong)

/-- 'laws.FnExactRootRule': WHATEVER THE INPUT: true; the input reads as it did. -/
def fnExactRootRuleSpec : ChangeSpec := { name := "fnExactRootRule", fn := fun _ => fun
  | [d1, d2] => { results := [.lit (.bool true)], args := [d1, d2] }
  | _ => none }
def fnExactRootRuleRow : OpenClaim := { program := "ytlaflibbnliefaagreat", sum := "8a31b9694ead3c1f2fdefcd2f2ed73abfc2322842a7d8705bf6d49886e5050dd", func := "loop.example/g00517/laws.FnExactRootRule", spec := "fnExactRootRule", unfollowed := true, recurses := true, loops := true, apart := false }
def FnExactRootRuleSaid : Prop := fnExactRootRuleRow.holds Tryz.pinned (OpenSpec.ofChange fnExactRootRuleSpec)

/-- ITS FALSE NEIGHBOUR: 'it returns false'. Refute it at one input. -/
def fnExactRootRuleWrong : ChangeSpec := { name := "fnExactRootRule", fn := fun _ => fun
  | [d1, d2] => { results := [.lit (.bool false)], args := [d1, d2] }
  | _ => none }
def FnExactRootRuleWrongFalsely : Prop := fnExactRootRuleRow.holds Tryz.pinned (OpenSpec.ofChange fnExactRootRuleWrong)

/-- 'laws.FnMachineSteps': WHATEVER THE INPUT: true; the input reads as it did. -/
def fnMachineStepsSpec : ChangeSpec := { name := "fnMachineSteps", fn := fun _ => fun
  | [d] => { results := [.lit (.bool true)], args := [d] }
  | _ => none }
def fnMachineStepsRow : OpenClaim := { program := "ytlaflibbnliefaagreat", sum := "8a31b9694ead3c1f2fdefcd2f2ed73abfc2322842a7d8705bf6d49886e5050dd", func := "loop.example/g00517/laws.FnMachineSteps", spec := "fnMachineSteps", unfollowed := true, recurses := true, apart := false }
def FnMachineStepsSaid : Prop := fnMachineStepsRow.holds Tryz.pinned (OpenSpec.ofChange fnMachineStepsSpec)

/-- ITS FALSE NEIGHBOUR: 'it returns false'. Refute it at one input. -/
def fnMachineStepsWrong : ChangeSpec := { name := "fnMachineSteps", fn := fun _ => fun
  | [d] => { results := [.lit (.bool false)], args := [d] }
  | _ => none }
def FnMachineStepsWrongFalsely : Prop := fnMachineStepsRow.holds Tryz.pinned (OpenSpec.ofChange fnMachineStepsWrong)

/-- 'laws.FnSteps': WHATEVER THE INPUT: true; the input reads as it did. -/
def fnStepsSpec : ChangeSpec := { name := "fnSteps", fn := fun _ => fun
  | [d] => { results := [.lit (.bool true)], args := [d] }
  | _ => none }
def fnStepsRow : OpenClaim := { program := "ytlaflibbnliefaagreat", sum := "8a31b9694ead3c1f2fdefcd2f2ed73abfc2322842a7d8705bf6d49886e5050dd", func := "loop.example/g00517/laws.FnSteps", spec := "fnSteps", unfollowed := true, recurses := true, apart := false }
def FnStepsSaid : Prop := fnStepsRow.holds Tryz.pinned (OpenSpec.ofChange fnStepsSpec)

/-- ITS FALSE NEIGHBOUR: 'it returns false'. Refute it at one input. -/
def fnStepsWrong : ChangeSpec := { name := "fnSteps", fn := fun _ => fun
  | [d] => { results := [.lit (.bool false)], args := [d] }
  | _ => none }
def FnStepsWrongFalsely : Prop := fnStepsRow.holds Tryz.pinned (OpenSpec.ofChange fnStepsWrong)

/-- 'laws.FnOverlaps': WHATEVER THE INPUT: true; the input reads as it did. -/
def fnOverlapsSpec : ChangeSpec := { name := "fnOverlaps", fn := fun _ => fun
  | [d] => { results := [.lit (.bool true)], args := [d] }
  | _ => none }
def fnOverlapsRow : OpenClaim := { program := "ytlaflibbnliefaagreat", sum := "8a31b9694ead3c1f2fdefcd2f2ed73abfc2322842a7d8705bf6d49886e5050dd", func := "loop.example/g00517/laws.FnOverlaps", spec := "fnOverlaps", unfollowed := true, recurses := true, apart := false }
def FnOverlapsSaid : Prop := fnOverlapsRow.holds Tryz.pinned (OpenSpec.ofChange fnOverlapsSpec)

/-- ITS FALSE NEIGHBOUR: 'it returns false'. Refute it at one input. -/
def fnOverlapsWrong : ChangeSpec := { name := "fnOverlaps", fn := fun _ => fun
  | [d] => { results := [.lit (.bool false)], args := [d] }
  | _ => none }
def FnOverlapsWrongFalsely : Prop := fnOverlapsRow.holds Tryz.pinned (OpenSpec.ofChange fnOverlapsWrong)

/-- 'laws.FnOrthogonal': WHATEVER THE INPUT: true; the input reads as it did. -/
def fnOrthogonalSpec : ChangeSpec := { name := "fnOrthogonal", fn := fun _ => fun
  | [d] => { results := [.lit (.bool true)], args := [d] }
  | _ => none }
def fnOrthogonalRow : OpenClaim := { program := "ytlaflibbnliefaagreat", sum := "8a31b9694ead3c1f2fdefcd2f2ed73abfc2322842a7d8705bf6d49886e5050dd", func := "loop.example/g00517/laws.FnOrthogonal", spec := "fnOrthogonal", unfollowed := true, recurses := true, apart := false }
def FnOrthogonalSaid : Prop := fnOrthogonalRow.holds Tryz.pinned (OpenSpec.ofChange fnOrthogonalSpec)

/-- ITS FALSE NEIGHBOUR: 'it returns false'. Refute it at one input. -/
def fnOrthogonalWrong : ChangeSpec := { name := "fnOrthogonal", fn := fun _ => fun
  | [d] => { results := [.lit (.bool false)], args := [d] }
  | _ => none }
def FnOrthogonalWrongFalsely : Prop := fnOrthogonalRow.holds Tryz.pinned (OpenSpec.ofChange fnOrthogonalWrong)

/-- 'laws.FnExactIsNormal': WHATEVER THE INPUT: true; the input reads as it did. -/
def fnExactIsNormalSpec : ChangeSpec := { name := "fnExactIsNormal", fn := fun _ => fun
  | [d1, d2] => { results := [.lit (.bool true)], args := [d1, d2] }
  | _ => none }
def fnExactIsNormalRow : OpenClaim := { program := "ytlaflibbnliefaagreat", sum := "8a31b9694ead3c1f2fdefcd2f2ed73abfc2322842a7d8705bf6d49886e5050dd", func := "loop.example/g00517/laws.FnExactIsNormal", spec := "fnExactIsNormal", unfollowed := true, recurses := true, loops := true, apart := false }
def FnExactIsNormalSaid : Prop := fnExactIsNormalRow.holds Tryz.pinned (OpenSpec.ofChange fnExactIsNormalSpec)

/-- ITS FALSE NEIGHBOUR: 'it returns false'. Refute it at one input. -/
def fnExactIsNormalWrong : ChangeSpec := { name := "fnExactIsNormal", fn := fun _ => fun
  | [d1, d2] => { results := [.lit (.bool false)], args := [d1, d2] }
  | _ => none }
def FnExactIsNormalWrongFalsely : Prop := fnExactIsNormalRow.holds Tryz.pinned (OpenSpec.ofChange fnExactIsNormalWrong)

/-- 'laws.FnMachine': WHATEVER THE INPUT: true; the input reads as it did. -/
def fnMachineSpec : ChangeSpec := { name := "fnMachine", fn := fun _ => fun
  | [d] => { results := [.lit (.bool true)], args := [d] }
  | _ => none }
def fnMachineRow : OpenClaim := { program := "ytlaflibbnliefaagreat", sum := "8a31b9694ead3c1f2fdefcd2f2ed73abfc2322842a7d8705bf6d49886e5050dd", func := "loop.example/g00517/laws.FnMachine", spec := "fnMachine", unfollowed := true, recurses := true, apart := false }
def FnMachineSaid : Prop := fnMachineRow.holds Tryz.pinned (OpenSpec.ofChange fnMachineSpec)

/-- ITS FALSE NEIGHBOUR: 'it returns false'. Refute it at one input. -/
def fnMachineWrong : ChangeSpec := { name := "fnMachine", fn := fun _ => fun
  | [d] => { results := [.lit (.bool false)], args := [d] }
  | _ => none }
def FnMachineWrongFalsely : Prop := fnMachineRow.holds Tryz.pinned (OpenSpec.ofChange fnMachineWrong)

/-- 'laws.FnConfluent': WHATEVER THE INPUT: true; the input reads as it did. -/
def fnConfluentSpec : ChangeSpec := { name := "fnConfluent", fn := fun _ => fun
  | [d] => { results := [.lit (.bool true)], args := [d] }
  | _ => none }
def fnConfluentRow : OpenClaim := { program := "ytlaflibbnliefaagreat", sum := "8a31b9694ead3c1f2fdefcd2f2ed73abfc2322842a7d8705bf6d49886e5050dd", func := "loop.example/g00517/laws.FnConfluent", spec := "fnConfluent", unfollowed := true, recurses := true, apart := false }
def FnConfluentSaid : Prop := fnConfluentRow.holds Tryz.pinned (OpenSpec.ofChange fnConfluentSpec)

/-- ITS FALSE NEIGHBOUR: 'it returns false'. Refute it at one input. -/
def fnConfluentWrong : ChangeSpec := { name := "fnConfluent", fn := fun _ => fun
  | [d] => { results := [.lit (.bool false)], args := [d] }
  | _ => none }
def FnConfluentWrongFalsely : Prop := fnConfluentRow.holds Tryz.pinned (OpenSpec.ofChange fnConfluentWrong)

/-- 'laws.FnExactIsOrthogonal': WHATEVER THE INPUT: true; the input reads as it did. -/
def fnExactIsOrthogonalSpec : ChangeSpec := { name := "fnExactIsOrthogonal", fn := fun _ => fun
  | [d] => { results := [.lit (.bool true)], args := [d] }
  | _ => none }
def fnExactIsOrthogonalRow : OpenClaim := { program := "ytlaflibbnliefaagreat", sum := "8a31b9694ead3c1f2fdefcd2f2ed73abfc2322842a7d8705bf6d49886e5050dd", func := "loop.example/g00517/laws.FnExactIsOrthogonal", spec := "fnExactIsOrthogonal", unfollowed := true, recurses := true, loops := true, apart := false }
def FnExactIsOrthogonalSaid : Prop := fnExactIsOrthogonalRow.holds Tryz.pinned (OpenSpec.ofChange fnExactIsOrthogonalSpec)

/-- ITS FALSE NEIGHBOUR: 'it returns false'. Refute it at one input. -/
def fnExactIsOrthogonalWrong : ChangeSpec := { name := "fnExactIsOrthogonal", fn := fun _ => fun
  | [d] => { results := [.lit (.bool false)], args := [d] }
  | _ => none }
def FnExactIsOrthogonalWrongFalsely : Prop := fnExactIsOrthogonalRow.holds Tryz.pinned (OpenSpec.ofChange fnExactIsOrthogonalWrong)

/- THE SECOND FORM. 'bulk': how many values and letters a reading holds, each counted each time it is reached (what is shared counts as often as it is met; a slice's spare places count too). A statement '..UptoSaid' is the law's where the arguments, and the package variables that the reading takes, are together of bulk at most 1048576: NARROWER than '..Said'. Prove '..Said' where nothing that the law and all that it calls make is longer than what came in: it says more and counts as full. Else prove '..UptoSaid'. A law counts once. -/
mutual
def uptoBulk {H : Type} : DataW H → Nat
  | .lit (.string bytes) => bytes.length + 1
  | .lit _ => 1
  | .nil => 1
  | .ptr d => uptoBulk d + 1
  | .slice elems spare => uptoBulkAll elems + uptoBulkAll spare + 1
  | .agg parts => uptoBulkAll parts + 1
  | .iface _ d => uptoBulk d + 1
  | .map entries => uptoBulkEntries entries + 1
  | .held _ => 1
def uptoBulkAll {H : Type} : List (DataW H) → Nat
  | [] => 0
  | d :: r => uptoBulk d + uptoBulkAll r
def uptoBulkEntries {H : Type} : List (Lit × DataW H) → Nat
  | [] => 0
  | x :: r => uptoBulkEntry x + uptoBulkEntries r
def uptoBulkEntry {H : Type} : Lit × DataW H → Nat
  | (.string bytes, d) => bytes.length + uptoBulk d + 1
  | (_, d) => uptoBulk d + 1
 end
def uptoSmall : (H : Type) → List (DataW H) → Bool := fun _ ds => decide (uptoBulkAll ds ≤ 1048576)
def OpenSpec.upto (s : _root_.Go.ChangeSpec) : _root_.Go.OpenSpec := { _root_.Go.OpenSpec.ofChange s with cond := some uptoSmall }

/-- 'laws.FnSymbolic', WHERE WHAT IT READS IS OF BULK AT MOST 1048576: true; the input reads as it did. -/
def fnSymbolicUptoRow : OpenClaim := { program := "ytlaflibbnliefaagreat", sum := "8a31b9694ead3c1f2fdefcd2f2ed73abfc2322842a7d8705bf6d49886e5050dd", func := "loop.example/g00517/laws.FnSymbolic", spec := "fnSymbolic", unfollowed := true, recurses := true, apart := false, narrowed := true }
def FnSymbolicUptoSaid : Prop := fnSymbolicUptoRow.holds Tryz.pinned (OpenSpec.upto fnSymbolicSpec)

/-- 'laws.FnRedexes', WHERE WHAT IT READS IS OF BULK AT MOST 1048576: true; the input reads as it did. -/
def fnRedexesUptoRow : OpenClaim := { program := "ytlaflibbnliefaagreat", sum := "8a31b9694ead3c1f2fdefcd2f2ed73abfc2322842a7d8705bf6d49886e5050dd", func := "loop.example/g00517/laws.FnRedexes", spec := "fnRedexes", unfollowed := true, recurses := true, apart := false, narrowed := true }
def FnRedexesUptoSaid : Prop := fnRedexesUptoRow.holds Tryz.pinned (OpenSpec.upto fnRedexesSpec)

/-- 'laws.FnExactRootRule', WHERE WHAT IT READS IS OF BULK AT MOST 1048576: true; the input reads as it did. -/
def fnExactRootRuleUptoRow : OpenClaim := { program := "ytlaflibbnliefaagreat", sum := "8a31b9694ead3c1f2fdefcd2f2ed73abfc2322842a7d8705bf6d49886e5050dd", func := "loop.example/g00517/laws.FnExactRootRule", spec := "fnExactRootRule", unfollowed := true, recurses := true, loops := true, apart := false, narrowed := true }
def FnExactRootRuleUptoSaid : Prop := fnExactRootRuleUptoRow.holds Tryz.pinned (OpenSpec.upto fnExactRootRuleSpec)

/-- 'laws.FnMachineSteps', WHERE WHAT IT READS IS OF BULK AT MOST 1048576: true; the input reads as it did. -/
def fnMachineStepsUptoRow : OpenClaim := { program := "ytlaflibbnliefaagreat", sum := "8a31b9694ead3c1f2fdefcd2f2ed73abfc2322842a7d8705bf6d49886e5050dd", func := "loop.example/g00517/laws.FnMachineSteps", spec := "fnMachineSteps", unfollowed := true, recurses := true, apart := false, narrowed := true }
def FnMachineStepsUptoSaid : Prop := fnMachineStepsUptoRow.holds Tryz.pinned (OpenSpec.upto fnMachineStepsSpec)

/-- 'laws.FnSteps', WHERE WHAT IT READS IS OF BULK AT MOST 1048576: true; the input reads as it did. -/
def fnStepsUptoRow : OpenClaim := { program := "ytlaflibbnliefaagreat", sum := "8a31b9694ead3c1f2fdefcd2f2ed73abfc2322842a7d8705bf6d49886e5050dd", func := "loop.example/g00517/laws.FnSteps", spec := "fnSteps", unfollowed := true, recurses := true, apart := false, narrowed := true }
def FnStepsUptoSaid : Prop := fnStepsUptoRow.holds Tryz.pinned (OpenSpec.upto fnStepsSpec)

/-- 'laws.FnOverlaps', WHERE WHAT IT READS IS OF BULK AT MOST 1048576: true; the input reads as it did. -/
def fnOverlapsUptoRow : OpenClaim := { program := "ytlaflibbnliefaagreat", sum := "8a31b9694ead3c1f2fdefcd2f2ed73abfc2322842a7d8705bf6d49886e5050dd", func := "loop.example/g00517/laws.FnOverlaps", spec := "fnOverlaps", unfollowed := true, recurses := true, apart := false, narrowed := true }
def FnOverlapsUptoSaid : Prop := fnOverlapsUptoRow.holds Tryz.pinned (OpenSpec.upto fnOverlapsSpec)

/-- 'laws.FnOrthogonal', WHERE WHAT IT READS IS OF BULK AT MOST 1048576: true; the input reads as it did. -/
def fnOrthogonalUptoRow : OpenClaim := { program := "ytlaflibbnliefaagreat", sum := "8a31b9694ead3c1f2fdefcd2f2ed73abfc2322842a7d8705bf6d49886e5050dd", func := "loop.example/g00517/laws.FnOrthogonal", spec := "fnOrthogonal", unfollowed := true, recurses := true, apart := false, narrowed := true }
def FnOrthogonalUptoSaid : Prop := fnOrthogonalUptoRow.holds Tryz.pinned (OpenSpec.upto fnOrthogonalSpec)

/-- 'laws.FnExactIsNormal', WHERE WHAT IT READS IS OF BULK AT MOST 1048576: true; the input reads as it did. -/
def fnExactIsNormalUptoRow : OpenClaim := { program := "ytlaflibbnliefaagreat", sum := "8a31b9694ead3c1f2fdefcd2f2ed73abfc2322842a7d8705bf6d49886e5050dd", func := "loop.example/g00517/laws.FnExactIsNormal", spec := "fnExactIsNormal", unfollowed := true, recurses := true, loops := true, apart := false, narrowed := true }
def FnExactIsNormalUptoSaid : Prop := fnExactIsNormalUptoRow.holds Tryz.pinned (OpenSpec.upto fnExactIsNormalSpec)

/-- 'laws.FnMachine', WHERE WHAT IT READS IS OF BULK AT MOST 1048576: true; the input reads as it did. -/
def fnMachineUptoRow : OpenClaim := { program := "ytlaflibbnliefaagreat", sum := "8a31b9694ead3c1f2fdefcd2f2ed73abfc2322842a7d8705bf6d49886e5050dd", func := "loop.example/g00517/laws.FnMachine", spec := "fnMachine", unfollowed := true, recurses := true, apart := false, narrowed := true }
def FnMachineUptoSaid : Prop := fnMachineUptoRow.holds Tryz.pinned (OpenSpec.upto fnMachineSpec)

/-- 'laws.FnConfluent', WHERE WHAT IT READS IS OF BULK AT MOST 1048576: true; the input reads as it did. -/
def fnConfluentUptoRow : OpenClaim := { program := "ytlaflibbnliefaagreat", sum := "8a31b9694ead3c1f2fdefcd2f2ed73abfc2322842a7d8705bf6d49886e5050dd", func := "loop.example/g00517/laws.FnConfluent", spec := "fnConfluent", unfollowed := true, recurses := true, apart := false, narrowed := true }
def FnConfluentUptoSaid : Prop := fnConfluentUptoRow.holds Tryz.pinned (OpenSpec.upto fnConfluentSpec)

/-- 'laws.FnExactIsOrthogonal', WHERE WHAT IT READS IS OF BULK AT MOST 1048576: true; the input reads as it did. -/
def fnExactIsOrthogonalUptoRow : OpenClaim := { program := "ytlaflibbnliefaagreat", sum := "8a31b9694ead3c1f2fdefcd2f2ed73abfc2322842a7d8705bf6d49886e5050dd", func := "loop.example/g00517/laws.FnExactIsOrthogonal", spec := "fnExactIsOrthogonal", unfollowed := true, recurses := true, loops := true, apart := false, narrowed := true }
def FnExactIsOrthogonalUptoSaid : Prop := fnExactIsOrthogonalUptoRow.holds Tryz.pinned (OpenSpec.upto fnExactIsOrthogonalSpec)

end Rows
end Go.Proofs.YtlaflibbnliefaaGreat
