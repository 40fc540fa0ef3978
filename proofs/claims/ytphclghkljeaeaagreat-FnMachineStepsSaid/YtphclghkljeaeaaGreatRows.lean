/-
  NARROWER THAN 'FOR EVERY INPUT', by the rows' own cells (each row's printed sentence says how): FnExactExploreSpace: loops.
  DERIVED. THE GIVEN ROWS OF THIS SEAT. 5 by the template 'for every input the law returns true; each argument reads behind the call as it read before'; 0 by the template 'total and deterministic' (their statements: YtphclghkljeaeaaGreatTotals.lean).
  GIVEN WITH THE SEED: the statements are not yours to turn. If you find one false, say at which input.
  Laid BY PROGRAM, IN A SANDBOX (cutbox-rows.mjs): the forced cells as the released guide's own fill.sh prints them over the translation 38cd6030ceb08154… (all of the seat's roots in one cut). By AI agents, Wed Nov 11 2026. No macro, syntax, notation, axiom, sorry.
-/
import Derived.Test.YtphclghkljeaeaaGreatChecked
import GoSem.Claim
import GoSem.ClaimJoined
import GoSem.ClaimMapViews
import Derived.JoinedTies
import Derived.KernelRfl
namespace Go.Proofs.YtphclghkljeaeaaGreat
/- THE CELL 'sum', in the pinned program and in every row, IS THE sha256 OF THE DUMP (.gsa) THAT YtphclghkljeaeaaGreatProg.lean LOADS. Nothing in Lean hashes anything: it is a label: what it is worth is what the hold of that sum in a sandbox is worth. -/
noncomputable def Tryz.pinned : Pinned := { name := "ytphclghkljeaeaagreat", sum := "38cd6030ceb08154b60ad4c2303cb29c6726dea91058fbc800861dd9fa81c63f", checked := Tryz.checked }
namespace Rows
def none {H : Type} : Left H := { results := [], args := [] }

/-- 'laws.FnSpace': WHATEVER THE INPUT: true; the input reads as it did. -/
def fnSpaceSpec : ChangeSpec := { name := "fnSpace", fn := fun _ => fun
  | [d] => { results := [.lit (.bool true)], args := [d] }
  | _ => none }
def fnSpaceRow : OpenClaim := { program := "ytphclghkljeaeaagreat", sum := "38cd6030ceb08154b60ad4c2303cb29c6726dea91058fbc800861dd9fa81c63f", func := "loop.example/g00517/laws.FnSpace", spec := "fnSpace", unfollowed := true, recurses := true, apart := false }
def FnSpaceSaid : Prop := fnSpaceRow.holds Tryz.pinned (OpenSpec.ofChange fnSpaceSpec)

/-- ITS FALSE NEIGHBOUR: 'it returns false'. Refute it at one input. -/
def fnSpaceWrong : ChangeSpec := { name := "fnSpace", fn := fun _ => fun
  | [d] => { results := [.lit (.bool false)], args := [d] }
  | _ => none }
def FnSpaceWrongFalsely : Prop := fnSpaceRow.holds Tryz.pinned (OpenSpec.ofChange fnSpaceWrong)

/-- 'laws.FnMachineSteps': WHATEVER THE INPUT: true; the input reads as it did. -/
def fnMachineStepsSpec : ChangeSpec := { name := "fnMachineSteps", fn := fun _ => fun
  | [d] => { results := [.lit (.bool true)], args := [d] }
  | _ => none }
def fnMachineStepsRow : OpenClaim := { program := "ytphclghkljeaeaagreat", sum := "38cd6030ceb08154b60ad4c2303cb29c6726dea91058fbc800861dd9fa81c63f", func := "loop.example/g00517/laws.FnMachineSteps", spec := "fnMachineSteps", unfollowed := true, recurses := true, apart := false }
def FnMachineStepsSaid : Prop := fnMachineStepsRow.holds Tryz.pinned (OpenSpec.ofChange fnMachineStepsSpec)

/-- ITS FALSE NEIGHBOUR: 'it returns false'. Refute it at one input. -/
def fnMachineStepsWrong : ChangeSpec := { name := "fnMachineSteps", fn := fun _ => fun
  | [d] => { results := [.lit (.bool false)], args := [d] }
  | _ => none }
def FnMachineStepsWrongFalsely : Prop := fnMachineStepsRow.holds Tryz.pinned (OpenSpec.ofChange fnMachineStepsWrong)

/-- 'laws.FnMachine': WHATEVER THE INPUT: true; the input reads as it did. -/
def fnMachineSpec : ChangeSpec := { name := "fnMachine", fn := fun _ => fun
  | [d] => { results := [.lit (.bool true)], args := [d] }
  | _ => none }
def fnMachineRow : OpenClaim := { program := "ytphclghkljeaeaagreat", sum := "38cd6030ceb08154b60ad4c2303cb29c6726dea91058fbc800861dd9fa81c63f", func := "loop.example/g00517/laws.FnMachine", spec := "fnMachine", unfollowed := true, recurses := true, apart := false }
def FnMachineSaid : Prop := fnMachineRow.holds Tryz.pinned (OpenSpec.ofChange fnMachineSpec)

/-- ITS FALSE NEIGHBOUR: 'it returns false'. Refute it at one input. -/
def fnMachineWrong : ChangeSpec := { name := "fnMachine", fn := fun _ => fun
  | [d] => { results := [.lit (.bool false)], args := [d] }
  | _ => none }
def FnMachineWrongFalsely : Prop := fnMachineRow.holds Tryz.pinned (OpenSpec.ofChange fnMachineWrong)

/-- 'laws.FnConfluent': WHATEVER THE INPUT: true; the input reads as it did. -/
def fnConfluentSpec : ChangeSpec := { name := "fnConfluent", fn := fun _ => fun
  | [d] => { results := [.lit (.bool true)], args := [d] }
  | _ => none }
def fnConfluentRow : OpenClaim := { program := "ytphclghkljeaeaagreat", sum := "38cd6030ceb08154b60ad4c2303cb29c6726dea91058fbc800861dd9fa81c63f", func := "loop.example/g00517/laws.FnConfluent", spec := "fnConfluent", unfollowed := true, recurses := true, apart := false }
def FnConfluentSaid : Prop := fnConfluentRow.holds Tryz.pinned (OpenSpec.ofChange fnConfluentSpec)

/-- ITS FALSE NEIGHBOUR: 'it returns false'. Refute it at one input. -/
def fnConfluentWrong : ChangeSpec := { name := "fnConfluent", fn := fun _ => fun
  | [d] => { results := [.lit (.bool false)], args := [d] }
  | _ => none }
def FnConfluentWrongFalsely : Prop := fnConfluentRow.holds Tryz.pinned (OpenSpec.ofChange fnConfluentWrong)

/-- 'laws.FnExactExploreSpace': WHATEVER THE INPUT: true; the input reads as it did. -/
def fnExactExploreSpaceSpec : ChangeSpec := { name := "fnExactExploreSpace", fn := fun _ => fun
  | [d1, d2] => { results := [.lit (.bool true)], args := [d1, d2] }
  | _ => none }
def fnExactExploreSpaceRow : OpenClaim := { program := "ytphclghkljeaeaagreat", sum := "38cd6030ceb08154b60ad4c2303cb29c6726dea91058fbc800861dd9fa81c63f", func := "loop.example/g00517/laws.FnExactExploreSpace", spec := "fnExactExploreSpace", unfollowed := true, recurses := true, loops := true, apart := false }
def FnExactExploreSpaceSaid : Prop := fnExactExploreSpaceRow.holds Tryz.pinned (OpenSpec.ofChange fnExactExploreSpaceSpec)

/-- ITS FALSE NEIGHBOUR: 'it returns false'. Refute it at one input. -/
def fnExactExploreSpaceWrong : ChangeSpec := { name := "fnExactExploreSpace", fn := fun _ => fun
  | [d1, d2] => { results := [.lit (.bool false)], args := [d1, d2] }
  | _ => none }
def FnExactExploreSpaceWrongFalsely : Prop := fnExactExploreSpaceRow.holds Tryz.pinned (OpenSpec.ofChange fnExactExploreSpaceWrong)

/- THE SECOND FORM. 'bulk': how many values and letters a reading holds, each counted each time it is reached (what is shared counts as often as it is met; a slice's spare places count too). A statement '..UptoSaid' is the law's where the arguments, and the package variables that the reading takes, are together of bulk at most 1048576: NARROWER than '..Said'. Prove '..Said' where nothing that the law and all that it calls make is longer than what came in: it says more and counts as full. Else prove '..UptoSaid'. A law counts once. -/
mutual
def uptoBulk {H : Type} : DataW H → Nat
  | .lit (.string bytes) => bytes.length + 1
  | .lit _ => 1
  | .nil => 1
  | .ptr d => uptoBulk d + 1
  | .slice elems spare => uptoBulkAll elems + uptoBulkAll spare + 1
  | .agg parts => uptoBulkAll parts + 1
  | .iface _ d => uptoBulk d + 1
  | .map entries => uptoBulkEntries entries + 1
  | .held _ => 1
def uptoBulkAll {H : Type} : List (DataW H) → Nat
  | [] => 0
  | d :: r => uptoBulk d + uptoBulkAll r
def uptoBulkEntries {H : Type} : List (Lit × DataW H) → Nat
  | [] => 0
  | x :: r => uptoBulkEntry x + uptoBulkEntries r
def uptoBulkEntry {H : Type} : Lit × DataW H → Nat
  | (.string bytes, d) => bytes.length + uptoBulk d + 1
  | (_, d) => uptoBulk d + 1
 end
def uptoSmall : (H : Type) → List (DataW H) → Bool := fun _ ds => decide (uptoBulkAll ds ≤ 1048576)
def OpenSpec.upto (s : _root_.Go.ChangeSpec) : _root_.Go.OpenSpec := { _root_.Go.OpenSpec.ofChange s with cond := some uptoSmall }

/-- 'laws.FnSpace', WHERE WHAT IT READS IS OF BULK AT MOST 1048576: true; the input reads as it did. -/
def fnSpaceUptoRow : OpenClaim := { program := "ytphclghkljeaeaagreat", sum := "38cd6030ceb08154b60ad4c2303cb29c6726dea91058fbc800861dd9fa81c63f", func := "loop.example/g00517/laws.FnSpace", spec := "fnSpace", unfollowed := true, recurses := true, apart := false, narrowed := true }
def FnSpaceUptoSaid : Prop := fnSpaceUptoRow.holds Tryz.pinned (OpenSpec.upto fnSpaceSpec)

/-- 'laws.FnMachineSteps', WHERE WHAT IT READS IS OF BULK AT MOST 1048576: true; the input reads as it did. -/
def fnMachineStepsUptoRow : OpenClaim := { program := "ytphclghkljeaeaagreat", sum := "38cd6030ceb08154b60ad4c2303cb29c6726dea91058fbc800861dd9fa81c63f", func := "loop.example/g00517/laws.FnMachineSteps", spec := "fnMachineSteps", unfollowed := true, recurses := true, apart := false, narrowed := true }
def FnMachineStepsUptoSaid : Prop := fnMachineStepsUptoRow.holds Tryz.pinned (OpenSpec.upto fnMachineStepsSpec)

/-- 'laws.FnMachine', WHERE WHAT IT READS IS OF BULK AT MOST 1048576: true; the input reads as it did. -/
def fnMachineUptoRow : OpenClaim := { program := "ytphclghkljeaeaagreat", sum := "38cd6030ceb08154b60ad4c2303cb29c6726dea91058fbc800861dd9fa81c63f", func := "loop.example/g00517/laws.FnMachine", spec := "fnMachine", unfollowed := true, recurses := true, apart := false, narrowed := true }
def FnMachineUptoSaid : Prop := fnMachineUptoRow.holds Tryz.pinned (OpenSpec.upto fnMachineSpec)

/-- 'laws.FnConfluent', WHERE WHAT IT READS IS OF BULK AT MOST 1048576: true; the input reads as it did. -/
def fnConfluentUptoRow : OpenClaim := { program := "ytphclghkljeaeaagreat", sum := "38cd6030ceb08154b60ad4c2303cb29c6726dea91058fbc800861dd9fa81c63f", func := "loop.example/g00517/laws.FnConfluent", spec := "fnConfluent", unfollowed := true, recurses := true, apart := false, narrowed := true }
def FnConfluentUptoSaid : Prop := fnConfluentUptoRow.holds Tryz.pinned (OpenSpec.upto fnConfluentSpec)

/-- 'laws.FnExactExploreSpace', WHERE WHAT IT READS IS OF BULK AT MOST 1048576: true; the input reads as it did. -/
def fnExactExploreSpaceUptoRow : OpenClaim := { program := "ytphclghkljeaeaagreat", sum := "38cd6030ceb08154b60ad4c2303cb29c6726dea91058fbc800861dd9fa81c63f", func := "loop.example/g00517/laws.FnExactExploreSpace", spec := "fnExactExploreSpace", unfollowed := true, recurses := true, loops := true, apart := false, narrowed := true }
def FnExactExploreSpaceUptoSaid : Prop := fnExactExploreSpaceUptoRow.holds Tryz.pinned (OpenSpec.upto fnExactExploreSpaceSpec)

end Rows
end Go.Proofs.YtphclghkljeaeaaGreat
