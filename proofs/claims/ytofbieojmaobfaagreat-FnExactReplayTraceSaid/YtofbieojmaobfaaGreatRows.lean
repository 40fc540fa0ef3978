/-
  NARROWER THAN 'FOR EVERY INPUT', by the rows' own cells (each row's printed sentence says how): FnExactIsConfluent: loops · FnExactNormalForms: loops · FnExactReplayTrace: loops · FnExactExploreSpace: loops · FnExactRunMachine: loops · FnExactStepMachine: loops.
  DERIVED. THE GIVEN ROWS OF THIS SEAT. 6 by the template 'for every input the law returns true; each argument reads behind the call as it read before'; 0 by the template 'total and deterministic' (their statements: YtofbieojmaobfaaGreatTotals.lean).
  GIVEN WITH THE SEED: the statements are not yours to turn. If you find one false, say at which input.
  Laid BY PROGRAM, IN A SANDBOX (cutbox-rows.mjs): the forced cells as the released guide's own fill.sh prints them over the translation 835385a886866ccf… (all of the seat's roots in one cut). By AI agents, Wed Nov 11 2026. No macro, syntax, notation, axiom, sorry.
-/
import Derived.Test.YtofbieojmaobfaaGreatChecked
import GoSem.Claim
import GoSem.ClaimJoined
import GoSem.ClaimMapViews
import Derived.JoinedTies
import Derived.KernelRfl
namespace Go.Proofs.YtofbieojmaobfaaGreat
/- THE CELL 'sum', in the pinned program and in every row, IS THE sha256 OF THE DUMP (.gsa) THAT YtofbieojmaobfaaGreatProg.lean LOADS. Nothing in Lean hashes anything: it is a label: what it is worth is what the hold of that sum in a sandbox is worth. -/
noncomputable def Tryz.pinned : Pinned := { name := "ytofbieojmaobfaagreat", sum := "835385a886866ccffe17657014beda03692ec555b8dbfdf3a3c77494436f6b8a", checked := Tryz.checked }
namespace Rows
def none {H : Type} : Left H := { results := [], args := [] }

/-- 'laws.FnExactIsConfluent': WHATEVER THE INPUT: true; the input reads as it did. -/
def fnExactIsConfluentSpec : ChangeSpec := { name := "fnExactIsConfluent", fn := fun _ => fun
  | [d1, d2] => { results := [.lit (.bool true)], args := [d1, d2] }
  | _ => none }
def fnExactIsConfluentRow : OpenClaim := { program := "ytofbieojmaobfaagreat", sum := "835385a886866ccffe17657014beda03692ec555b8dbfdf3a3c77494436f6b8a", func := "loop.example/g00517/laws.FnExactIsConfluent", spec := "fnExactIsConfluent", unfollowed := true, recurses := true, loops := true, apart := false }
def FnExactIsConfluentSaid : Prop := fnExactIsConfluentRow.holds Tryz.pinned (OpenSpec.ofChange fnExactIsConfluentSpec)

/-- ITS FALSE NEIGHBOUR: 'it returns false'. Refute it at one input. -/
def fnExactIsConfluentWrong : ChangeSpec := { name := "fnExactIsConfluent", fn := fun _ => fun
  | [d1, d2] => { results := [.lit (.bool false)], args := [d1, d2] }
  | _ => none }
def FnExactIsConfluentWrongFalsely : Prop := fnExactIsConfluentRow.holds Tryz.pinned (OpenSpec.ofChange fnExactIsConfluentWrong)

/-- 'laws.FnExactNormalForms': WHATEVER THE INPUT: true; the input reads as it did. -/
def fnExactNormalFormsSpec : ChangeSpec := { name := "fnExactNormalForms", fn := fun _ => fun
  | [d1, d2] => { results := [.lit (.bool true)], args := [d1, d2] }
  | _ => none }
def fnExactNormalFormsRow : OpenClaim := { program := "ytofbieojmaobfaagreat", sum := "835385a886866ccffe17657014beda03692ec555b8dbfdf3a3c77494436f6b8a", func := "loop.example/g00517/laws.FnExactNormalForms", spec := "fnExactNormalForms", unfollowed := true, recurses := true, loops := true, apart := false }
def FnExactNormalFormsSaid : Prop := fnExactNormalFormsRow.holds Tryz.pinned (OpenSpec.ofChange fnExactNormalFormsSpec)

/-- ITS FALSE NEIGHBOUR: 'it returns false'. Refute it at one input. -/
def fnExactNormalFormsWrong : ChangeSpec := { name := "fnExactNormalForms", fn := fun _ => fun
  | [d1, d2] => { results := [.lit (.bool false)], args := [d1, d2] }
  | _ => none }
def FnExactNormalFormsWrongFalsely : Prop := fnExactNormalFormsRow.holds Tryz.pinned (OpenSpec.ofChange fnExactNormalFormsWrong)

/-- 'laws.FnExactReplayTrace': WHATEVER THE INPUT: true; the input reads as it did. -/
def fnExactReplayTraceSpec : ChangeSpec := { name := "fnExactReplayTrace", fn := fun _ => fun
  | [d1, d2, d3] => { results := [.lit (.bool true)], args := [d1, d2, d3] }
  | _ => none }
def fnExactReplayTraceRow : OpenClaim := { program := "ytofbieojmaobfaagreat", sum := "835385a886866ccffe17657014beda03692ec555b8dbfdf3a3c77494436f6b8a", func := "loop.example/g00517/laws.FnExactReplayTrace", spec := "fnExactReplayTrace", unfollowed := true, recurses := true, loops := true, apart := false }
def FnExactReplayTraceSaid : Prop := fnExactReplayTraceRow.holds Tryz.pinned (OpenSpec.ofChange fnExactReplayTraceSpec)

/-- ITS FALSE NEIGHBOUR: 'it returns false'. Refute it at one input. -/
def fnExactReplayTraceWrong : ChangeSpec := { name := "fnExactReplayTrace", fn := fun _ => fun
  | [d1, d2, d3] => { results := [.lit (.bool false)], args := [d1, d2, d3] }
  | _ => none }
def FnExactReplayTraceWrongFalsely : Prop := fnExactReplayTraceRow.holds Tryz.pinned (OpenSpec.ofChange fnExactReplayTraceWrong)

/-- 'laws.FnExactExploreSpace': WHATEVER THE INPUT: true; the input reads as it did. -/
def fnExactExploreSpaceSpec : ChangeSpec := { name := "fnExactExploreSpace", fn := fun _ => fun
  | [d1, d2] => { results := [.lit (.bool true)], args := [d1, d2] }
  | _ => none }
def fnExactExploreSpaceRow : OpenClaim := { program := "ytofbieojmaobfaagreat", sum := "835385a886866ccffe17657014beda03692ec555b8dbfdf3a3c77494436f6b8a", func := "loop.example/g00517/laws.FnExactExploreSpace", spec := "fnExactExploreSpace", unfollowed := true, recurses := true, loops := true, apart := false }
def FnExactExploreSpaceSaid : Prop := fnExactExploreSpaceRow.holds Tryz.pinned (OpenSpec.ofChange fnExactExploreSpaceSpec)

/-- ITS FALSE NEIGHBOUR: 'it returns false'. Refute it at one input. -/
def fnExactExploreSpaceWrong : ChangeSpec := { name := "fnExactExploreSpace", fn := fun _ => fun
  | [d1, d2] => { results := [.lit (.bool false)], args := [d1, d2] }
  | _ => none }
def FnExactExploreSpaceWrongFalsely : Prop := fnExactExploreSpaceRow.holds Tryz.pinned (OpenSpec.ofChange fnExactExploreSpaceWrong)

/-- 'laws.FnExactRunMachine': WHATEVER THE INPUT: true; the input reads as it did. -/
def fnExactRunMachineSpec : ChangeSpec := { name := "fnExactRunMachine", fn := fun _ => fun
  | [d1, d2, d3] => { results := [.lit (.bool true)], args := [d1, d2, d3] }
  | _ => none }
def fnExactRunMachineRow : OpenClaim := { program := "ytofbieojmaobfaagreat", sum := "835385a886866ccffe17657014beda03692ec555b8dbfdf3a3c77494436f6b8a", func := "loop.example/g00517/laws.FnExactRunMachine", spec := "fnExactRunMachine", unfollowed := true, recurses := true, loops := true, apart := false }
def FnExactRunMachineSaid : Prop := fnExactRunMachineRow.holds Tryz.pinned (OpenSpec.ofChange fnExactRunMachineSpec)

/-- ITS FALSE NEIGHBOUR: 'it returns false'. Refute it at one input. -/
def fnExactRunMachineWrong : ChangeSpec := { name := "fnExactRunMachine", fn := fun _ => fun
  | [d1, d2, d3] => { results := [.lit (.bool false)], args := [d1, d2, d3] }
  | _ => none }
def FnExactRunMachineWrongFalsely : Prop := fnExactRunMachineRow.holds Tryz.pinned (OpenSpec.ofChange fnExactRunMachineWrong)

/-- 'laws.FnExactStepMachine': WHATEVER THE INPUT: true; the input reads as it did. -/
def fnExactStepMachineSpec : ChangeSpec := { name := "fnExactStepMachine", fn := fun _ => fun
  | [d1, d2] => { results := [.lit (.bool true)], args := [d1, d2] }
  | _ => none }
def fnExactStepMachineRow : OpenClaim := { program := "ytofbieojmaobfaagreat", sum := "835385a886866ccffe17657014beda03692ec555b8dbfdf3a3c77494436f6b8a", func := "loop.example/g00517/laws.FnExactStepMachine", spec := "fnExactStepMachine", unfollowed := true, recurses := true, loops := true, apart := false }
def FnExactStepMachineSaid : Prop := fnExactStepMachineRow.holds Tryz.pinned (OpenSpec.ofChange fnExactStepMachineSpec)

/-- ITS FALSE NEIGHBOUR: 'it returns false'. Refute it at one input. -/
def fnExactStepMachineWrong : ChangeSpec := { name := "fnExactStepMachine", fn := fun _ => fun
  | [d1, d2] => { results := [.lit (.bool false)], args := [d1, d2] }
  | _ => none }
def FnExactStepMachineWrongFalsely : Prop := fnExactStepMachineRow.holds Tryz.pinned (OpenSpec.ofChange fnExactStepMachineWrong)

/- THE SECOND FORM. 'bulk': how many values and letters a reading holds, each counted each time it is reached (what is shared counts as often as it is met; a slice's spare places count too). A statement '..UptoSaid' is the law's where the arguments, and the package variables that the reading takes, are together of bulk at most 1048576: NARROWER than '..Said'. Prove '..Said' where nothing that the law and all that it calls make is longer than what came in: it says more and counts as full. Else prove '..UptoSaid'. A law counts once. -/
mutual
def uptoBulk {H : Type} : DataW H → Nat
  | .lit (.string bytes) => bytes.length + 1
  | .lit _ => 1
  | .nil => 1
  | .ptr d => uptoBulk d + 1
  | .slice elems spare => uptoBulkAll elems + uptoBulkAll spare + 1
  | .agg parts => uptoBulkAll parts + 1
  | .iface _ d => uptoBulk d + 1
  | .map entries => uptoBulkEntries entries + 1
  | .held _ => 1
def uptoBulkAll {H : Type} : List (DataW H) → Nat
  | [] => 0
  | d :: r => uptoBulk d + uptoBulkAll r
def uptoBulkEntries {H : Type} : List (Lit × DataW H) → Nat
  | [] => 0
  | x :: r => uptoBulkEntry x + uptoBulkEntries r
def uptoBulkEntry {H : Type} : Lit × DataW H → Nat
  | (.string bytes, d) => bytes.length + uptoBulk d + 1
  | (_, d) => uptoBulk d + 1
 end
def uptoSmall : (H : Type) → List (DataW H) → Bool := fun _ ds => decide (uptoBulkAll ds ≤ 1048576)
def OpenSpec.upto (s : _root_.Go.ChangeSpec) : _root_.Go.OpenSpec := { _root_.Go.OpenSpec.ofChange s with cond := some uptoSmall }

/-- 'laws.FnExactIsConfluent', WHERE WHAT IT READS IS OF BULK AT MOST 1048576: true; the input reads as it did. -/
def fnExactIsConfluentUptoRow : OpenClaim := { program := "ytofbieojmaobfaagreat", sum := "835385a886866ccffe17657014beda03692ec555b8dbfdf3a3c77494436f6b8a", func := "loop.example/g00517/laws.FnExactIsConfluent", spec := "fnExactIsConfluent", unfollowed := true, recurses := true, loops := true, apart := false, narrowed := true }
def FnExactIsConfluentUptoSaid : Prop := fnExactIsConfluentUptoRow.holds Tryz.pinned (OpenSpec.upto fnExactIsConfluentSpec)

/-- 'laws.FnExactNormalForms', WHERE WHAT IT READS IS OF BULK AT MOST 1048576: true; the input reads as it did. -/
def fnExactNormalFormsUptoRow : OpenClaim := { program := "ytofbieojmaobfaagreat", sum := "835385a886866ccffe17657014beda03692ec555b8dbfdf3a3c77494436f6b8a", func := "loop.example/g00517/laws.FnExactNormalForms", spec := "fnExactNormalForms", unfollowed := true, recurses := true, loops := true, apart := false, narrowed := true }
def FnExactNormalFormsUptoSaid : Prop := fnExactNormalFormsUptoRow.holds Tryz.pinned (OpenSpec.upto fnExactNormalFormsSpec)

/-- 'laws.FnExactReplayTrace', WHERE WHAT IT READS IS OF BULK AT MOST 1048576: true; the input reads as it did. -/
def fnExactReplayTraceUptoRow : OpenClaim := { program := "ytofbieojmaobfaagreat", sum := "835385a886866ccffe17657014beda03692ec555b8dbfdf3a3c77494436f6b8a", func := "loop.example/g00517/laws.FnExactReplayTrace", spec := "fnExactReplayTrace", unfollowed := true, recurses := true, loops := true, apart := false, narrowed := true }
def FnExactReplayTraceUptoSaid : Prop := fnExactReplayTraceUptoRow.holds Tryz.pinned (OpenSpec.upto fnExactReplayTraceSpec)

/-- 'laws.FnExactExploreSpace', WHERE WHAT IT READS IS OF BULK AT MOST 1048576: true; the input reads as it did. -/
def fnExactExploreSpaceUptoRow : OpenClaim := { program := "ytofbieojmaobfaagreat", sum := "835385a886866ccffe17657014beda03692ec555b8dbfdf3a3c77494436f6b8a", func := "loop.example/g00517/laws.FnExactExploreSpace", spec := "fnExactExploreSpace", unfollowed := true, recurses := true, loops := true, apart := false, narrowed := true }
def FnExactExploreSpaceUptoSaid : Prop := fnExactExploreSpaceUptoRow.holds Tryz.pinned (OpenSpec.upto fnExactExploreSpaceSpec)

/-- 'laws.FnExactRunMachine', WHERE WHAT IT READS IS OF BULK AT MOST 1048576: true; the input reads as it did. -/
def fnExactRunMachineUptoRow : OpenClaim := { program := "ytofbieojmaobfaagreat", sum := "835385a886866ccffe17657014beda03692ec555b8dbfdf3a3c77494436f6b8a", func := "loop.example/g00517/laws.FnExactRunMachine", spec := "fnExactRunMachine", unfollowed := true, recurses := true, loops := true, apart := false, narrowed := true }
def FnExactRunMachineUptoSaid : Prop := fnExactRunMachineUptoRow.holds Tryz.pinned (OpenSpec.upto fnExactRunMachineSpec)

/-- 'laws.FnExactStepMachine', WHERE WHAT IT READS IS OF BULK AT MOST 1048576: true; the input reads as it did. -/
def fnExactStepMachineUptoRow : OpenClaim := { program := "ytofbieojmaobfaagreat", sum := "835385a886866ccffe17657014beda03692ec555b8dbfdf3a3c77494436f6b8a", func := "loop.example/g00517/laws.FnExactStepMachine", spec := "fnExactStepMachine", unfollowed := true, recurses := true, loops := true, apart := false, narrowed := true }
def FnExactStepMachineUptoSaid : Prop := fnExactStepMachineUptoRow.holds Tryz.pinned (OpenSpec.upto fnExactStepMachineSpec)

end Rows
end Go.Proofs.YtofbieojmaobfaaGreat
