/-
  No cell of these rows narrows 'for every input' (looked for: loops, veiled, ifaces, maps, wideKeys, modest, calm, conditions, laid).
  DERIVED. THE GIVEN ROWS OF THIS SEAT. 4 by the template 'for every input the law returns true; each argument reads behind the call as it read before'; 0 by the template 'total and deterministic' (their statements: YtmddjojbaompiaaGreatTotals.lean).
  GIVEN WITH THE SEED: the statements are not yours to turn. If you find one false, say at which input.
  Laid BY PROGRAM, IN A SANDBOX (cutbox-rows.mjs): the forced cells as the released guide's own fill.sh prints them over the translation 0f4b468ed789906d… (all of the seat's roots in one cut). By AI agents, Wed Nov 11 2026. No macro, syntax, notation, axiom, sorry.
-/
import Derived.Test.YtmddjojbaompiaaGreatChecked
import GoSem.Claim
import GoSem.ClaimJoined
import GoSem.ClaimMapViews
import Derived.JoinedTies
import Derived.KernelRfl
namespace Go.Proofs.YtmddjojbaompiaaGreat
/- THE CELL 'sum', in the pinned program and in every row, IS THE sha256 OF THE DUMP (.gsa) THAT YtmddjojbaompiaaGreatProg.lean LOADS. Nothing in Lean hashes anything: it is a label: what it is worth is what the hold of that sum in a sandbox is worth. -/
noncomputable def Tryz.pinned : Pinned := { name := "ytmddjojbaompiaagreat", sum := "0f4b468ed789906d6e75926691a07337ccacd1ff8e61e0ba077af2012c290caa", checked := Tryz.checked }
namespace Rows
def none {H : Type} : Left H := { results := [], args := [] }

/-- 'laws.FnDefinitions': WHATEVER THE INPUT: true; the input reads as it did. -/
def fnDefinitionsSpec : ChangeSpec := { name := "fnDefinitions", fn := fun _ => fun
  | [d] => { results := [.lit (.bool true)], args := [d] }
  | _ => none }
def fnDefinitionsRow : OpenClaim := { program := "ytmddjojbaompiaagreat", sum := "0f4b468ed789906d6e75926691a07337ccacd1ff8e61e0ba077af2012c290caa", func := "loop.example/g00517/laws.FnDefinitions", spec := "fnDefinitions", unfollowed := true, recurses := true, apart := false }
def FnDefinitionsSaid : Prop := fnDefinitionsRow.holds Tryz.pinned (OpenSpec.ofChange fnDefinitionsSpec)

/-- ITS FALSE NEIGHBOUR: 'it returns false'. Refute it at one input. -/
def fnDefinitionsWrong : ChangeSpec := { name := "fnDefinitions", fn := fun _ => fun
  | [d] => { results := [.lit (.bool false)], args := [d] }
  | _ => none }
def FnDefinitionsWrongFalsely : Prop := fnDefinitionsRow.holds Tryz.pinned (OpenSpec.ofChange fnDefinitionsWrong)

/-- 'laws.FnSymbolic': WHATEVER THE INPUT: true; the input reads as it did. -/
def fnSymbolicSpec : ChangeSpec := { name := "fnSymbolic", fn := fun _ => fun
  | [d] => { results := [.lit (.bool true)], args := [d] }
  | _ => none }
def fnSymbolicRow : OpenClaim := { program := "ytmddjojbaompiaagreat", sum := "0f4b468ed789906d6e75926691a07337ccacd1ff8e61e0ba077af2012c290caa", func := "loop.example/g00517/laws.FnSymbolic", spec := "fnSymbolic", unfollowed := true, recurses := true, apart := false }
def FnSymbolicSaid : Prop := fnSymbolicRow.holds Tryz.pinned (OpenSpec.ofChange fnSymbolicSpec)

/-- ITS FALSE NEIGHBOUR: 'it returns false'. Refute it at one input. -/
def fnSymbolicWrong : ChangeSpec := { name := "fnSymbolic", fn := fun _ => fun
  | [d] => { results := [.lit (.bool false)], args := [d] }
  | _ => none }
def FnSymbolicWrongFalsely : Prop := fnSymbolicRow.holds Tryz.pinned (OpenSpec.ofChange fnSymbolicWrong)

/-- 'laws.FnRedexes': WHATEVER THE INPUT: true; the input reads as it did. -/
def fnRedexesSpec : ChangeSpec := { name := "fnRedexes", fn := fun _ => fun
  | [d] => { results := [.lit (.bool true)], args := [d] }
  | _ => none }
def fnRedexesRow : OpenClaim := { program := "ytmddjojbaompiaagreat", sum := "0f4b468ed789906d6e75926691a07337ccacd1ff8e61e0ba077af2012c290caa", func := "loop.example/g00517/laws.FnRedexes", spec := "fnRedexes", unfollowed := true, recurses := true, apart := false }
def FnRedexesSaid : Prop := fnRedexesRow.holds Tryz.pinned (OpenSpec.ofChange fnRedexesSpec)

/-- ITS FALSE NEIGHBOUR: 'it returns false'. Refute it at one input. -/
def fnRedexesWrong : ChangeSpec := { name := "fnRedexes", fn := fun _ => fun
  | [d] => { results := [.lit (.bool false)], args := [d] }
  | _ => none }
def FnRedexesWrongFalsely : Prop := fnRedexesRow.holds Tryz.pinned (OpenSpec.ofChange fnRedexesWrong)

/-- 'laws.FnSteps': WHATEVER THE INPUT: true; the input reads as it did. -/
def fnStepsSpec : ChangeSpec := { name := "fnSteps", fn := fun _ => fun
  | [d] => { results := [.lit (.bool true)], args := [d] }
  | _ => none }
def fnStepsRow : OpenClaim := { program := "ytmddjojbaompiaagreat", sum := "0f4b468ed789906d6e75926691a07337ccacd1ff8e61e0ba077af2012c290caa", func := "loop.example/g00517/laws.FnSteps", spec := "fnSteps", unfollowed := true, recurses := true, apart := false }
def FnStepsSaid : Prop := fnStepsRow.holds Tryz.pinned (OpenSpec.ofChange fnStepsSpec)

/-- ITS FALSE NEIGHBOUR: 'it returns false'. Refute it at one input. -/
def fnStepsWrong : ChangeSpec := { name := "fnSteps", fn := fun _ => fun
  | [d] => { results := [.lit (.bool false)], args := [d] }
  | _ => none }
def FnStepsWrongFalsely : Prop := fnStepsRow.holds Tryz.pinned (OpenSpec.ofChange fnStepsWrong)

/- THE SECOND FORM. 'bulk': how many values and letters a reading holds, each counted each time it is reached (what is shared counts as often as it is met; a slice's spare places count too). A statement '..UptoSaid' is the law's where the arguments, and the package variables that the reading takes, are together of bulk at most 1048576: NARROWER than '..Said'. Prove '..Said' where nothing that the law and all that it calls make is longer than what came in: it says more and counts as full. Else prove '..UptoSaid'. A law counts once. -/
mutual
def uptoBulk {H : Type} : DataW H → Nat
  | .lit (.string bytes) => bytes.length + 1
  | .lit _ => 1
  | .nil => 1
  | .ptr d => uptoBulk d + 1
  | .slice elems spare => uptoBulkAll elems + uptoBulkAll spare + 1
  | .agg parts => uptoBulkAll parts + 1
  | .iface _ d => uptoBulk d + 1
  | .map entries => uptoBulkEntries entries + 1
  | .held _ => 1
def uptoBulkAll {H : Type} : List (DataW H) → Nat
  | [] => 0
  | d :: r => uptoBulk d + uptoBulkAll r
def uptoBulkEntries {H : Type} : List (Lit × DataW H) → Nat
  | [] => 0
  | x :: r => uptoBulkEntry x + uptoBulkEntries r
def uptoBulkEntry {H : Type} : Lit × DataW H → Nat
  | (.string bytes, d) => bytes.length + uptoBulk d + 1
  | (_, d) => uptoBulk d + 1
 end
def uptoSmall : (H : Type) → List (DataW H) → Bool := fun _ ds => decide (uptoBulkAll ds ≤ 1048576)
def OpenSpec.upto (s : _root_.Go.ChangeSpec) : _root_.Go.OpenSpec := { _root_.Go.OpenSpec.ofChange s with cond := some uptoSmall }

/-- 'laws.FnDefinitions', WHERE WHAT IT READS IS OF BULK AT MOST 1048576: true; the input reads as it did. -/
def fnDefinitionsUptoRow : OpenClaim := { program := "ytmddjojbaompiaagreat", sum := "0f4b468ed789906d6e75926691a07337ccacd1ff8e61e0ba077af2012c290caa", func := "loop.example/g00517/laws.FnDefinitions", spec := "fnDefinitions", unfollowed := true, recurses := true, apart := false, narrowed := true }
def FnDefinitionsUptoSaid : Prop := fnDefinitionsUptoRow.holds Tryz.pinned (OpenSpec.upto fnDefinitionsSpec)

/-- 'laws.FnSymbolic', WHERE WHAT IT READS IS OF BULK AT MOST 1048576: true; the input reads as it did. -/
def fnSymbolicUptoRow : OpenClaim := { program := "ytmddjojbaompiaagreat", sum := "0f4b468ed789906d6e75926691a07337ccacd1ff8e61e0ba077af2012c290caa", func := "loop.example/g00517/laws.FnSymbolic", spec := "fnSymbolic", unfollowed := true, recurses := true, apart := false, narrowed := true }
def FnSymbolicUptoSaid : Prop := fnSymbolicUptoRow.holds Tryz.pinned (OpenSpec.upto fnSymbolicSpec)

/-- 'laws.FnRedexes', WHERE WHAT IT READS IS OF BULK AT MOST 1048576: true; the input reads as it did. -/
def fnRedexesUptoRow : OpenClaim := { program := "ytmddjojbaompiaagreat", sum := "0f4b468ed789906d6e75926691a07337ccacd1ff8e61e0ba077af2012c290caa", func := "loop.example/g00517/laws.FnRedexes", spec := "fnRedexes", unfollowed := true, recurses := true, apart := false, narrowed := true }
def FnRedexesUptoSaid : Prop := fnRedexesUptoRow.holds Tryz.pinned (OpenSpec.upto fnRedexesSpec)

/-- 'laws.FnSteps', WHERE WHAT IT READS IS OF BULK AT MOST 1048576: true; the input reads as it did. -/
def fnStepsUptoRow : OpenClaim := { program := "ytmddjojbaompiaagreat", sum := "0f4b468ed789906d6e75926691a07337ccacd1ff8e61e0ba077af2012c290caa", func := "loop.example/g00517/laws.FnSteps", spec := "fnSteps", unfollowed := true, recurses := true, apart := false, narrowed := true }
def FnStepsUptoSaid : Prop := fnStepsUptoRow.holds Tryz.pinned (OpenSpec.upto fnStepsSpec)

end Rows
end Go.Proofs.YtmddjojbaompiaaGreat
