/-
  NARROWER THAN 'FOR EVERY INPUT', by the rows' own cells (each row's printed sentence says how): FnExactIsValidDefinition: loops · FnExactIsConfig: loops · FnExactIsSymbolic: loops.
  DERIVED. THE GIVEN ROWS OF THIS SEAT. 4 by the template 'for every input the law returns true; each argument reads behind the call as it read before'; 0 by the template 'total and deterministic' (their statements: YtdjhdjffbmgmnaaGreatTotals.lean).
  GIVEN WITH THE SEED: the statements are not yours to turn. If you find one false, say at which input.
  Laid BY PROGRAM, IN A SANDBOX (cutbox-rows.mjs): the forced cells as the released guide's own fill.sh prints them over the translation 8dac8451b9c55ee5… (all of the seat's roots in one cut). By AI agents, Wed Nov 11 2026. No macro, syntax, notation, axiom, sorry.
-/
import Derived.Test.YtdjhdjffbmgmnaaGreatChecked
import GoSem.Claim
import GoSem.ClaimJoined
import GoSem.ClaimMapViews
import Derived.JoinedTies
import Derived.KernelRfl
namespace Go.Proofs.YtdjhdjffbmgmnaaGreat
/- THE CELL 'sum', in the pinned program and in every row, IS THE sha256 OF THE DUMP (.gsa) THAT YtdjhdjffbmgmnaaGreatProg.lean LOADS. Nothing in Lean hashes anything: it is a label: what it is worth is what the hold of that sum in a sandbox is worth. -/
noncomputable def Tryz.pinned : Pinned := { name := "ytdjhdjffbmgmnaagreat", sum := "8dac8451b9c55ee59919da90ab56d5f0274c2034b945602e767aeb96dab5834e", checked := Tryz.checked }
namespace Rows
def none {H : Type} : Left H := { results := [], args := [] }

/-- 'laws.FnDefinitions': WHATEVER THE INPUT: true; the input reads as it did. -/
def fnDefinitionsSpec : ChangeSpec := { name := "fnDefinitions", fn := fun _ => fun
  | [d] => { results := [.lit (.bool true)], args := [d] }
  | _ => none }
def fnDefinitionsRow : OpenClaim := { program := "ytdjhdjffbmgmnaagreat", sum := "8dac8451b9c55ee59919da90ab56d5f0274c2034b945602e767aeb96dab5834e", func := "loop.example/g00517/laws.FnDefinitions", spec := "fnDefinitions", unfollowed := true, recurses := true, apart := false }
def FnDefinitionsSaid : Prop := fnDefinitionsRow.holds Tryz.pinned (OpenSpec.ofChange fnDefinitionsSpec)

/-- ITS FALSE NEIGHBOUR: 'it returns false'. Refute it at one input. -/
def fnDefinitionsWrong : ChangeSpec := { name := "fnDefinitions", fn := fun _ => fun
  | [d] => { results := [.lit (.bool false)], args := [d] }
  | _ => none }
def FnDefinitionsWrongFalsely : Prop := fnDefinitionsRow.holds Tryz.pinned (OpenSpec.ofChange fnDefinitionsWrong)

/-- 'laws.FnExactIsValidDefinition': WHATEVER THE INPUT: true; the input reads as it did. -/
def fnExactIsValidDefinitionSpec : ChangeSpec := { name := "fnExactIsValidDefinition", fn := fun _ => fun
  | [d] => { results := [.lit (.bool true)], args := [d] }
  | _ => none }
def fnExactIsValidDefinitionRow : OpenClaim := { program := "ytdjhdjffbmgmnaagreat", sum := "8dac8451b9c55ee59919da90ab56d5f0274c2034b945602e767aeb96dab5834e", func := "loop.example/g00517/laws.FnExactIsValidDefinition", spec := "fnExactIsValidDefinition", recurses := true, loops := true, apart := false }
def FnExactIsValidDefinitionSaid : Prop := fnExactIsValidDefinitionRow.holds Tryz.pinned (OpenSpec.ofChange fnExactIsValidDefinitionSpec)

/-- ITS FALSE NEIGHBOUR: 'it returns false'. Refute it at one input. -/
def fnExactIsValidDefinitionWrong : ChangeSpec := { name := "fnExactIsValidDefinition", fn := fun _ => fun
  | [d] => { results := [.lit (.bool false)], args := [d] }
  | _ => none }
def FnExactIsValidDefinitionWrongFalsely : Prop := fnExactIsValidDefinitionRow.holds Tryz.pinned (OpenSpec.ofChange fnExactIsValidDefinitionWrong)

/-- 'laws.FnExactIsConfig': WHATEVER THE INPUT: true; the input reads as it did. -/
def fnExactIsConfigSpec : ChangeSpec := { name := "fnExactIsConfig", fn := fun _ => fun
  | [d1, d2] => { results := [.lit (.bool true)], args := [d1, d2] }
  | _ => none }
def fnExactIsConfigRow : OpenClaim := { program := "ytdjhdjffbmgmnaagreat", sum := "8dac8451b9c55ee59919da90ab56d5f0274c2034b945602e767aeb96dab5834e", func := "loop.example/g00517/laws.FnExactIsConfig", spec := "fnExactIsConfig", recurses := true, loops := true, apart := false }
def FnExactIsConfigSaid : Prop := fnExactIsConfigRow.holds Tryz.pinned (OpenSpec.ofChange fnExactIsConfigSpec)

/-- ITS FALSE NEIGHBOUR: 'it returns false'. Refute it at one input. -/
def fnExactIsConfigWrong : ChangeSpec := { name := "fnExactIsConfig", fn := fun _ => fun
  | [d1, d2] => { results := [.lit (.bool false)], args := [d1, d2] }
  | _ => none }
def FnExactIsConfigWrongFalsely : Prop := fnExactIsConfigRow.holds Tryz.pinned (OpenSpec.ofChange fnExactIsConfigWrong)

/-- 'laws.FnExactIsSymbolic': WHATEVER THE INPUT: true; the input reads as it did. -/
def fnExactIsSymbolicSpec : ChangeSpec := { name := "fnExactIsSymbolic", fn := fun _ => fun
  | [d1, d2] => { results := [.lit (.bool true)], args := [d1, d2] }
  | _ => none }
def fnExactIsSymbolicRow : OpenClaim := { program := "ytdjhdjffbmgmnaagreat", sum := "8dac8451b9c55ee59919da90ab56d5f0274c2034b945602e767aeb96dab5834e", func := "loop.example/g00517/laws.FnExactIsSymbolic", spec := "fnExactIsSymbolic", recurses := true, loops := true, apart := false }
def FnExactIsSymbolicSaid : Prop := fnExactIsSymbolicRow.holds Tryz.pinned (OpenSpec.ofChange fnExactIsSymbolicSpec)

/-- ITS FALSE NEIGHBOUR: 'it returns false'. Refute it at one input. -/
def fnExactIsSymbolicWrong : ChangeSpec := { name := "fnExactIsSymbolic", fn := fun _ => fun
  | [d1, d2] => { results := [.lit (.bool false)], args := [d1, d2] }
  | _ => none }
def FnExactIsSymbolicWrongFalsely : Prop := fnExactIsSymbolicRow.holds Tryz.pinned (OpenSpec.ofChange fnExactIsSymbolicWrong)

/- THE SECOND FORM. 'bulk': how many values and letters a reading holds, each counted each time it is reached (what is shared counts as often as it is met; a slice's spare places count too). A statement '..UptoSaid' is the law's where the arguments, and the package variables that the reading takes, are together of bulk at most 1048576: NARROWER than '..Said'. Prove '..Said' where nothing that the law and all that it calls make is longer than what came in: it says more and counts as full. Else prove '..UptoSaid'. A law counts once. -/
mutual
def uptoBulk {H : Type} : DataW H → Nat
  | .lit (.string bytes) => bytes.length + 1
  | .lit _ => 1
  | .nil => 1
  | .ptr d => uptoBulk d + 1
  | .slice elems spare => uptoBulkAll elems + uptoBulkAll spare + 1
  | .agg parts => uptoBulkAll parts + 1
  | .iface _ d => uptoBulk d + 1
  | .map entries => uptoBulkEntries entries + 1
  | .held _ => 1
def uptoBulkAll {H : Type} : List (DataW H) → Nat
  | [] => 0
  | d :: r => uptoBulk d + uptoBulkAll r
def uptoBulkEntries {H : Type} : List (Lit × DataW H) → Nat
  | [] => 0
  | x :: r => uptoBulkEntry x + uptoBulkEntries r
def uptoBulkEntry {H : Type} : Lit × DataW H → Nat
  | (.string bytes, d) => bytes.length + uptoBulk d + 1
  | (_, d) => uptoBulk d + 1
 end
def uptoSmall : (H : Type) → List (DataW H) → Bool := fun _ ds => decide (uptoBulkAll ds ≤ 1048576)
def OpenSpec.upto (s : _root_.Go.ChangeSpec) : _root_.Go.OpenSpec := { _root_.Go.OpenSpec.ofChange s with cond := some uptoSmall }

/-- 'laws.FnDefinitions', WHERE WHAT IT READS IS OF BULK AT MOST 1048576: true; the input reads as it did. -/
def fnDefinitionsUptoRow : OpenClaim := { program := "ytdjhdjffbmgmnaagreat", sum := "8dac8451b9c55ee59919da90ab56d5f0274c2034b945602e767aeb96dab5834e", func := "loop.example/g00517/laws.FnDefinitions", spec := "fnDefinitions", unfollowed := true, recurses := true, apart := false, narrowed := true }
def FnDefinitionsUptoSaid : Prop := fnDefinitionsUptoRow.holds Tryz.pinned (OpenSpec.upto fnDefinitionsSpec)

/-- 'laws.FnExactIsValidDefinition', WHERE WHAT IT READS IS OF BULK AT MOST 1048576: true; the input reads as it did. -/
def fnExactIsValidDefinitionUptoRow : OpenClaim := { program := "ytdjhdjffbmgmnaagreat", sum := "8dac8451b9c55ee59919da90ab56d5f0274c2034b945602e767aeb96dab5834e", func := "loop.example/g00517/laws.FnExactIsValidDefinition", spec := "fnExactIsValidDefinition", recurses := true, loops := true, apart := false, narrowed := true }
def FnExactIsValidDefinitionUptoSaid : Prop := fnExactIsValidDefinitionUptoRow.holds Tryz.pinned (OpenSpec.upto fnExactIsValidDefinitionSpec)

/-- 'laws.FnExactIsConfig', WHERE WHAT IT READS IS OF BULK AT MOST 1048576: true; the input reads as it did. -/
def fnExactIsConfigUptoRow : OpenClaim := { program := "ytdjhdjffbmgmnaagreat", sum := "8dac8451b9c55ee59919da90ab56d5f0274c2034b945602e767aeb96dab5834e", func := "loop.example/g00517/laws.FnExactIsConfig", spec := "fnExactIsConfig", recurses := true, loops := true, apart := false, narrowed := true }
def FnExactIsConfigUptoSaid : Prop := fnExactIsConfigUptoRow.holds Tryz.pinned (OpenSpec.upto fnExactIsConfigSpec)

/-- 'laws.FnExactIsSymbolic', WHERE WHAT IT READS IS OF BULK AT MOST 1048576: true; the input reads as it did. -/
def fnExactIsSymbolicUptoRow : OpenClaim := { program := "ytdjhdjffbmgmnaagreat", sum := "8dac8451b9c55ee59919da90ab56d5f0274c2034b945602e767aeb96dab5834e", func := "loop.example/g00517/laws.FnExactIsSymbolic", spec := "fnExactIsSymbolic", recurses := true, loops := true, apart := false, narrowed := true }
def FnExactIsSymbolicUptoSaid : Prop := fnExactIsSymbolicUptoRow.holds Tryz.pinned (OpenSpec.upto fnExactIsSymbolicSpec)

end Rows
end Go.Proofs.YtdjhdjffbmgmnaaGreat
