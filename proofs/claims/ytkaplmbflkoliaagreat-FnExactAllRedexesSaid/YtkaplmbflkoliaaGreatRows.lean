/-
  NARROWER THAN 'FOR EVERY INPUT', by the rows' own cells (each row's printed sentence says how): FnExactFireRule: loops · FnExactAllRedexes: loops · FnExactNextRedex: loops · FnExactStepTerm: loops.
  DERIVED. THE GIVEN ROWS OF THIS SEAT. 4 by the template 'for every input the law returns true; each argument reads behind the call as it read before'; 0 by the template 'total and deterministic' (their statements: YtkaplmbflkoliaaGreatTotals.lean).
  GIVEN WITH THE SEED: the statements are not yours to turn. If you find one false, say at which input.
  Laid BY PROGRAM, IN A SANDBOX (cutbox-rows.mjs): the forced cells as the released guide's own fill.sh prints them over the translation b258f69dcc3999b1… (all of the seat's roots in one cut). By AI agents, Wed Nov 11 2026. No macro, syntax, notation, axiom, sorry.
-/
import Derived.Test.YtkaplmbflkoliaaGreatChecked
import GoSem.Claim
import GoSem.ClaimJoined
import GoSem.ClaimMapViews
import Derived.JoinedTies
import Derived.KernelRfl
namespace Go.Proofs.YtkaplmbflkoliaaGreat
/- THE CELL 'sum', in the pinned program and in every row, IS THE sha256 OF THE DUMP (.gsa) THAT YtkaplmbflkoliaaGreatProg.lean LOADS. Nothing in Lean hashes anything: it is a label: what it is worth is what the hold of that sum in a sandbox is worth. -/
noncomputable def Tryz.pinned : Pinned := { name := "ytkaplmbflkoliaagreat", sum := "b258f69dcc3999b11f8fb45ae9e5693691857cd8db7801a31ececb1a86266964", checked := Tryz.checked }
namespace Rows
def none {H : Type} : Left H := { results := [], args := [] }

/-- 'laws.FnExactFireRule': WHATEVER THE INPUT: true; the input reads as it did. -/
def fnExactFireRuleSpec : ChangeSpec := { name := "fnExactFireRule", fn := fun _ => fun
  | [d1, d2, d3] => { results := [.lit (.bool true)], args := [d1, d2, d3] }
  | _ => none }
def fnExactFireRuleRow : OpenClaim := { program := "ytkaplmbflkoliaagreat", sum := "b258f69dcc3999b11f8fb45ae9e5693691857cd8db7801a31ececb1a86266964", func := "loop.example/g00517/laws.FnExactFireRule", spec := "fnExactFireRule", unfollowed := true, recurses := true, loops := true, apart := false }
def FnExactFireRuleSaid : Prop := fnExactFireRuleRow.holds Tryz.pinned (OpenSpec.ofChange fnExactFireRuleSpec)

/-- ITS FALSE NEIGHBOUR: 'it returns false'. Refute it at one input. -/
def fnExactFireRuleWrong : ChangeSpec := { name := "fnExactFireRule", fn := fun _ => fun
  | [d1, d2, d3] => { results := [.lit (.bool false)], args := [d1, d2, d3] }
  | _ => none }
def FnExactFireRuleWrongFalsely : Prop := fnExactFireRuleRow.holds Tryz.pinned (OpenSpec.ofChange fnExactFireRuleWrong)

/-- 'laws.FnExactAllRedexes': WHATEVER THE INPUT: true; the input reads as it did. -/
def fnExactAllRedexesSpec : ChangeSpec := { name := "fnExactAllRedexes", fn := fun _ => fun
  | [d1, d2] => { results := [.lit (.bool true)], args := [d1, d2] }
  | _ => none }
def fnExactAllRedexesRow : OpenClaim := { program := "ytkaplmbflkoliaagreat", sum := "b258f69dcc3999b11f8fb45ae9e5693691857cd8db7801a31ececb1a86266964", func := "loop.example/g00517/laws.FnExactAllRedexes", spec := "fnExactAllRedexes", unfollowed := true, recurses := true, loops := true, apart := false }
def FnExactAllRedexesSaid : Prop := fnExactAllRedexesRow.holds Tryz.pinned (OpenSpec.ofChange fnExactAllRedexesSpec)

/-- ITS FALSE NEIGHBOUR: 'it returns false'. Refute it at one input. -/
def fnExactAllRedexesWrong : ChangeSpec := { name := "fnExactAllRedexes", fn := fun _ => fun
  | [d1, d2] => { results := [.lit (.bool false)], args := [d1, d2] }
  | _ => none }
def FnExactAllRedexesWrongFalsely : Prop := fnExactAllRedexesRow.holds Tryz.pinned (OpenSpec.ofChange fnExactAllRedexesWrong)

/-- 'laws.FnExactNextRedex': WHATEVER THE INPUT: true; the input reads as it did. -/
def fnExactNextRedexSpec : ChangeSpec := { name := "fnExactNextRedex", fn := fun _ => fun
  | [d1, d2] => { results := [.lit (.bool true)], args := [d1, d2] }
  | _ => none }
def fnExactNextRedexRow : OpenClaim := { program := "ytkaplmbflkoliaagreat", sum := "b258f69dcc3999b11f8fb45ae9e5693691857cd8db7801a31ececb1a86266964", func := "loop.example/g00517/laws.FnExactNextRedex", spec := "fnExactNextRedex", unfollowed := true, recurses := true, loops := true, apart := false }
def FnExactNextRedexSaid : Prop := fnExactNextRedexRow.holds Tryz.pinned (OpenSpec.ofChange fnExactNextRedexSpec)

/-- ITS FALSE NEIGHBOUR: 'it returns false'. Refute it at one input. -/
def fnExactNextRedexWrong : ChangeSpec := { name := "fnExactNextRedex", fn := fun _ => fun
  | [d1, d2] => { results := [.lit (.bool false)], args := [d1, d2] }
  | _ => none }
def FnExactNextRedexWrongFalsely : Prop := fnExactNextRedexRow.holds Tryz.pinned (OpenSpec.ofChange fnExactNextRedexWrong)

/-- 'laws.FnExactStepTerm': WHATEVER THE INPUT: true; the input reads as it did. -/
def fnExactStepTermSpec : ChangeSpec := { name := "fnExactStepTerm", fn := fun _ => fun
  | [d1, d2] => { results := [.lit (.bool true)], args := [d1, d2] }
  | _ => none }
def fnExactStepTermRow : OpenClaim := { program := "ytkaplmbflkoliaagreat", sum := "b258f69dcc3999b11f8fb45ae9e5693691857cd8db7801a31ececb1a86266964", func := "loop.example/g00517/laws.FnExactStepTerm", spec := "fnExactStepTerm", unfollowed := true, recurses := true, loops := true, apart := false }
def FnExactStepTermSaid : Prop := fnExactStepTermRow.holds Tryz.pinned (OpenSpec.ofChange fnExactStepTermSpec)

/-- ITS FALSE NEIGHBOUR: 'it returns false'. Refute it at one input. -/
def fnExactStepTermWrong : ChangeSpec := { name := "fnExactStepTerm", fn := fun _ => fun
  | [d1, d2] => { results := [.lit (.bool false)], args := [d1, d2] }
  | _ => none }
def FnExactStepTermWrongFalsely : Prop := fnExactStepTermRow.holds Tryz.pinned (OpenSpec.ofChange fnExactStepTermWrong)

/- THE SECOND FORM. 'bulk': how many values and letters a reading holds, each counted each time it is reached (what is shared counts as often as it is met; a slice's spare places count too). A statement '..UptoSaid' is the law's where the arguments, and the package variables that the reading takes, are together of bulk at most 1048576: NARROWER than '..Said'. Prove '..Said' where nothing that the law and all that it calls make is longer than what came in: it says more and counts as full. Else prove '..UptoSaid'. A law counts once. -/
mutual
def uptoBulk {H : Type} : DataW H → Nat
  | .lit (.string bytes) => bytes.length + 1
  | .lit _ => 1
  | .nil => 1
  | .ptr d => uptoBulk d + 1
  | .slice elems spare => uptoBulkAll elems + uptoBulkAll spare + 1
  | .agg parts => uptoBulkAll parts + 1
  | .iface _ d => uptoBulk d + 1
  | .map entries => uptoBulkEntries entries + 1
  | .held _ => 1
def uptoBulkAll {H : Type} : List (DataW H) → Nat
  | [] => 0
  | d :: r => uptoBulk d + uptoBulkAll r
def uptoBulkEntries {H : Type} : List (Lit × DataW H) → Nat
  | [] => 0
  | x :: r => uptoBulkEntry x + uptoBulkEntries r
def uptoBulkEntry {H : Type} : Lit × DataW H → Nat
  | (.string bytes, d) => bytes.length + uptoBulk d + 1
  | (_, d) => uptoBulk d + 1
 end
def uptoSmall : (H : Type) → List (DataW H) → Bool := fun _ ds => decide (uptoBulkAll ds ≤ 1048576)
def OpenSpec.upto (s : _root_.Go.ChangeSpec) : _root_.Go.OpenSpec := { _root_.Go.OpenSpec.ofChange s with cond := some uptoSmall }

/-- 'laws.FnExactFireRule', WHERE WHAT IT READS IS OF BULK AT MOST 1048576: true; the input reads as it did. -/
def fnExactFireRuleUptoRow : OpenClaim := { program := "ytkaplmbflkoliaagreat", sum := "b258f69dcc3999b11f8fb45ae9e5693691857cd8db7801a31ececb1a86266964", func := "loop.example/g00517/laws.FnExactFireRule", spec := "fnExactFireRule", unfollowed := true, recurses := true, loops := true, apart := false, narrowed := true }
def FnExactFireRuleUptoSaid : Prop := fnExactFireRuleUptoRow.holds Tryz.pinned (OpenSpec.upto fnExactFireRuleSpec)

/-- 'laws.FnExactAllRedexes', WHERE WHAT IT READS IS OF BULK AT MOST 1048576: true; the input reads as it did. -/
def fnExactAllRedexesUptoRow : OpenClaim := { program := "ytkaplmbflkoliaagreat", sum := "b258f69dcc3999b11f8fb45ae9e5693691857cd8db7801a31ececb1a86266964", func := "loop.example/g00517/laws.FnExactAllRedexes", spec := "fnExactAllRedexes", unfollowed := true, recurses := true, loops := true, apart := false, narrowed := true }
def FnExactAllRedexesUptoSaid : Prop := fnExactAllRedexesUptoRow.holds Tryz.pinned (OpenSpec.upto fnExactAllRedexesSpec)

/-- 'laws.FnExactNextRedex', WHERE WHAT IT READS IS OF BULK AT MOST 1048576: true; the input reads as it did. -/
def fnExactNextRedexUptoRow : OpenClaim := { program := "ytkaplmbflkoliaagreat", sum := "b258f69dcc3999b11f8fb45ae9e5693691857cd8db7801a31ececb1a86266964", func := "loop.example/g00517/laws.FnExactNextRedex", spec := "fnExactNextRedex", unfollowed := true, recurses := true, loops := true, apart := false, narrowed := true }
def FnExactNextRedexUptoSaid : Prop := fnExactNextRedexUptoRow.holds Tryz.pinned (OpenSpec.upto fnExactNextRedexSpec)

/-- 'laws.FnExactStepTerm', WHERE WHAT IT READS IS OF BULK AT MOST 1048576: true; the input reads as it did. -/
def fnExactStepTermUptoRow : OpenClaim := { program := "ytkaplmbflkoliaagreat", sum := "b258f69dcc3999b11f8fb45ae9e5693691857cd8db7801a31ececb1a86266964", func := "loop.example/g00517/laws.FnExactStepTerm", spec := "fnExactStepTerm", unfollowed := true, recurses := true, loops := true, apart := false, narrowed := true }
def FnExactStepTermUptoSaid : Prop := fnExactStepTermUptoRow.holds Tryz.pinned (OpenSpec.upto fnExactStepTermSpec)

end Rows
end Go.Proofs.YtkaplmbflkoliaaGreat
