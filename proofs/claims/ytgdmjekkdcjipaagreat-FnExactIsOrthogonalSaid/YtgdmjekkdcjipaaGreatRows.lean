/-
  NARROWER THAN 'FOR EVERY INPUT', by the rows' own cells (each row's printed sentence says how): FnExactIsOrthogonal: loops · FnExactOverlapsOf: loops.
  DERIVED. THE GIVEN ROWS OF THIS SEAT. 4 by the template 'for every input the law returns true; each argument reads behind the call as it read before'; 0 by the template 'total and deterministic' (their statements: YtgdmjekkdcjipaaGreatTotals.lean).
  GIVEN WITH THE SEED: the statements are not yours to turn. If you find one false, say at which input.
  Laid BY PROGRAM, IN A SANDBOX (cutbox-rows.mjs): the forced cells as the released guide's own fill.sh prints them over the translation 108eb6dbad95058e… (all of the seat's roots in one cut). By AI agents, Wed Nov 11 2026. No macro, syntax, notation, axiom, sorry.
-/
import Derived.Test.YtgdmjekkdcjipaaGreatChecked
import GoSem.Claim
import GoSem.ClaimJoined
import GoSem.ClaimMapViews
import Derived.JoinedTies
import Derived.KernelRfl
namespace Go.Proofs.YtgdmjekkdcjipaaGreat
/- THE CELL 'sum', in the pinned program and in every row, IS THE sha256 OF THE DUMP (.gsa) THAT YtgdmjekkdcjipaaGreatProg.lean LOADS. Nothing in Lean hashes anything: it is a label: what it is worth is what the hold of that sum in a sandbox is worth. -/
noncomputable def Tryz.pinned : Pinned := { name := "ytgdmjekkdcjipaagreat", sum := "108eb6dbad95058e63f0eebf7f4d5af16d0c914120075160896b7f380135b102", checked := Tryz.checked }
namespace Rows
def none {H : Type} : Left H := { results := [], args := [] }

/-- 'laws.FnOverlaps': WHATEVER THE INPUT: true; the input reads as it did. -/
def fnOverlapsSpec : ChangeSpec := { name := "fnOverlaps", fn := fun _ => fun
  | [d] => { results := [.lit (.bool true)], args := [d] }
  | _ => none }
def fnOverlapsRow : OpenClaim := { program := "ytgdmjekkdcjipaagreat", sum := "108eb6dbad95058e63f0eebf7f4d5af16d0c914120075160896b7f380135b102", func := "loop.example/g00517/laws.FnOverlaps", spec := "fnOverlaps", unfollowed := true, recurses := true, apart := false }
def FnOverlapsSaid : Prop := fnOverlapsRow.holds Tryz.pinned (OpenSpec.ofChange fnOverlapsSpec)

/-- ITS FALSE NEIGHBOUR: 'it returns false'. Refute it at one input. -/
def fnOverlapsWrong : ChangeSpec := { name := "fnOverlaps", fn := fun _ => fun
  | [d] => { results := [.lit (.bool false)], args := [d] }
  | _ => none }
def FnOverlapsWrongFalsely : Prop := fnOverlapsRow.holds Tryz.pinned (OpenSpec.ofChange fnOverlapsWrong)

/-- 'laws.FnOrthogonal': WHATEVER THE INPUT: true; the input reads as it did. -/
def fnOrthogonalSpec : ChangeSpec := { name := "fnOrthogonal", fn := fun _ => fun
  | [d] => { results := [.lit (.bool true)], args := [d] }
  | _ => none }
def fnOrthogonalRow : OpenClaim := { program := "ytgdmjekkdcjipaagreat", sum := "108eb6dbad95058e63f0eebf7f4d5af16d0c914120075160896b7f380135b102", func := "loop.example/g00517/laws.FnOrthogonal", spec := "fnOrthogonal", unfollowed := true, recurses := true, apart := false }
def FnOrthogonalSaid : Prop := fnOrthogonalRow.holds Tryz.pinned (OpenSpec.ofChange fnOrthogonalSpec)

/-- ITS FALSE NEIGHBOUR: 'it returns false'. Refute it at one input. -/
def fnOrthogonalWrong : ChangeSpec := { name := "fnOrthogonal", fn := fun _ => fun
  | [d] => { results := [.lit (.bool false)], args := [d] }
  | _ => none }
def FnOrthogonalWrongFalsely : Prop := fnOrthogonalRow.holds Tryz.pinned (OpenSpec.ofChange fnOrthogonalWrong)

/-- 'laws.FnExactIsOrthogonal': WHATEVER THE INPUT: true; the input reads as it did. -/
def fnExactIsOrthogonalSpec : ChangeSpec := { name := "fnExactIsOrthogonal", fn := fun _ => fun
  | [d] => { results := [.lit (.bool true)], args := [d] }
  | _ => none }
def fnExactIsOrthogonalRow : OpenClaim := { program := "ytgdmjekkdcjipaagreat", sum := "108eb6dbad95058e63f0eebf7f4d5af16d0c914120075160896b7f380135b102", func := "loop.example/g00517/laws.FnExactIsOrthogonal", spec := "fnExactIsOrthogonal", unfollowed := true, recurses := true, loops := true, apart := false }
def FnExactIsOrthogonalSaid : Prop := fnExactIsOrthogonalRow.holds Tryz.pinned (OpenSpec.ofChange fnExactIsOrthogonalSpec)

/-- ITS FALSE NEIGHBOUR: 'it returns false'. Refute it at one input. -/
def fnExactIsOrthogonalWrong : ChangeSpec := { name := "fnExactIsOrthogonal", fn := fun _ => fun
  | [d] => { results := [.lit (.bool false)], args := [d] }
  | _ => none }
def FnExactIsOrthogonalWrongFalsely : Prop := fnExactIsOrthogonalRow.holds Tryz.pinned (OpenSpec.ofChange fnExactIsOrthogonalWrong)

/-- 'laws.FnExactOverlapsOf': WHATEVER THE INPUT: true; the input reads as it did. -/
def fnExactOverlapsOfSpec : ChangeSpec := { name := "fnExactOverlapsOf", fn := fun _ => fun
  | [d] => { results := [.lit (.bool true)], args := [d] }
  | _ => none }
def fnExactOverlapsOfRow : OpenClaim := { program := "ytgdmjekkdcjipaagreat", sum := "108eb6dbad95058e63f0eebf7f4d5af16d0c914120075160896b7f380135b102", func := "loop.example/g00517/laws.FnExactOverlapsOf", spec := "fnExactOverlapsOf", unfollowed := true, recurses := true, loops := true, apart := false }
def FnExactOverlapsOfSaid : Prop := fnExactOverlapsOfRow.holds Tryz.pinned (OpenSpec.ofChange fnExactOverlapsOfSpec)

/-- ITS FALSE NEIGHBOUR: 'it returns false'. Refute it at one input. -/
def fnExactOverlapsOfWrong : ChangeSpec := { name := "fnExactOverlapsOf", fn := fun _ => fun
  | [d] => { results := [.lit (.bool false)], args := [d] }
  | _ => none }
def FnExactOverlapsOfWrongFalsely : Prop := fnExactOverlapsOfRow.holds Tryz.pinned (OpenSpec.ofChange fnExactOverlapsOfWrong)

/- THE SECOND FORM. 'bulk': how many values and letters a reading holds, each counted each time it is reached (what is shared counts as often as it is met; a slice's spare places count too). A statement '..UptoSaid' is the law's where the arguments, and the package variables that the reading takes, are together of bulk at most 1048576: NARROWER than '..Said'. Prove '..Said' where nothing that the law and all that it calls make is longer than what came in: it says more and counts as full. Else prove '..UptoSaid'. A law counts once. -/
mutual
def uptoBulk {H : Type} : DataW H → Nat
  | .lit (.string bytes) => bytes.length + 1
  | .lit _ => 1
  | .nil => 1
  | .ptr d => uptoBulk d + 1
  | .slice elems spare => uptoBulkAll elems + uptoBulkAll spare + 1
  | .agg parts => uptoBulkAll parts + 1
  | .iface _ d => uptoBulk d + 1
  | .map entries => uptoBulkEntries entries + 1
  | .held _ => 1
def uptoBulkAll {H : Type} : List (DataW H) → Nat
  | [] => 0
  | d :: r => uptoBulk d + uptoBulkAll r
def uptoBulkEntries {H : Type} : List (Lit × DataW H) → Nat
  | [] => 0
  | x :: r => uptoBulkEntry x + uptoBulkEntries r
def uptoBulkEntry {H : Type} : Lit × DataW H → Nat
  | (.string bytes, d) => bytes.length + uptoBulk d + 1
  | (_, d) => uptoBulk d + 1
 end
def uptoSmall : (H : Type) → List (DataW H) → Bool := fun _ ds => decide (uptoBulkAll ds ≤ 1048576)
def OpenSpec.upto (s : _root_.Go.ChangeSpec) : _root_.Go.OpenSpec := { _root_.Go.OpenSpec.ofChange s with cond := some uptoSmall }

/-- 'laws.FnOverlaps', WHERE WHAT IT READS IS OF BULK AT MOST 1048576: true; the input reads as it did. -/
def fnOverlapsUptoRow : OpenClaim := { program := "ytgdmjekkdcjipaagreat", sum := "108eb6dbad95058e63f0eebf7f4d5af16d0c914120075160896b7f380135b102", func := "loop.example/g00517/laws.FnOverlaps", spec := "fnOverlaps", unfollowed := true, recurses := true, apart := false, narrowed := true }
def FnOverlapsUptoSaid : Prop := fnOverlapsUptoRow.holds Tryz.pinned (OpenSpec.upto fnOverlapsSpec)

/-- 'laws.FnOrthogonal', WHERE WHAT IT READS IS OF BULK AT MOST 1048576: true; the input reads as it did. -/
def fnOrthogonalUptoRow : OpenClaim := { program := "ytgdmjekkdcjipaagreat", sum := "108eb6dbad95058e63f0eebf7f4d5af16d0c914120075160896b7f380135b102", func := "loop.example/g00517/laws.FnOrthogonal", spec := "fnOrthogonal", unfollowed := true, recurses := true, apart := false, narrowed := true }
def FnOrthogonalUptoSaid : Prop := fnOrthogonalUptoRow.holds Tryz.pinned (OpenSpec.upto fnOrthogonalSpec)

/-- 'laws.FnExactIsOrthogonal', WHERE WHAT IT READS IS OF BULK AT MOST 1048576: true; the input reads as it did. -/
def fnExactIsOrthogonalUptoRow : OpenClaim := { program := "ytgdmjekkdcjipaagreat", sum := "108eb6dbad95058e63f0eebf7f4d5af16d0c914120075160896b7f380135b102", func := "loop.example/g00517/laws.FnExactIsOrthogonal", spec := "fnExactIsOrthogonal", unfollowed := true, recurses := true, loops := true, apart := false, narrowed := true }
def FnExactIsOrthogonalUptoSaid : Prop := fnExactIsOrthogonalUptoRow.holds Tryz.pinned (OpenSpec.upto fnExactIsOrthogonalSpec)

/-- 'laws.FnExactOverlapsOf', WHERE WHAT IT READS IS OF BULK AT MOST 1048576: true; the input reads as it did. -/
def fnExactOverlapsOfUptoRow : OpenClaim := { program := "ytgdmjekkdcjipaagreat", sum := "108eb6dbad95058e63f0eebf7f4d5af16d0c914120075160896b7f380135b102", func := "loop.example/g00517/laws.FnExactOverlapsOf", spec := "fnExactOverlapsOf", unfollowed := true, recurses := true, loops := true, apart := false, narrowed := true }
def FnExactOverlapsOfUptoSaid : Prop := fnExactOverlapsOfUptoRow.holds Tryz.pinned (OpenSpec.upto fnExactOverlapsOfSpec)

end Rows
end Go.Proofs.YtgdmjekkdcjipaaGreat
