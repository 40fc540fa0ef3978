/- What is bound: the row of bindings is the caller's own. -/
import Derived.Test.YtgdmjekkdcjipaaGreatAiI3
import Derived.Test.YtgdmjekkdcjipaaGreatAiMarks
import Derived.Test.YtgdmjekkdcjipaaGreatAiU2
import Derived.Test.YtgdmjekkdcjipaaGreatAiU4
set_option linter.unusedVariables false
set_option linter.unusedSimpArgs false
namespace Go.Ai
open Go.Proofs
set_option maxRecDepth 100000
structure OB where
 b : GBind
 h : Value
def OB.enc : OB → List C
 | ⟨⟨na, .mk k n s _⟩, h⟩ => [.v (.string na), .v (.int .i64 k), .v (.int .i64 n), .v (.string s), .v h]
theorem OB.enc_len (x : OB) : x.enc.length = 5 := by obtain ⟨⟨na, ⟨k, n, s, ts⟩⟩, h⟩ := x; rfl
attribute [go_sem] OB.enc_len
def dt1 : List OB → ByteArray → Option OB
 | [], _ => none
 | b :: bs, s => if eqS b.b.na s then some b else dt1 bs s
def mo1 : Option OB → AV
 | some ⟨⟨_, .mk k n s _⟩, h⟩ => .agg [iC k, iC n, sC s, .c (.v h)]
 | none => tmV wQ0
def OB.ok (w : World) (F : Fz) : OB → Prop
 | ⟨⟨_, .mk _ _ _ ts⟩, h⟩ => Rd w F (.sl (Tm.encs ts)) h
def pF1 : Tm → Tm → Bool
 | .mk k n s ts, .mk k2 n2 s2 ts2 => k == k2 && n == n2 && eqS s s2 && ts.length == ts2.length
mutual
def Tm.mat : Tm → Tm → List GBind → Option (List GBind)
 | .mk k n s ts, y, bs =>
  if k == 1 then (match bnd bs s with | some x => if x.eqb y then some bs else none | none => some (bs ++ [⟨s, y⟩]))
  else if pF1 (.mk k n s ts) y then Tm.mats ts y.args bs else none
def Tm.mats : List Tm → List Tm → List GBind → Option (List GBind)
 | [], _, bs => some bs
 | a :: ts, ys, bs => match a.mat (ys.headD wQ0) bs with
  | some bs' => Tm.mats ts ys.tail bs'
  | none => none
end
abbrev db1 (f : FuncId) (t : Tm) : Prop := ∀ (y : Tm) (bs : List GBind), y.size < 1048577 → y.wf → (∀ b, b ∈ bs → b.t.size < 1048577 ∧ b.t.wf) → bs.length + t.cnt < 90000000 → dp1 Tryz.prog f [tmV t, tmV y] [] 134 5 (rowsOf GBind.enc bs) ((t.mat y bs).map (rowsOf GBind.enc))
end Go.Ai
namespace Go.Ai
open Go.Proofs
set_option maxRecDepth 100000
end Go.Ai
