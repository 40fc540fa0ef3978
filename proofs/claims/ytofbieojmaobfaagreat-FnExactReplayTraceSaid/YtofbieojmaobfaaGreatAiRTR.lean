/- How a list of steps is read: written by mk37.py. -/
import Derived.Test.YtofbieojmaobfaaGreatAiRT3
import Derived.Test.YtofbieojmaobfaaGreatAiDR
set_option linter.unusedVariables false
set_option linter.unusedSimpArgs false
namespace Go.Ai
open Go.Proofs Go.RowKit Go.ChangeShapes
set_option maxRecDepth 100000
section
variable {H : Type} {enc : TypeId × Value → H} {w : World}
theorem rd_Redex : ∀ (fuel : Nat) (cs : List Value) (x : DataW H × List MemPlace), trodA enc Tryz.prog w fuel 116 cs = some x → ∃ a : GRedex, a.wf ∧ a.enc.length = 2 ∧ RdL w a.enc cs := by
 intro fuel cs x h
 obtain ⟨xs, m, hm, _, hlen, hxl, hf⟩ := DataW.trod_struct Tryz.underlying116 h
 rw [show Tryz.prog.cellsOf 116 = 2 from by kernel_rfl] at hlen
 obtain ⟨y0, h0⟩ := field_of hxl hf 0 _ rfl (ty := 3) (off := 0) (c := 1) rfl rfl (by kernel_rfl)
 obtain ⟨y1, h1⟩ := field_of hxl hf 1 _ rfl (ty := 53) (off := 1) (c := 1) rfl rfl (by kernel_rfl)
 obtain ⟨v0, w0, r0⟩ := rdI Tryz.underlying3 _ _ _ h0
 obtain ⟨v1, w1, r1⟩ := rdL (ec := encI) (wf := wfI) Tryz.underlying53 (show Tryz.prog.cellsOf 3 = 1 from by kernel_rfl) (by omega) (fun m _ cs x h => rdI3 Tryz.underlying3 m cs x h) h1
 refine ⟨⟨v0, v1⟩, ⟨w0, w1⟩, GRedex.enc_len _, ?_⟩
 have := (RdL.next (cs := cs) (o := 0) r0 (RdL.last r1 hlen))
 simpa [GRedex.enc] using this
end
end Go.Ai
