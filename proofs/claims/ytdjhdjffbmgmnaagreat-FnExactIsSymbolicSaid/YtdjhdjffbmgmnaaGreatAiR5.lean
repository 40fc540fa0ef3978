/- How the arguments are read: written by mk13.py. -/
import Derived.Test.YtdjhdjffbmgmnaaGreatAiS1
import Derived.Test.YtdjhdjffbmgmnaaGreatAiDR
namespace Go.Ai
set_option linter.unusedVariables false
set_option linter.unusedSimpArgs false
open Go.Proofs Go.RowKit Go.ChangeShapes
set_option maxRecDepth 100000

section
variable {H : Type} {enc : TypeId × Value → H} {w : World}
theorem rd_Symbolic : ∀ (fuel : Nat) (cs : List Value) (x : DataW H × List MemPlace), trodA enc Tryz.prog w fuel 72 cs = some x → ∃ a : GSymbolic, a.wf ∧ a.enc.length = 6 ∧ RdL w a.enc cs := by
  intro fuel cs x h
  obtain ⟨xs, m, hm, _, hlen, hxl, hf⟩ := DataW.trod_struct Tryz.underlying72 h
  rw [show Tryz.prog.cellsOf 72 = 6 from by kernel_rfl] at hlen
  obtain ⟨y0, h0⟩ := field_of hxl hf 0 _ rfl (ty := 24) (off := 0) (c := 1) rfl rfl (by kernel_rfl)
  obtain ⟨y1, h1⟩ := field_of hxl hf 1 _ rfl (ty := 65) (off := 1) (c := 4) rfl rfl (by kernel_rfl)
  obtain ⟨y2, h2⟩ := field_of hxl hf 2 _ rfl (ty := 45) (off := 5) (c := 1) rfl rfl (by kernel_rfl)
  obtain ⟨v0, w0, r0⟩ := rdL (ec := encS) (wf := wfS) Tryz.underlying24 (show Tryz.prog.cellsOf 9 = 1 from by kernel_rfl) (by omega) (fun m _ cs x h => rdS3 Tryz.underlying9 m cs x h) h0
  obtain ⟨v1, w1, r1⟩ := rdN (rd_tm _ _ _ h1)
  obtain ⟨v2, w2, r2⟩ := rdL (ec := encI) (wf := wfI) Tryz.underlying45 (show Tryz.prog.cellsOf 3 = 1 from by kernel_rfl) (by omega) (fun m _ cs x h => rdI3 Tryz.underlying3 m cs x h) h2
  refine ⟨⟨v0, v1, v2⟩, ⟨w0, w1, w2⟩, GSymbolic.enc_len _, ?_⟩
  have := (RdL.next (cs := cs) (o := 0) r0 (RdL.next r1 (RdL.last r2 hlen)))
  simpa [GSymbolic.enc] using this
end
end Go.Ai
