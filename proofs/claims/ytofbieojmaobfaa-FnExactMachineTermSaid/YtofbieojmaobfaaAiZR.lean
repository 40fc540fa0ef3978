/- How the arguments are read: written by mk28.py. -/
import Derived.Test.YtofbieojmaobfaaAiZ1
import Derived.Test.YtofbieojmaobfaaAiDR
namespace Go.Ai
set_option linter.unusedVariables false
set_option linter.unusedSimpArgs false
open Go.Proofs Go.RowKit Go.ChangeShapes
set_option maxRecDepth 100000

section
variable {H : Type} {enc : TypeId × Value → H} {w : World}
theorem rd_Frame : ∀ (fuel : Nat) (cs : List Value) (x : DataW H × List MemPlace), trodA enc Try.prog w fuel 98 cs = some x → ∃ a : GFrame, a.wf ∧ a.enc.length = 5 ∧ RdL w a.enc cs := by
  intro fuel cs x h
  obtain ⟨xs, m, hm, _, hlen, hxl, hf⟩ := DataW.trod_struct Try.underlying98 h
  rw [show Try.prog.cellsOf 98 = 5 from by kernel_rfl] at hlen
  obtain ⟨y0, h0⟩ := field_of hxl hf 0 _ rfl (ty := 32) (off := 0) (c := 4) rfl rfl (by kernel_rfl)
  obtain ⟨y1, h1⟩ := field_of hxl hf 1 _ rfl (ty := 3) (off := 4) (c := 1) rfl rfl (by kernel_rfl)
  obtain ⟨v0, w0, r0⟩ := rdN (rd_tm _ _ _ h0)
  obtain ⟨v1, w1, r1⟩ := rdI Try.underlying3 _ _ _ h1
  refine ⟨⟨v0, v1⟩, ⟨w0, w1⟩, GFrame.enc_len _, ?_⟩
  have := (RdL.next (cs := cs) (o := 0) r0 (RdL.last r1 hlen))
  simpa [GFrame.enc] using this
theorem rd_Machine : ∀ (fuel : Nat) (cs : List Value) (x : DataW H × List MemPlace), trodA enc Try.prog w fuel 35 cs = some x → ∃ a : GMachine, a.wf ∧ a.enc.length = 7 ∧ RdL w a.enc cs := by
  intro fuel cs x h
  obtain ⟨xs, m, hm, _, hlen, hxl, hf⟩ := DataW.trod_struct Try.underlying35 h
  rw [show Try.prog.cellsOf 35 = 7 from by kernel_rfl] at hlen
  obtain ⟨y0, h0⟩ := field_of hxl hf 0 _ rfl (ty := 32) (off := 0) (c := 4) rfl rfl (by kernel_rfl)
  obtain ⟨y1, h1⟩ := field_of hxl hf 1 _ rfl (ty := 3) (off := 4) (c := 1) rfl rfl (by kernel_rfl)
  obtain ⟨y2, h2⟩ := field_of hxl hf 2 _ rfl (ty := 33) (off := 5) (c := 1) rfl rfl (by kernel_rfl)
  obtain ⟨y3, h3⟩ := field_of hxl hf 3 _ rfl (ty := 3) (off := 6) (c := 1) rfl rfl (by kernel_rfl)
  obtain ⟨v0, w0, r0⟩ := rdN (rd_tm _ _ _ h0)
  obtain ⟨v1, w1, r1⟩ := rdI Try.underlying3 _ _ _ h1
  obtain ⟨v2, w2, r2⟩ := rdL (ec := GFrame.enc) (wf := GFrame.wf) Try.underlying33 (show Try.prog.cellsOf 98 = 5 from by kernel_rfl) (by omega) (fun m _ cs x h => rd_Frame m cs x h) h2
  obtain ⟨v3, w3, r3⟩ := rdI Try.underlying3 _ _ _ h3
  refine ⟨⟨v0, v1, v2, v3⟩, ⟨w0, w1, w2, w3⟩, GMachine.enc_len _, ?_⟩
  have := (RdL.next (cs := cs) (o := 0) r0 (RdL.next r1 (RdL.next r2 (RdL.last r3 hlen))))
  simpa [GMachine.enc] using this
end
end Go.Ai
