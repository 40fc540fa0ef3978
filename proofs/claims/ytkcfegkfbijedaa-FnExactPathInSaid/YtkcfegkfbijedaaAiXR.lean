/- How the arguments are read: written by mk26.py. -/
import Derived.Test.YtkcfegkfbijedaaAiX2
import Derived.Test.YtkcfegkfbijedaaAiDR
namespace Go.Ai
set_option linter.unusedVariables false
set_option linter.unusedSimpArgs false
open Go.Proofs Go.RowKit Go.ChangeShapes
set_option maxRecDepth 100000

section
variable {H : Type} {enc : TypeId × Value → H} {w : World}
theorem rd_Redex : ∀ (fuel : Nat) (cs : List Value) (x : DataW H × List MemPlace), trodA enc Try.prog w fuel 64 cs = some x → ∃ a : GRedex, a.wf ∧ a.enc.length = 2 ∧ RdL w a.enc cs := by
  intro fuel cs x h
  obtain ⟨xs, m, hm, _, hlen, hxl, hf⟩ := DataW.trod_struct Try.underlying64 h
  rw [show Try.prog.cellsOf 64 = 2 from by kernel_rfl] at hlen
  obtain ⟨y0, h0⟩ := field_of hxl hf 0 _ rfl (ty := 3) (off := 0) (c := 1) rfl rfl (by kernel_rfl)
  obtain ⟨y1, h1⟩ := field_of hxl hf 1 _ rfl (ty := 43) (off := 1) (c := 1) rfl rfl (by kernel_rfl)
  obtain ⟨v0, w0, r0⟩ := rdI Try.underlying3 _ _ _ h0
  obtain ⟨v1, w1, r1⟩ := rdL (ec := encI) (wf := wfI) Try.underlying43 (show Try.prog.cellsOf 3 = 1 from by kernel_rfl) (by omega) (fun m _ cs x h => rdI3 Try.underlying3 m cs x h) h1
  refine ⟨⟨v0, v1⟩, ⟨w0, w1⟩, GRedex.enc_len _, ?_⟩
  have := (RdL.next (cs := cs) (o := 0) r0 (RdL.last r1 hlen))
  simpa [GRedex.enc] using this
theorem rd_Move : ∀ (fuel : Nat) (cs : List Value) (x : DataW H × List MemPlace), trodA enc Try.prog w fuel 66 cs = some x → ∃ a : GMove, a.wf ∧ a.enc.length = 4 ∧ RdL w a.enc cs := by
  intro fuel cs x h
  obtain ⟨xs, m, hm, _, hlen, hxl, hf⟩ := DataW.trod_struct Try.underlying66 h
  rw [show Try.prog.cellsOf 66 = 4 from by kernel_rfl] at hlen
  obtain ⟨y0, h0⟩ := field_of hxl hf 0 _ rfl (ty := 3) (off := 0) (c := 1) rfl rfl (by kernel_rfl)
  obtain ⟨y1, h1⟩ := field_of hxl hf 1 _ rfl (ty := 3) (off := 1) (c := 1) rfl rfl (by kernel_rfl)
  obtain ⟨y2, h2⟩ := field_of hxl hf 2 _ rfl (ty := 64) (off := 2) (c := 2) rfl rfl (by kernel_rfl)
  obtain ⟨v0, w0, r0⟩ := rdI Try.underlying3 _ _ _ h0
  obtain ⟨v1, w1, r1⟩ := rdI Try.underlying3 _ _ _ h1
  obtain ⟨v2, w2, r2⟩ := rdN (rd_Redex _ _ _ h2)
  refine ⟨⟨v0, v1, v2⟩, ⟨w0, w1, w2⟩, GMove.enc_len _, ?_⟩
  have := (RdL.next (cs := cs) (o := 0) r0 (RdL.next r1 (RdL.last r2 hlen)))
  simpa [GMove.enc] using this
theorem rd_Space : ∀ (fuel : Nat) (cs : List Value) (x : DataW H × List MemPlace), trodA enc Try.prog w fuel 25 cs = some x → ∃ a : GSpace, a.wf ∧ a.enc.length = 3 ∧ RdL w a.enc cs := by
  intro fuel cs x h
  obtain ⟨xs, m, hm, _, hlen, hxl, hf⟩ := DataW.trod_struct Try.underlying25 h
  rw [show Try.prog.cellsOf 25 = 3 from by kernel_rfl] at hlen
  obtain ⟨y0, h0⟩ := field_of hxl hf 0 _ rfl (ty := 22) (off := 0) (c := 1) rfl rfl (by kernel_rfl)
  obtain ⟨y1, h1⟩ := field_of hxl hf 1 _ rfl (ty := 23) (off := 1) (c := 1) rfl rfl (by kernel_rfl)
  obtain ⟨y2, h2⟩ := field_of hxl hf 2 _ rfl (ty := 4) (off := 2) (c := 1) rfl rfl (by kernel_rfl)
  obtain ⟨v0, w0, r0⟩ := rdL (ec := Tm.enc) (wf := Tm.wf) Try.underlying22 (show Try.prog.cellsOf 62 = 4 from by kernel_rfl) (by omega) (fun m _ cs x h => rd_tm m cs x h) h0
  obtain ⟨v1, w1, r1⟩ := rdL (ec := GMove.enc) (wf := GMove.wf) Try.underlying23 (show Try.prog.cellsOf 66 = 4 from by kernel_rfl) (by omega) (fun m _ cs x h => rd_Move m cs x h) h1
  obtain ⟨v2, w2, r2⟩ := rdB Try.underlying4 _ _ _ h2
  refine ⟨⟨v0, v1, v2⟩, ⟨w0, w1, w2⟩, GSpace.enc_len _, ?_⟩
  have := (RdL.next (cs := cs) (o := 0) r0 (RdL.next r1 (RdL.last r2 hlen)))
  simpa [GSpace.enc] using this
end
end Go.Ai
