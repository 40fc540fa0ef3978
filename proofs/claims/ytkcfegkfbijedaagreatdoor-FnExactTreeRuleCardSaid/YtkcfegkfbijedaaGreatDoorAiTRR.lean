/- How a tree is read: written by mk33.py. -/
import Derived.Test.YtkcfegkfbijedaaGreatDoorAiTR1
import Derived.Test.YtkcfegkfbijedaaGreatDoorAiDR
namespace Go.Ai
set_option linter.unusedVariables false
set_option linter.unusedSimpArgs false
open Go.Proofs Go.RowKit Go.ChangeShapes
set_option maxRecDepth 100000

section
variable {H : Type} {enc : TypeId × Value → H} {w : World}
theorem rd_TreeNode : ∀ (fuel : Nat) (cs : List Value) (x : DataW H × List MemPlace), trodA enc Tryz.prog w fuel 90 cs = some x → ∃ a : GTreeNode, a.wf ∧ a.enc.length = 5 ∧ RdL w a.enc cs := by
  intro fuel cs x h
  obtain ⟨xs, m, hm, _, hlen, hxl, hf⟩ := DataW.trod_struct Tryz.underlying90 h
  rw [show Tryz.prog.cellsOf 90 = 5 from by kernel_rfl] at hlen
  obtain ⟨y0, h0⟩ := field_of hxl hf 0 _ rfl (ty := 65) (off := 0) (c := 1) rfl rfl (by kernel_rfl)
  obtain ⟨y1, h1⟩ := field_of hxl hf 1 _ rfl (ty := 22) (off := 1) (c := 1) rfl rfl (by kernel_rfl)
  obtain ⟨y2, h2⟩ := field_of hxl hf 2 _ rfl (ty := 65) (off := 2) (c := 1) rfl rfl (by kernel_rfl)
  obtain ⟨y3, h3⟩ := field_of hxl hf 3 _ rfl (ty := 3) (off := 3) (c := 1) rfl rfl (by kernel_rfl)
  obtain ⟨y4, h4⟩ := field_of hxl hf 4 _ rfl (ty := 65) (off := 4) (c := 1) rfl rfl (by kernel_rfl)
  obtain ⟨v0, w0, r0⟩ := rdL (ec := encI) (wf := wfI) Tryz.underlying65 (show Tryz.prog.cellsOf 3 = 1 from by kernel_rfl) (by omega) (fun m _ cs x h => rdI3 Tryz.underlying3 m cs x h) h0
  obtain ⟨v1, w1, r1⟩ := rdL (ec := encS) (wf := wfS) Tryz.underlying22 (show Tryz.prog.cellsOf 9 = 1 from by kernel_rfl) (by omega) (fun m _ cs x h => rdS3 Tryz.underlying9 m cs x h) h1
  obtain ⟨v2, w2, r2⟩ := rdL (ec := encI) (wf := wfI) Tryz.underlying65 (show Tryz.prog.cellsOf 3 = 1 from by kernel_rfl) (by omega) (fun m _ cs x h => rdI3 Tryz.underlying3 m cs x h) h2
  obtain ⟨v3, w3, r3⟩ := rdI Tryz.underlying3 _ _ _ h3
  obtain ⟨v4, w4, r4⟩ := rdL (ec := encI) (wf := wfI) Tryz.underlying65 (show Tryz.prog.cellsOf 3 = 1 from by kernel_rfl) (by omega) (fun m _ cs x h => rdI3 Tryz.underlying3 m cs x h) h4
  refine ⟨⟨v0, v1, v2, v3, v4⟩, ⟨w0, w1, w2, w3, w4⟩, GTreeNode.enc_len _, ?_⟩
  have := (RdL.next (cs := cs) (o := 0) r0 (RdL.next r1 (RdL.next r2 (RdL.next r3 (RdL.last r4 hlen)))))
  simpa [GTreeNode.enc] using this
theorem rd_Tree : ∀ (fuel : Nat) (cs : List Value) (x : DataW H × List MemPlace), trodA enc Tryz.prog w fuel 32 cs = some x → ∃ a : GTree, a.wf ∧ a.enc.length = 1 ∧ RdL w a.enc cs := by
  intro fuel cs x h
  obtain ⟨xs, m, hm, _, hlen, hxl, hf⟩ := DataW.trod_struct Tryz.underlying32 h
  rw [show Tryz.prog.cellsOf 32 = 1 from by kernel_rfl] at hlen
  obtain ⟨y0, h0⟩ := field_of hxl hf 0 _ rfl (ty := 30) (off := 0) (c := 1) rfl rfl (by kernel_rfl)
  obtain ⟨v0, w0, r0⟩ := rdL (ec := GTreeNode.enc) (wf := GTreeNode.wf) Tryz.underlying30 (show Tryz.prog.cellsOf 90 = 5 from by kernel_rfl) (by omega) (fun m _ cs x h => rd_TreeNode m cs x h) h0
  refine ⟨⟨v0⟩, w0, GTree.enc_len _, ?_⟩
  have := (RdL.last r0 hlen)
  simpa [GTree.enc] using this
end
end Go.Ai
