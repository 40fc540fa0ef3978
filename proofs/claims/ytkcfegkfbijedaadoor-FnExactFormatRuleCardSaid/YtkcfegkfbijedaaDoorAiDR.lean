/- How the arguments are read: written by mk6.py. -/
import Derived.Test.YtkcfegkfbijedaaDoorAiD1
import Derived.ReadAgain
namespace Go.Ai
set_option linter.unusedVariables false
set_option linter.unusedSimpArgs false
open Go.Proofs Go.RowKit Go.ChangeShapes
set_option maxRecDepth 100000

theorem kids : Kids Tryd.prog (· < Tryd.prog.types.size) := kids_rows (by kernel_rfl) (by kernel_rfl)
theorem full : ∀ t e, t < Tryd.prog.types.size → Tryd.prog.underlying t = some (.slice e) → 0 < Tryd.prog.cellsOf e := slices_full_of Tryd.prog (by kernel_rfl)
section
variable {H : Type} {enc : TypeId × Value → H} {w : World}
theorem rd_tm : ∀ (fuel : Nat) (cs : List Value) (x : DataW H × List MemPlace), trodA enc Tryd.prog w fuel 24 cs = some x → ∃ t : Tm, t.wf ∧ t.enc.length = 4 ∧ RdL w t.enc cs := by
  intro fuel
  induction fuel using Nat.strongRecOn with
  | _ fuel ih =>
    intro cs x h
    obtain ⟨xs, m, hm, _, hlen, hxl, hf⟩ := DataW.trod_struct Tryd.underlying24 h
    rw [show Tryd.prog.cellsOf 24 = 4 from by kernel_rfl] at hlen
    obtain ⟨y0, h0⟩ := field_of hxl hf 0 _ rfl (ty := 3) (off := 0) (c := 1) rfl rfl (by kernel_rfl)
    obtain ⟨y1, h1⟩ := field_of hxl hf 1 _ rfl (ty := 3) (off := 1) (c := 1) rfl rfl (by kernel_rfl)
    obtain ⟨y2, h2⟩ := field_of hxl hf 2 _ rfl (ty := 9) (off := 2) (c := 1) rfl rfl (by kernel_rfl)
    obtain ⟨y3, h3⟩ := field_of hxl hf 3 _ rfl (ty := 22) (off := 3) (c := 1) rfl rfl (by kernel_rfl)
    obtain ⟨k, wk, r0⟩ := rd_int Tryd.underlying3 h0
    obtain ⟨n, wn, r1⟩ := rd_int Tryd.underlying3 h1
    obtain ⟨s, ws, r2⟩ := rd_string Tryd.underlying9 h2
    obtain ⟨ts, wts, lts, r3⟩ := rd_slice (ec := Tm.enc) (wf := Tm.wf) Tryd.underlying22 (show Tryd.prog.cellsOf 24 = 4 from by kernel_rfl) (by omega) (fun m' hm' cs x h => by
      obtain ⟨t, a, b, c⟩ := ih m' (by omega) cs x h
      exact ⟨t, a, b, c⟩) h3
    refine ⟨.mk k n s ts, ⟨wk, wn, ws, lts, (wfs_iff ts).2 wts⟩, rfl, ?_⟩
    have := RdL.next (cs := cs) (o := 0) r0 (RdL.next r1 (RdL.next r2 (RdL.last r3 hlen)))
    simpa [Tm.enc, encs_map] using this
theorem rd_Guard : ∀ (fuel : Nat) (cs : List Value) (x : DataW H × List MemPlace), trodA enc Tryd.prog w fuel 94 cs = some x → ∃ a : GGuard, a.wf ∧ a.enc.length = 9 ∧ RdL w a.enc cs := by
  intro fuel cs x h
  obtain ⟨xs, m, hm, _, hlen, hxl, hf⟩ := DataW.trod_struct Tryd.underlying94 h
  rw [show Tryd.prog.cellsOf 94 = 9 from by kernel_rfl] at hlen
  obtain ⟨y0, h0⟩ := field_of hxl hf 0 _ rfl (ty := 3) (off := 0) (c := 1) rfl rfl (by kernel_rfl)
  obtain ⟨y1, h1⟩ := field_of hxl hf 1 _ rfl (ty := 24) (off := 1) (c := 4) rfl rfl (by kernel_rfl)
  obtain ⟨y2, h2⟩ := field_of hxl hf 2 _ rfl (ty := 24) (off := 5) (c := 4) rfl rfl (by kernel_rfl)
  obtain ⟨v0, w0, r0⟩ := rdI Tryd.underlying3 _ _ _ h0
  obtain ⟨v1, w1, r1⟩ := rdN (rd_tm _ _ _ h1)
  obtain ⟨v2, w2, r2⟩ := rdN (rd_tm _ _ _ h2)
  refine ⟨⟨v0, v1, v2⟩, ⟨w0, w1, w2⟩, GGuard.enc_len _, ?_⟩
  have := (RdL.next (cs := cs) (o := 0) r0 (RdL.next r1 (RdL.last r2 hlen)))
  simpa [GGuard.enc] using this
theorem rd_Rule : ∀ (fuel : Nat) (cs : List Value) (x : DataW H × List MemPlace), trodA enc Tryd.prog w fuel 52 cs = some x → ∃ a : GRule, a.wf ∧ a.enc.length = 10 ∧ RdL w a.enc cs := by
  intro fuel cs x h
  obtain ⟨xs, m, hm, _, hlen, hxl, hf⟩ := DataW.trod_struct Tryd.underlying52 h
  rw [show Tryd.prog.cellsOf 52 = 10 from by kernel_rfl] at hlen
  obtain ⟨y0, h0⟩ := field_of hxl hf 0 _ rfl (ty := 9) (off := 0) (c := 1) rfl rfl (by kernel_rfl)
  obtain ⟨y1, h1⟩ := field_of hxl hf 1 _ rfl (ty := 24) (off := 1) (c := 4) rfl rfl (by kernel_rfl)
  obtain ⟨y2, h2⟩ := field_of hxl hf 2 _ rfl (ty := 24) (off := 5) (c := 4) rfl rfl (by kernel_rfl)
  obtain ⟨y3, h3⟩ := field_of hxl hf 3 _ rfl (ty := 50) (off := 9) (c := 1) rfl rfl (by kernel_rfl)
  obtain ⟨v0, w0, r0⟩ := rdS Tryd.underlying9 _ _ _ h0
  obtain ⟨v1, w1, r1⟩ := rdN (rd_tm _ _ _ h1)
  obtain ⟨v2, w2, r2⟩ := rdN (rd_tm _ _ _ h2)
  obtain ⟨v3, w3, r3⟩ := rdL (ec := GGuard.enc) (wf := GGuard.wf) Tryd.underlying50 (show Tryd.prog.cellsOf 94 = 9 from by kernel_rfl) (by omega) (fun m _ cs x h => rd_Guard m cs x h) h3
  refine ⟨⟨v0, v1, v2, v3⟩, ⟨w0, w1, w2, w3⟩, GRule.enc_len _, ?_⟩
  have := (RdL.next (cs := cs) (o := 0) r0 (RdL.next r1 (RdL.next r2 (RdL.last r3 hlen))))
  simpa [GRule.enc] using this
theorem dr_end : True := trivial
end
end Go.Ai
