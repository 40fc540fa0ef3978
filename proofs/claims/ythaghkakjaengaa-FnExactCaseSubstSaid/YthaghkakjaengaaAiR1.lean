/- How the arguments are read: written by mk4.py. -/
import Derived.Test.YthaghkakjaengaaAiC3
import Derived.ReadAgain
namespace Go.Ai
set_option linter.unusedVariables false
set_option linter.unusedSimpArgs false
open Go.Proofs Go.RowKit Go.ChangeShapes
set_option maxRecDepth 100000

theorem kids : Kids Try.prog (· < Try.prog.types.size) := kids_rows (by kernel_rfl) (by kernel_rfl)
theorem full : ∀ t e, t < Try.prog.types.size → Try.prog.underlying t = some (.slice e) → 0 < Try.prog.cellsOf e := slices_full_of Try.prog (by kernel_rfl)
section
variable {H : Type} {enc : TypeId × Value → H} {w : World}
theorem rd_tm : ∀ (fuel : Nat) (cs : List Value) (x : DataW H × List MemPlace), trodA enc Try.prog w fuel 31 cs = some x → ∃ t : Tm, t.wf ∧ t.enc.length = 4 ∧ RdL w t.enc cs := by
  intro fuel
  induction fuel using Nat.strongRecOn with
  | _ fuel ih =>
    intro cs x h
    obtain ⟨xs, m, hm, _, hlen, hxl, hf⟩ := DataW.trod_struct Try.underlying31 h
    rw [show Try.prog.cellsOf 31 = 4 from by kernel_rfl] at hlen
    obtain ⟨y0, h0⟩ := field_of hxl hf 0 _ rfl (ty := 3) (off := 0) (c := 1) rfl rfl (by kernel_rfl)
    obtain ⟨y1, h1⟩ := field_of hxl hf 1 _ rfl (ty := 3) (off := 1) (c := 1) rfl rfl (by kernel_rfl)
    obtain ⟨y2, h2⟩ := field_of hxl hf 2 _ rfl (ty := 9) (off := 2) (c := 1) rfl rfl (by kernel_rfl)
    obtain ⟨y3, h3⟩ := field_of hxl hf 3 _ rfl (ty := 29) (off := 3) (c := 1) rfl rfl (by kernel_rfl)
    obtain ⟨k, wk, r0⟩ := rd_int Try.underlying3 h0
    obtain ⟨n, wn, r1⟩ := rd_int Try.underlying3 h1
    obtain ⟨s, ws, r2⟩ := rd_string Try.underlying9 h2
    obtain ⟨ts, wts, lts, r3⟩ := rd_slice (ec := Tm.enc) (wf := Tm.wf) Try.underlying29 (show Try.prog.cellsOf 31 = 4 from by kernel_rfl) (by omega) (fun m' hm' cs x h => by
      obtain ⟨t, a, b, c⟩ := ih m' (by omega) cs x h
      exact ⟨t, a, b, c⟩) h3
    refine ⟨.mk k n s ts, ⟨wk, wn, ws, lts, (wfs_iff ts).2 wts⟩, rfl, ?_⟩
    have := RdL.next (cs := cs) (o := 0) r0 (RdL.next r1 (RdL.next r2 (RdL.last r3 hlen)))
    simpa [Tm.enc, encs_map] using this
theorem rd_Frame : ∀ (fuel : Nat) (cs : List Value) (x : DataW H × List MemPlace), trodA enc Try.prog w fuel 101 cs = some x → ∃ a : GFrame, a.wf ∧ a.enc.length = 5 ∧ RdL w a.enc cs := by
  intro fuel cs x h
  obtain ⟨xs, m, hm, _, hlen, hxl, hf⟩ := DataW.trod_struct Try.underlying101 h
  rw [show Try.prog.cellsOf 101 = 5 from by kernel_rfl] at hlen
  obtain ⟨y0, h0⟩ := field_of hxl hf 0 _ rfl (ty := 31) (off := 0) (c := 4) rfl rfl (by kernel_rfl)
  obtain ⟨y1, h1⟩ := field_of hxl hf 1 _ rfl (ty := 3) (off := 4) (c := 1) rfl rfl (by kernel_rfl)
  obtain ⟨v0, w0, r0⟩ := rdN (rd_tm _ _ _ h0)
  obtain ⟨v1, w1, r1⟩ := rdI Try.underlying3 _ _ _ h1
  refine ⟨⟨v0, v1⟩, ⟨w0, w1⟩, GFrame.enc_len _, ?_⟩
  have := (RdL.next (cs := cs) (o := 0) r0 (RdL.last r1 hlen))
  simpa [GFrame.enc] using this
theorem rd_Machine : ∀ (fuel : Nat) (cs : List Value) (x : DataW H × List MemPlace), trodA enc Try.prog w fuel 45 cs = some x → ∃ a : GMachine, a.wf ∧ a.enc.length = 7 ∧ RdL w a.enc cs := by
  intro fuel cs x h
  obtain ⟨xs, m, hm, _, hlen, hxl, hf⟩ := DataW.trod_struct Try.underlying45 h
  rw [show Try.prog.cellsOf 45 = 7 from by kernel_rfl] at hlen
  obtain ⟨y0, h0⟩ := field_of hxl hf 0 _ rfl (ty := 31) (off := 0) (c := 4) rfl rfl (by kernel_rfl)
  obtain ⟨y1, h1⟩ := field_of hxl hf 1 _ rfl (ty := 3) (off := 4) (c := 1) rfl rfl (by kernel_rfl)
  obtain ⟨y2, h2⟩ := field_of hxl hf 2 _ rfl (ty := 43) (off := 5) (c := 1) rfl rfl (by kernel_rfl)
  obtain ⟨y3, h3⟩ := field_of hxl hf 3 _ rfl (ty := 3) (off := 6) (c := 1) rfl rfl (by kernel_rfl)
  obtain ⟨v0, w0, r0⟩ := rdN (rd_tm _ _ _ h0)
  obtain ⟨v1, w1, r1⟩ := rdI Try.underlying3 _ _ _ h1
  obtain ⟨v2, w2, r2⟩ := rdL (ec := GFrame.enc) (wf := GFrame.wf) Try.underlying43 (show Try.prog.cellsOf 101 = 5 from by kernel_rfl) (by omega) (fun m _ cs x h => rd_Frame m cs x h) h2
  obtain ⟨v3, w3, r3⟩ := rdI Try.underlying3 _ _ _ h3
  refine ⟨⟨v0, v1, v2, v3⟩, ⟨w0, w1, w2, w3⟩, GMachine.enc_len _, ?_⟩
  have := (RdL.next (cs := cs) (o := 0) r0 (RdL.next r1 (RdL.next r2 (RdL.last r3 hlen))))
  simpa [GMachine.enc] using this
theorem rd_Symbolic : ∀ (fuel : Nat) (cs : List Value) (x : DataW H × List MemPlace), trodA enc Try.prog w fuel 55 cs = some x → ∃ a : GSymbolic, a.wf ∧ a.enc.length = 6 ∧ RdL w a.enc cs := by
  intro fuel cs x h
  obtain ⟨xs, m, hm, _, hlen, hxl, hf⟩ := DataW.trod_struct Try.underlying55 h
  rw [show Try.prog.cellsOf 55 = 6 from by kernel_rfl] at hlen
  obtain ⟨y0, h0⟩ := field_of hxl hf 0 _ rfl (ty := 53) (off := 0) (c := 1) rfl rfl (by kernel_rfl)
  obtain ⟨y1, h1⟩ := field_of hxl hf 1 _ rfl (ty := 31) (off := 1) (c := 4) rfl rfl (by kernel_rfl)
  obtain ⟨y2, h2⟩ := field_of hxl hf 2 _ rfl (ty := 24) (off := 5) (c := 1) rfl rfl (by kernel_rfl)
  obtain ⟨v0, w0, r0⟩ := rdL (ec := encS) (wf := wfS) Try.underlying53 (show Try.prog.cellsOf 9 = 1 from by kernel_rfl) (by omega) (fun m _ cs x h => rdS3 Try.underlying9 m cs x h) h0
  obtain ⟨v1, w1, r1⟩ := rdN (rd_tm _ _ _ h1)
  obtain ⟨v2, w2, r2⟩ := rdL (ec := encI) (wf := wfI) Try.underlying24 (show Try.prog.cellsOf 3 = 1 from by kernel_rfl) (by omega) (fun m _ cs x h => rdI3 Try.underlying3 m cs x h) h2
  refine ⟨⟨v0, v1, v2⟩, ⟨w0, w1, w2⟩, GSymbolic.enc_len _, ?_⟩
  have := (RdL.next (cs := cs) (o := 0) r0 (RdL.next r1 (RdL.last r2 hlen)))
  simpa [GSymbolic.enc] using this
end
end Go.Ai
