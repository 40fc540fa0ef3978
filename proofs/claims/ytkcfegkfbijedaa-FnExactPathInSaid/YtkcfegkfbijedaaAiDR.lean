/- How the arguments are read: written by mk6.py. -/
import Derived.Test.YtkcfegkfbijedaaAiD1
import Derived.ReadAgain
namespace Go.Ai
set_option linter.unusedVariables false
set_option linter.unusedSimpArgs false
open Go.Proofs Go.RowKit Go.ChangeShapes
set_option maxRecDepth 100000

theorem kids : Kids Try.prog (· < Try.prog.types.size) := kids_rows (by kernel_rfl) (by kernel_rfl)
theorem full : ∀ t e, t < Try.prog.types.size → Try.prog.underlying t = some (.slice e) → 0 < Try.prog.cellsOf e := slices_full_of Try.prog (by kernel_rfl)
section
variable {H : Type} {enc : TypeId × Value → H} {w : World}
theorem rd_tm : ∀ (fuel : Nat) (cs : List Value) (x : DataW H × List MemPlace), trodA enc Try.prog w fuel 62 cs = some x → ∃ t : Tm, t.wf ∧ t.enc.length = 4 ∧ RdL w t.enc cs := by
  intro fuel
  induction fuel using Nat.strongRecOn with
  | _ fuel ih =>
    intro cs x h
    obtain ⟨xs, m, hm, _, hlen, hxl, hf⟩ := DataW.trod_struct Try.underlying62 h
    rw [show Try.prog.cellsOf 62 = 4 from by kernel_rfl] at hlen
    obtain ⟨y0, h0⟩ := field_of hxl hf 0 _ rfl (ty := 3) (off := 0) (c := 1) rfl rfl (by kernel_rfl)
    obtain ⟨y1, h1⟩ := field_of hxl hf 1 _ rfl (ty := 3) (off := 1) (c := 1) rfl rfl (by kernel_rfl)
    obtain ⟨y2, h2⟩ := field_of hxl hf 2 _ rfl (ty := 9) (off := 2) (c := 1) rfl rfl (by kernel_rfl)
    obtain ⟨y3, h3⟩ := field_of hxl hf 3 _ rfl (ty := 22) (off := 3) (c := 1) rfl rfl (by kernel_rfl)
    obtain ⟨k, wk, r0⟩ := rd_int Try.underlying3 h0
    obtain ⟨n, wn, r1⟩ := rd_int Try.underlying3 h1
    obtain ⟨s, ws, r2⟩ := rd_string Try.underlying9 h2
    obtain ⟨ts, wts, lts, r3⟩ := rd_slice (ec := Tm.enc) (wf := Tm.wf) Try.underlying22 (show Try.prog.cellsOf 62 = 4 from by kernel_rfl) (by omega) (fun m' hm' cs x h => by
      obtain ⟨t, a, b, c⟩ := ih m' (by omega) cs x h
      exact ⟨t, a, b, c⟩) h3
    refine ⟨.mk k n s ts, ⟨wk, wn, ws, lts, (wfs_iff ts).2 wts⟩, rfl, ?_⟩
    have := RdL.next (cs := cs) (o := 0) r0 (RdL.next r1 (RdL.next r2 (RdL.last r3 hlen)))
    simpa [Tm.enc, encs_map] using this
theorem dr_end : True := trivial
end
end Go.Ai
