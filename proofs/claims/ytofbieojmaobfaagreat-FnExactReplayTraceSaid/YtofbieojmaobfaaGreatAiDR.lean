/- How the arguments are read: written by mk6.py. -/
import Derived.Test.YtofbieojmaobfaaGreatAiD1
import Derived.ReadAgain
set_option linter.unusedVariables false
set_option linter.unusedSimpArgs false
namespace Go.Ai
open Go.Proofs Go.RowKit Go.ChangeShapes
set_option maxRecDepth 100000
theorem kids : Kids Tryz.prog (· < Tryz.prog.types.size) := kids_rows (by kernel_rfl) (by kernel_rfl)
theorem full : ∀ t e, t < Tryz.prog.types.size → Tryz.prog.underlying t = some (.slice e) → 0 < Tryz.prog.cellsOf e := slices_full_of Tryz.prog (by kernel_rfl)
section
variable {H : Type} {enc : TypeId × Value → H} {w : World}
theorem rd_tm : ∀ (fuel : Nat) (cs : List Value) (x : DataW H × List MemPlace), trodA enc Tryz.prog w fuel 60 cs = some x → ∃ t : Tm, t.wf ∧ t.enc.length = 4 ∧ RdL w t.enc cs := by
 intro fuel
 induction fuel using Nat.strongRecOn with
 | _ fuel ih =>
  intro cs x h
  obtain ⟨xs, m, hm, _, hlen, hxl, hf⟩ := DataW.trod_struct Tryz.underlying60 h
  rw [show Tryz.prog.cellsOf 60 = 4 from by kernel_rfl] at hlen
  obtain ⟨y0, h0⟩ := field_of hxl hf 0 _ rfl (ty := 3) (off := 0) (c := 1) rfl rfl (by kernel_rfl)
  obtain ⟨y1, h1⟩ := field_of hxl hf 1 _ rfl (ty := 3) (off := 1) (c := 1) rfl rfl (by kernel_rfl)
  obtain ⟨y2, h2⟩ := field_of hxl hf 2 _ rfl (ty := 9) (off := 2) (c := 1) rfl rfl (by kernel_rfl)
  obtain ⟨y3, h3⟩ := field_of hxl hf 3 _ rfl (ty := 30) (off := 3) (c := 1) rfl rfl (by kernel_rfl)
  obtain ⟨k, wk, r0⟩ := rd_int Tryz.underlying3 h0
  obtain ⟨n, wn, r1⟩ := rd_int Tryz.underlying3 h1
  obtain ⟨s, ws, r2⟩ := rd_string Tryz.underlying9 h2
  obtain ⟨ts, wts, lts, r3⟩ := rd_slice (ec := Tm.enc) (wf := Tm.wf) Tryz.underlying30 (show Tryz.prog.cellsOf 60 = 4 from by kernel_rfl) (by omega) (fun m' hm' cs x h => by
   obtain ⟨t, a, b, c⟩ := ih m' (by omega) cs x h
   exact ⟨t, a, b, c⟩) h3
  refine ⟨.mk k n s ts, ⟨wk, wn, ws, lts, (wfs_iff ts).2 wts⟩, rfl, ?_⟩
  have := RdL.next (cs := cs) (o := 0) r0 (RdL.next r1 (RdL.next r2 (RdL.last r3 hlen)))
  simpa [Tm.enc, encs_map] using this
theorem rd_Guard : ∀ (fuel : Nat) (cs : List Value) (x : DataW H × List MemPlace), trodA enc Tryz.prog w fuel 234 cs = some x → ∃ a : GGuard, a.wf ∧ a.enc.length = 9 ∧ RdL w a.enc cs := by
 intro fuel cs x h
 obtain ⟨xs, m, hm, _, hlen, hxl, hf⟩ := DataW.trod_struct Tryz.underlying234 h
 rw [show Tryz.prog.cellsOf 234 = 9 from by kernel_rfl] at hlen
 obtain ⟨y0, h0⟩ := field_of hxl hf 0 _ rfl (ty := 3) (off := 0) (c := 1) rfl rfl (by kernel_rfl)
 obtain ⟨y1, h1⟩ := field_of hxl hf 1 _ rfl (ty := 60) (off := 1) (c := 4) rfl rfl (by kernel_rfl)
 obtain ⟨y2, h2⟩ := field_of hxl hf 2 _ rfl (ty := 60) (off := 5) (c := 4) rfl rfl (by kernel_rfl)
 obtain ⟨v0, w0, r0⟩ := rdI Tryz.underlying3 _ _ _ h0
 obtain ⟨v1, w1, r1⟩ := rdN (rd_tm _ _ _ h1)
 obtain ⟨v2, w2, r2⟩ := rdN (rd_tm _ _ _ h2)
 refine ⟨⟨v0, v1, v2⟩, ⟨w0, w1, w2⟩, GGuard.enc_len _, ?_⟩
 have := (RdL.next (cs := cs) (o := 0) r0 (RdL.next r1 (RdL.last r2 hlen)))
 simpa [GGuard.enc] using this
theorem rd_Rule : ∀ (fuel : Nat) (cs : List Value) (x : DataW H × List MemPlace), trodA enc Tryz.prog w fuel 146 cs = some x → ∃ a : GRule, a.wf ∧ a.enc.length = 10 ∧ RdL w a.enc cs := by
 intro fuel cs x h
 obtain ⟨xs, m, hm, _, hlen, hxl, hf⟩ := DataW.trod_struct Tryz.underlying146 h
 rw [show Tryz.prog.cellsOf 146 = 10 from by kernel_rfl] at hlen
 obtain ⟨y0, h0⟩ := field_of hxl hf 0 _ rfl (ty := 9) (off := 0) (c := 1) rfl rfl (by kernel_rfl)
 obtain ⟨y1, h1⟩ := field_of hxl hf 1 _ rfl (ty := 60) (off := 1) (c := 4) rfl rfl (by kernel_rfl)
 obtain ⟨y2, h2⟩ := field_of hxl hf 2 _ rfl (ty := 60) (off := 5) (c := 4) rfl rfl (by kernel_rfl)
 obtain ⟨y3, h3⟩ := field_of hxl hf 3 _ rfl (ty := 144) (off := 9) (c := 1) rfl rfl (by kernel_rfl)
 obtain ⟨v0, w0, r0⟩ := rdS Tryz.underlying9 _ _ _ h0
 obtain ⟨v1, w1, r1⟩ := rdN (rd_tm _ _ _ h1)
 obtain ⟨v2, w2, r2⟩ := rdN (rd_tm _ _ _ h2)
 obtain ⟨v3, w3, r3⟩ := rdL (ec := GGuard.enc) (wf := GGuard.wf) Tryz.underlying144 (show Tryz.prog.cellsOf 234 = 9 from by kernel_rfl) (by omega) (fun m _ cs x h => rd_Guard m cs x h) h3
 refine ⟨⟨v0, v1, v2, v3⟩, ⟨w0, w1, w2, w3⟩, GRule.enc_len _, ?_⟩
 have := (RdL.next (cs := cs) (o := 0) r0 (RdL.next r1 (RdL.next r2 (RdL.last r3 hlen))))
 simpa [GRule.enc] using this
theorem rd_Op : ∀ (fuel : Nat) (cs : List Value) (x : DataW H × List MemPlace), trodA enc Tryz.prog w fuel 202 cs = some x → ∃ a : GOp, a.wf ∧ a.enc.length = 3 ∧ RdL w a.enc cs := by
 intro fuel cs x h
 obtain ⟨xs, m, hm, _, hlen, hxl, hf⟩ := DataW.trod_struct Tryz.underlying202 h
 rw [show Tryz.prog.cellsOf 202 = 3 from by kernel_rfl] at hlen
 obtain ⟨y0, h0⟩ := field_of hxl hf 0 _ rfl (ty := 9) (off := 0) (c := 1) rfl rfl (by kernel_rfl)
 obtain ⟨y1, h1⟩ := field_of hxl hf 1 _ rfl (ty := 22) (off := 1) (c := 1) rfl rfl (by kernel_rfl)
 obtain ⟨y2, h2⟩ := field_of hxl hf 2 _ rfl (ty := 9) (off := 2) (c := 1) rfl rfl (by kernel_rfl)
 obtain ⟨v0, w0, r0⟩ := rdS Tryz.underlying9 _ _ _ h0
 obtain ⟨v1, w1, r1⟩ := rdL (ec := encS) (wf := wfS) Tryz.underlying22 (show Tryz.prog.cellsOf 9 = 1 from by kernel_rfl) (by omega) (fun m _ cs x h => rdS3 Tryz.underlying9 m cs x h) h1
 obtain ⟨v2, w2, r2⟩ := rdS Tryz.underlying9 _ _ _ h2
 refine ⟨⟨v0, v1, v2⟩, ⟨w0, w1, w2⟩, GOp.enc_len _, ?_⟩
 have := (RdL.next (cs := cs) (o := 0) r0 (RdL.next r1 (RdL.last r2 hlen)))
 simpa [GOp.enc] using this
theorem rd_Signature : ∀ (fuel : Nat) (cs : List Value) (x : DataW H × List MemPlace), trodA enc Tryz.prog w fuel 25 cs = some x → ∃ a : GSignature, a.wf ∧ a.enc.length = 2 ∧ RdL w a.enc cs := by
 intro fuel cs x h
 obtain ⟨xs, m, hm, _, hlen, hxl, hf⟩ := DataW.trod_struct Tryz.underlying25 h
 rw [show Tryz.prog.cellsOf 25 = 2 from by kernel_rfl] at hlen
 obtain ⟨y0, h0⟩ := field_of hxl hf 0 _ rfl (ty := 22) (off := 0) (c := 1) rfl rfl (by kernel_rfl)
 obtain ⟨y1, h1⟩ := field_of hxl hf 1 _ rfl (ty := 23) (off := 1) (c := 1) rfl rfl (by kernel_rfl)
 obtain ⟨v0, w0, r0⟩ := rdL (ec := encS) (wf := wfS) Tryz.underlying22 (show Tryz.prog.cellsOf 9 = 1 from by kernel_rfl) (by omega) (fun m _ cs x h => rdS3 Tryz.underlying9 m cs x h) h0
 obtain ⟨v1, w1, r1⟩ := rdL (ec := GOp.enc) (wf := GOp.wf) Tryz.underlying23 (show Tryz.prog.cellsOf 202 = 3 from by kernel_rfl) (by omega) (fun m _ cs x h => rd_Op m cs x h) h1
 refine ⟨⟨v0, v1⟩, ⟨w0, w1⟩, GSignature.enc_len _, ?_⟩
 have := (RdL.next (cs := cs) (o := 0) r0 (RdL.last r1 hlen))
 simpa [GSignature.enc] using this
theorem rd_Strict : ∀ (fuel : Nat) (cs : List Value) (x : DataW H × List MemPlace), trodA enc Tryz.prog w fuel 149 cs = some x → ∃ a : GStrict, a.wf ∧ a.enc.length = 2 ∧ RdL w a.enc cs := by
 intro fuel cs x h
 obtain ⟨xs, m, hm, _, hlen, hxl, hf⟩ := DataW.trod_struct Tryz.underlying149 h
 rw [show Tryz.prog.cellsOf 149 = 2 from by kernel_rfl] at hlen
 obtain ⟨y0, h0⟩ := field_of hxl hf 0 _ rfl (ty := 9) (off := 0) (c := 1) rfl rfl (by kernel_rfl)
 obtain ⟨y1, h1⟩ := field_of hxl hf 1 _ rfl (ty := 3) (off := 1) (c := 1) rfl rfl (by kernel_rfl)
 obtain ⟨v0, w0, r0⟩ := rdS Tryz.underlying9 _ _ _ h0
 obtain ⟨v1, w1, r1⟩ := rdI Tryz.underlying3 _ _ _ h1
 refine ⟨⟨v0, v1⟩, ⟨w0, w1⟩, GStrict.enc_len _, ?_⟩
 have := (RdL.next (cs := cs) (o := 0) r0 (RdL.last r1 hlen))
 simpa [GStrict.enc] using this
theorem rd_Definition : ∀ (fuel : Nat) (cs : List Value) (x : DataW H × List MemPlace), trodA enc Tryz.prog w fuel 29 cs = some x → ∃ a : GDefinition, a.wf ∧ a.enc.length = 4 ∧ RdL w a.enc cs := by
 intro fuel cs x h
 obtain ⟨xs, m, hm, _, hlen, hxl, hf⟩ := DataW.trod_struct Tryz.underlying29 h
 rw [show Tryz.prog.cellsOf 29 = 4 from by kernel_rfl] at hlen
 obtain ⟨y0, h0⟩ := field_of hxl hf 0 _ rfl (ty := 25) (off := 0) (c := 2) rfl rfl (by kernel_rfl)
 obtain ⟨y1, h1⟩ := field_of hxl hf 1 _ rfl (ty := 26) (off := 2) (c := 1) rfl rfl (by kernel_rfl)
 obtain ⟨y2, h2⟩ := field_of hxl hf 2 _ rfl (ty := 27) (off := 3) (c := 1) rfl rfl (by kernel_rfl)
 obtain ⟨v0, w0, r0⟩ := rdN (rd_Signature _ _ _ h0)
 obtain ⟨v1, w1, r1⟩ := rdL (ec := GRule.enc) (wf := GRule.wf) Tryz.underlying26 (show Tryz.prog.cellsOf 146 = 10 from by kernel_rfl) (by omega) (fun m _ cs x h => rd_Rule m cs x h) h1
 obtain ⟨v2, w2, r2⟩ := rdL (ec := GStrict.enc) (wf := GStrict.wf) Tryz.underlying27 (show Tryz.prog.cellsOf 149 = 2 from by kernel_rfl) (by omega) (fun m _ cs x h => rd_Strict m cs x h) h2
 refine ⟨⟨v0, v1, v2⟩, ⟨w0, w1, w2⟩, GDefinition.enc_len _, ?_⟩
 have := (RdL.next (cs := cs) (o := 0) r0 (RdL.next r1 (RdL.last r2 hlen)))
 simpa [GDefinition.enc] using this
end
end Go.Ai
