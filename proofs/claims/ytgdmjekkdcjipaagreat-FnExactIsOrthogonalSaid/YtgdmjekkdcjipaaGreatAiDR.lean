/- How the arguments are read: written by mk6.py. -/
import Derived.Test.YtgdmjekkdcjipaaGreatAiD1
import Derived.ReadAgain
set_option linter.unusedVariables false
set_option linter.unusedSimpArgs false
namespace Go.Ai
open Go.Proofs Go.RowKit Go.ChangeShapes
set_option maxRecDepth 100000
theorem dy1 : Kids Tryz.prog (· < Tryz.prog.types.size) := kids_rows (by kernel_rfl) (by kernel_rfl)
theorem dw1 : ∀ t e, t < Tryz.prog.types.size → Tryz.prog.underlying t = some (.slice e) → 0 < Tryz.prog.cellsOf e := slices_full_of Tryz.prog (by kernel_rfl)
section
variable {H : Type} {enc : TypeId × Value → H} {w : World}
theorem yY1 : ∀ (fuel : Nat) (cs : List Value) (x : DataW H × List MemPlace), wy0 enc Tryz.prog w fuel 157 cs = some x → ∃ t : Tm, t.wf ∧ t.enc.length = 4 ∧ RdL w t.enc cs := by
 intro fuel
 induction fuel using Nat.strongRecOn with
 | _ fuel ih =>
  intro cs x h
  obtain ⟨xs, m, hm, _, hlen, hxl, hf⟩ := DataW.trod_struct Tryz.underlying157 h
  rw [show Tryz.prog.cellsOf 157 = 4 from by kernel_rfl] at hlen
  obtain ⟨y0, h0⟩ := zg0 hxl hf 0 _ rfl (ty := 3) (off := 0) (c := 1) rfl rfl (by kernel_rfl)
  obtain ⟨y1, h1⟩ := zg0 hxl hf 1 _ rfl (ty := 3) (off := 1) (c := 1) rfl rfl (by kernel_rfl)
  obtain ⟨y2, h2⟩ := zg0 hxl hf 2 _ rfl (ty := 9) (off := 2) (c := 1) rfl rfl (by kernel_rfl)
  obtain ⟨y3, h3⟩ := zg0 hxl hf 3 _ rfl (ty := 155) (off := 3) (c := 1) rfl rfl (by kernel_rfl)
  obtain ⟨k, wk, r0⟩ := qe1 Tryz.underlying3 h0
  obtain ⟨n, wn, r1⟩ := qe1 Tryz.underlying3 h1
  obtain ⟨s, ws, r2⟩ := gQ0 Tryz.underlying9 h2
  obtain ⟨ts, wts, lts, r3⟩ := rB0 (ec := Tm.enc) (wf := Tm.wf) Tryz.underlying155 (show Tryz.prog.cellsOf 157 = 4 from by kernel_rfl) (by omega) (fun m' hm' cs x h => by
   obtain ⟨t, a, b, c⟩ := ih m' (by omega) cs x h
   exact ⟨t, a, b, c⟩) h3
  refine ⟨.mk k n s ts, ⟨wk, wn, ws, lts, (kM0 ts).2 wts⟩, rfl, ?_⟩
  have := RdL.next (cs := cs) (o := 0) r0 (RdL.next r1 (RdL.next r2 (RdL.last r3 hlen)))
  simpa [Tm.enc, zc0] using this
theorem yX1 : ∀ (fuel : Nat) (cs : List Value) (x : DataW H × List MemPlace), wy0 enc Tryz.prog w fuel 229 cs = some x → ∃ a : GGuard, a.wf ∧ a.enc.length = 9 ∧ RdL w a.enc cs := by
 intro fuel cs x h
 obtain ⟨xs, m, hm, _, hlen, hxl, hf⟩ := DataW.trod_struct Tryz.underlying229 h
 rw [show Tryz.prog.cellsOf 229 = 9 from by kernel_rfl] at hlen
 obtain ⟨y0, h0⟩ := zg0 hxl hf 0 _ rfl (ty := 3) (off := 0) (c := 1) rfl rfl (by kernel_rfl)
 obtain ⟨y1, h1⟩ := zg0 hxl hf 1 _ rfl (ty := 157) (off := 1) (c := 4) rfl rfl (by kernel_rfl)
 obtain ⟨y2, h2⟩ := zg0 hxl hf 2 _ rfl (ty := 157) (off := 5) (c := 4) rfl rfl (by kernel_rfl)
 obtain ⟨v0, w0, r0⟩ := rdI Tryz.underlying3 _ _ _ h0
 obtain ⟨v1, w1, r1⟩ := rdN (yY1 _ _ _ h1)
 obtain ⟨v2, w2, r2⟩ := rdN (yY1 _ _ _ h2)
 refine ⟨⟨v0, v1, v2⟩, ⟨w0, w1, w2⟩, GGuard.enc_len _, ?_⟩
 have := (RdL.next (cs := cs) (o := 0) r0 (RdL.next r1 (RdL.last r2 hlen)))
 simpa [GGuard.enc] using this
theorem kd1 : ∀ (fuel : Nat) (cs : List Value) (x : DataW H × List MemPlace), wy0 enc Tryz.prog w fuel 160 cs = some x → ∃ a : GRule, a.wf ∧ a.enc.length = 10 ∧ RdL w a.enc cs := by
 intro fuel cs x h
 obtain ⟨xs, m, hm, _, hlen, hxl, hf⟩ := DataW.trod_struct Tryz.underlying160 h
 rw [show Tryz.prog.cellsOf 160 = 10 from by kernel_rfl] at hlen
 obtain ⟨y0, h0⟩ := zg0 hxl hf 0 _ rfl (ty := 9) (off := 0) (c := 1) rfl rfl (by kernel_rfl)
 obtain ⟨y1, h1⟩ := zg0 hxl hf 1 _ rfl (ty := 157) (off := 1) (c := 4) rfl rfl (by kernel_rfl)
 obtain ⟨y2, h2⟩ := zg0 hxl hf 2 _ rfl (ty := 157) (off := 5) (c := 4) rfl rfl (by kernel_rfl)
 obtain ⟨y3, h3⟩ := zg0 hxl hf 3 _ rfl (ty := 158) (off := 9) (c := 1) rfl rfl (by kernel_rfl)
 obtain ⟨v0, w0, r0⟩ := rdS Tryz.underlying9 _ _ _ h0
 obtain ⟨v1, w1, r1⟩ := rdN (yY1 _ _ _ h1)
 obtain ⟨v2, w2, r2⟩ := rdN (yY1 _ _ _ h2)
 obtain ⟨v3, w3, r3⟩ := rdL (ec := GGuard.enc) (wf := GGuard.wf) Tryz.underlying158 (show Tryz.prog.cellsOf 229 = 9 from by kernel_rfl) (by omega) (fun m _ cs x h => yX1 m cs x h) h3
 refine ⟨⟨v0, v1, v2, v3⟩, ⟨w0, w1, w2, w3⟩, GRule.enc_len _, ?_⟩
 have := (RdL.next (cs := cs) (o := 0) r0 (RdL.next r1 (RdL.next r2 (RdL.last r3 hlen))))
 simpa [GRule.enc] using this
theorem bC1 : ∀ (fuel : Nat) (cs : List Value) (x : DataW H × List MemPlace), wy0 enc Tryz.prog w fuel 201 cs = some x → ∃ a : GOp, a.wf ∧ a.enc.length = 3 ∧ RdL w a.enc cs := by
 intro fuel cs x h
 obtain ⟨xs, m, hm, _, hlen, hxl, hf⟩ := DataW.trod_struct Tryz.underlying201 h
 rw [show Tryz.prog.cellsOf 201 = 3 from by kernel_rfl] at hlen
 obtain ⟨y0, h0⟩ := zg0 hxl hf 0 _ rfl (ty := 9) (off := 0) (c := 1) rfl rfl (by kernel_rfl)
 obtain ⟨y1, h1⟩ := zg0 hxl hf 1 _ rfl (ty := 24) (off := 1) (c := 1) rfl rfl (by kernel_rfl)
 obtain ⟨y2, h2⟩ := zg0 hxl hf 2 _ rfl (ty := 9) (off := 2) (c := 1) rfl rfl (by kernel_rfl)
 obtain ⟨v0, w0, r0⟩ := rdS Tryz.underlying9 _ _ _ h0
 obtain ⟨v1, w1, r1⟩ := rdL (ec := encS) (wf := wfS) Tryz.underlying24 (show Tryz.prog.cellsOf 9 = 1 from by kernel_rfl) (by omega) (fun m _ cs x h => bB1 Tryz.underlying9 m cs x h) h1
 obtain ⟨v2, w2, r2⟩ := rdS Tryz.underlying9 _ _ _ h2
 refine ⟨⟨v0, v1, v2⟩, ⟨w0, w1, w2⟩, GOp.enc_len _, ?_⟩
 have := (RdL.next (cs := cs) (o := 0) r0 (RdL.next r1 (RdL.last r2 hlen)))
 simpa [GOp.enc] using this
theorem gP0 : ∀ (fuel : Nat) (cs : List Value) (x : DataW H × List MemPlace), wy0 enc Tryz.prog w fuel 58 cs = some x → ∃ a : GSignature, a.wf ∧ a.enc.length = 2 ∧ RdL w a.enc cs := by
 intro fuel cs x h
 obtain ⟨xs, m, hm, _, hlen, hxl, hf⟩ := DataW.trod_struct Tryz.underlying58 h
 rw [show Tryz.prog.cellsOf 58 = 2 from by kernel_rfl] at hlen
 obtain ⟨y0, h0⟩ := zg0 hxl hf 0 _ rfl (ty := 24) (off := 0) (c := 1) rfl rfl (by kernel_rfl)
 obtain ⟨y1, h1⟩ := zg0 hxl hf 1 _ rfl (ty := 56) (off := 1) (c := 1) rfl rfl (by kernel_rfl)
 obtain ⟨v0, w0, r0⟩ := rdL (ec := encS) (wf := wfS) Tryz.underlying24 (show Tryz.prog.cellsOf 9 = 1 from by kernel_rfl) (by omega) (fun m _ cs x h => bB1 Tryz.underlying9 m cs x h) h0
 obtain ⟨v1, w1, r1⟩ := rdL (ec := GOp.enc) (wf := GOp.wf) Tryz.underlying56 (show Tryz.prog.cellsOf 201 = 3 from by kernel_rfl) (by omega) (fun m _ cs x h => bC1 m cs x h) h1
 refine ⟨⟨v0, v1⟩, ⟨w0, w1⟩, GSignature.enc_len _, ?_⟩
 have := (RdL.next (cs := cs) (o := 0) r0 (RdL.last r1 hlen))
 simpa [GSignature.enc] using this
theorem qd1 : ∀ (fuel : Nat) (cs : List Value) (x : DataW H × List MemPlace), wy0 enc Tryz.prog w fuel 162 cs = some x → ∃ a : GStrict, a.wf ∧ a.enc.length = 2 ∧ RdL w a.enc cs := by
 intro fuel cs x h
 obtain ⟨xs, m, hm, _, hlen, hxl, hf⟩ := DataW.trod_struct Tryz.underlying162 h
 rw [show Tryz.prog.cellsOf 162 = 2 from by kernel_rfl] at hlen
 obtain ⟨y0, h0⟩ := zg0 hxl hf 0 _ rfl (ty := 9) (off := 0) (c := 1) rfl rfl (by kernel_rfl)
 obtain ⟨y1, h1⟩ := zg0 hxl hf 1 _ rfl (ty := 3) (off := 1) (c := 1) rfl rfl (by kernel_rfl)
 obtain ⟨v0, w0, r0⟩ := rdS Tryz.underlying9 _ _ _ h0
 obtain ⟨v1, w1, r1⟩ := rdI Tryz.underlying3 _ _ _ h1
 refine ⟨⟨v0, v1⟩, ⟨w0, w1⟩, GStrict.enc_len _, ?_⟩
 have := (RdL.next (cs := cs) (o := 0) r0 (RdL.last r1 hlen))
 simpa [GStrict.enc] using this
theorem cM0 : ∀ (fuel : Nat) (cs : List Value) (x : DataW H × List MemPlace), wy0 enc Tryz.prog w fuel 62 cs = some x → ∃ a : GDefinition, a.wf ∧ a.enc.length = 4 ∧ RdL w a.enc cs := by
 intro fuel cs x h
 obtain ⟨xs, m, hm, _, hlen, hxl, hf⟩ := DataW.trod_struct Tryz.underlying62 h
 rw [show Tryz.prog.cellsOf 62 = 4 from by kernel_rfl] at hlen
 obtain ⟨y0, h0⟩ := zg0 hxl hf 0 _ rfl (ty := 58) (off := 0) (c := 2) rfl rfl (by kernel_rfl)
 obtain ⟨y1, h1⟩ := zg0 hxl hf 1 _ rfl (ty := 59) (off := 2) (c := 1) rfl rfl (by kernel_rfl)
 obtain ⟨y2, h2⟩ := zg0 hxl hf 2 _ rfl (ty := 60) (off := 3) (c := 1) rfl rfl (by kernel_rfl)
 obtain ⟨v0, w0, r0⟩ := rdN (gP0 _ _ _ h0)
 obtain ⟨v1, w1, r1⟩ := rdL (ec := GRule.enc) (wf := GRule.wf) Tryz.underlying59 (show Tryz.prog.cellsOf 160 = 10 from by kernel_rfl) (by omega) (fun m _ cs x h => kd1 m cs x h) h1
 obtain ⟨v2, w2, r2⟩ := rdL (ec := GStrict.enc) (wf := GStrict.wf) Tryz.underlying60 (show Tryz.prog.cellsOf 162 = 2 from by kernel_rfl) (by omega) (fun m _ cs x h => qd1 m cs x h) h2
 refine ⟨⟨v0, v1, v2⟩, ⟨w0, w1, w2⟩, GDefinition.enc_len _, ?_⟩
 have := (RdL.next (cs := cs) (o := 0) r0 (RdL.next r1 (RdL.last r2 hlen)))
 simpa [GDefinition.enc] using this
end
end Go.Ai
