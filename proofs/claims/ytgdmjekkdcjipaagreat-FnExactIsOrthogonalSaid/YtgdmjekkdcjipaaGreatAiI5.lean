/- CaseSubst. Written by mk14.py. -/
import Derived.Test.YtgdmjekkdcjipaaGreatAiI3
set_option linter.unusedVariables false
set_option linter.unusedSimpArgs false
namespace Go.Ai
open Go.Proofs
set_option maxRecDepth 100000
def mkB (p : ByteArray × Int) : GBind := ⟨p.1, xS1 p.2⟩
def zC1 (vars : List ByteArray) (c : Int) : List (ByteArray × Int) := vars.zip (xQ1 vars.length c)
def va1 (vars : List ByteArray) (c : Int) : List GBind := (zC1 vars c).map mkB
def bR (zs : List (ByteArray × Int)) : List (List AC) := zs.map fun p => [sC p.1, iC 3, iC p.2, sC ByteArray.empty, .nil]
mutual
theorem bN0 (bs : List GBind) (hb : ∀ b, b ∈ bs → b.t.wf) : ∀ (t : Tm), t.wf → (t.sub bs).wf
 | .mk k n s ts, h => by
  obtain ⟨h1, h2, h3, h4, h5⟩ := h
  have hs := subs_wf bs hb ts h5
  have hl : (Tm.subs bs ts).length = ts.length := by rw [zv0, List.length_map]
  simp only [Tm.sub]
  split
  ·cases h : bnd bs s with
   | none => exact ⟨h1, h2, h3, by rw [hl]; exact h4, hs⟩
   | some t =>
    obtain ⟨b, hb1, rfl⟩ := lc0 bs s t h
    exact hb b hb1
  ·exact ⟨h1, h2, h3, by rw [hl]; exact h4, hs⟩
theorem subs_wf (bs : List GBind) (hb : ∀ b, b ∈ bs → b.t.wf) : ∀ (ts : List Tm), Tm.wfs ts → Tm.wfs (Tm.subs bs ts)
 | [], _ => trivial
 | a :: ts, h => ⟨bN0 bs hb a h.1, subs_wf bs hb ts h.2⟩
end
end Go.Ai
