/- CaseSubst. Written by mk14.py. -/
import Derived.Test.YtphclghkljeaeaaGreatAiI3
set_option linter.unusedVariables false
set_option linter.unusedSimpArgs false
namespace Go.Ai
open Go.Proofs
set_option maxRecDepth 100000
def mkB (p : ByteArray × Int) : GBind := ⟨p.1, wordT p.2⟩
def qc1 (vars : List ByteArray) (c : Int) : List (ByteArray × Int) := vars.zip (fX1 vars.length c)
def pX1 (vars : List ByteArray) (c : Int) : List GBind := (qc1 vars c).map mkB
def bR (zs : List (ByteArray × Int)) : List (List AC) := zs.map fun p => [sC p.1, iC 3, iC p.2, sC ByteArray.empty, .nil]
theorem ks1 : zeroT.wf := ⟨kJ0 0 (by omega) (by omega), kJ0 0 (by omega) (by omega), Nat.zero_le _, Nat.zero_le _, trivial⟩
theorem kr1 (n : Int) (h : 0 ≤ n ∧ n < 100) : (wordT n).wf := ⟨kJ0 3 (by omega) (by omega), kJ0 n (by omega) (by omega), Nat.zero_le _, Nat.zero_le _, trivial⟩
mutual
theorem yo1 (bs : List GBind) (hb : ∀ b, b ∈ bs → b.t.wf) : ∀ (t : Tm), t.wf → (t.sub bs).wf
 | .mk k n s ts, h => by
  obtain ⟨h1, h2, h3, h4, h5⟩ := h
  have hs := subs_wf bs hb ts h5
  have hl : (Tm.subs bs ts).length = ts.length := by rw [kO0, List.length_map]
  simp only [Tm.sub]
  split
  ·cases h : bnd bs s with
   | none => exact ⟨h1, h2, h3, by rw [hl]; exact h4, hs⟩
   | some t =>
    obtain ⟨b, hb1, rfl⟩ := vq0 bs s t h
    exact hb b hb1
  ·exact ⟨h1, h2, h3, by rw [hl]; exact h4, hs⟩
theorem subs_wf (bs : List GBind) (hb : ∀ b, b ∈ bs → b.t.wf) : ∀ (ts : List Tm), Tm.wfs ts → Tm.wfs (Tm.subs bs ts)
 | [], _ => trivial
 | a :: ts, h => ⟨yo1 bs hb a h.1, subs_wf bs hb ts h.2⟩
end
theorem gL1 (s : ByteArray) (a b : Int) : 0 ≤ opW s a b ∧ opW s a b < 100 := by
 unfold opW
 split
 ·omega
 ·split <;> omega
theorem yJ1 (k n : Int) (s : ByteArray) (ts : List Tm) (h : (Tm.mk k n s ts).wf) : (yZ0 k n s ts).wf := by
 unfold yZ0
 split
 ·split
  ·exact kr1 _ (gL1 _ _ _)
  ·exact h
 ·exact h
mutual
theorem red_wf : ∀ (t : Tm), t.wf → t.red.wf
 | .mk k n s ts, h => by
  obtain ⟨h1, h2, h3, h4, h5⟩ := h
  have hs := reds_wf ts h5
  have hl : (Tm.reds ts).length = ts.length := by rw [kM0, List.length_map]
  simp only [Tm.red]
  exact yJ1 k n s _ ⟨h1, h2, h3, by rw [hl]; exact h4, hs⟩
theorem reds_wf : ∀ (ts : List Tm), Tm.wfs ts → Tm.wfs (Tm.reds ts)
 | [], _ => trivial
 | a :: ts, h => ⟨red_wf a h.1, reds_wf ts h.2⟩
end
end Go.Ai
