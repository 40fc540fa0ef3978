/- CaseSubst. Written by mk14.py. -/
import Derived.Test.YtphclghkljeaeaaGreatAiI3
set_option linter.unusedVariables false
set_option linter.unusedSimpArgs false
namespace Go.Ai
open Go.Proofs
set_option maxRecDepth 100000
def mkB (p : ByteArray × Int) : GBind := ⟨p.1, wordT p.2⟩
def yA1 (vars : List ByteArray) (c : Int) : List (ByteArray × Int) := vars.zip (cy1 vars.length c)
def bp1 (vars : List ByteArray) (c : Int) : List GBind := (yA1 vars c).map mkB
def bR (zs : List (ByteArray × Int)) : List (List AC) := zs.map fun p => [sC p.1, iC 3, iC p.2, sC ByteArray.empty, .nil]
theorem xm1 (n : Int) (h : 0 ≤ n ∧ n < 100) : (wordT n).wf := ⟨pP1 3 (by omega) (by omega), pP1 n (by omega) (by omega), Nat.zero_le _, Nat.zero_le _, trivial⟩
mutual
theorem kZ1 (bs : List GBind) (hb : ∀ b, b ∈ bs → b.t.wf) : ∀ (t : Tm), t.wf → (t.sub bs).wf
 | .mk k n s ts, h => by
  obtain ⟨h1, h2, h3, h4, h5⟩ := h
  have hs := subs_wf bs hb ts h5
  have hl : (Tm.subs bs ts).length = ts.length := by rw [je0, List.length_map]
  simp only [Tm.sub]
  split
  ·cases h : bnd bs s with
   | none => exact ⟨h1, h2, h3, by rw [hl]; exact h4, hs⟩
   | some t =>
    obtain ⟨b, hb1, rfl⟩ := vo0 bs s t h
    exact hb b hb1
  ·exact ⟨h1, h2, h3, by rw [hl]; exact h4, hs⟩
theorem subs_wf (bs : List GBind) (hb : ∀ b, b ∈ bs → b.t.wf) : ∀ (ts : List Tm), Tm.wfs ts → Tm.wfs (Tm.subs bs ts)
 | [], _ => trivial
 | a :: ts, h => ⟨kZ1 bs hb a h.1, subs_wf bs hb ts h.2⟩
end
theorem mn1 (s : ByteArray) (a b : Int) : 0 ≤ opW s a b ∧ opW s a b < 100 := by
 unfold opW
 split
 ·omega
 ·split <;> omega
theorem jp1 (k n : Int) (s : ByteArray) (ts : List Tm) (h : (Tm.mk k n s ts).wf) : (wP0 k n s ts).wf := by
 unfold wP0
 split
 ·split
  ·exact xm1 _ (mn1 _ _ _)
  ·exact h
 ·exact h
mutual
theorem red_wf : ∀ (t : Tm), t.wf → t.red.wf
 | .mk k n s ts, h => by
  obtain ⟨h1, h2, h3, h4, h5⟩ := h
  have hs := reds_wf ts h5
  have hl : (Tm.reds ts).length = ts.length := by rw [jU0, List.length_map]
  simp only [Tm.red]
  exact jp1 k n s _ ⟨h1, h2, h3, by rw [hl]; exact h4, hs⟩
theorem reds_wf : ∀ (ts : List Tm), Tm.wfs ts → Tm.wfs (Tm.reds ts)
 | [], _ => trivial
 | a :: ts, h => ⟨red_wf a h.1, reds_wf ts h.2⟩
end
end Go.Ai
