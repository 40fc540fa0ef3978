/- Machines: sizes, copies, equality. Written by mk28.py. -/
import Derived.Test.YtphclghkljeaeaaGreatAiD1
import Derived.Test.YtphclghkljeaeaaGreatAiMarks
set_option linter.unusedVariables false
set_option linter.unusedSimpArgs false
namespace Go.Ai
open Go.Proofs Go.RowKit
set_option maxRecDepth 100000
structure GFrame where
 t : Tm
 nx : Int
def GFrame.enc (x : GFrame) : List C := Tm.enc x.t ++ (encI x.nx)
def GFrame.size (x : GFrame) : Nat := Tm.size x.t + szI x.nx
def GFrame.wf (x : GFrame) : Prop := Tm.wf x.t ∧ wfI x.nx
def GFrame.eqb (x y : GFrame) : Bool := Tm.eqb x.t y.t && (eqI x.nx y.nx)
theorem GFrame.enc_len (x : GFrame) : x.enc.length = 5 := by simp [GFrame.enc, encI, encS, jI1, encL, Go.Ai.enc_len]
theorem GFrame.enc_take (x : GFrame) : x.enc.take 5 = x.enc := List.take_of_length_le (by rw [GFrame.enc_len]; exact Nat.le_refl _)
theorem GFrame.encm_take (x : GFrame) : (x.enc.map AC.c).take 5 = x.enc.map AC.c := List.take_of_length_le (by rw [List.length_map, GFrame.enc_len]; exact Nat.le_refl _)
attribute [go_sem] GFrame.enc_len GFrame.enc_take GFrame.encm_take
theorem GFrame.eqb_refl (x : GFrame) : x.eqb x = true := by simp only [GFrame.eqb, Tm.eqb_refl x.t, cY0 x.nx, Bool.and_self]
abbrev nz1 : List AC := [iC 0, iC 0, sC ⟨⟨[]⟩⟩, .nil, iC 0]
structure GMachine where
 fo : Tm
 nx : Int
 st : List GFrame
 rw : Int
def GMachine.enc (x : GMachine) : List C := Tm.enc x.fo ++ (encI x.nx ++ (encL GFrame.enc x.st ++ (encI x.rw)))
def GMachine.size (x : GMachine) : Nat := Tm.size x.fo + szI x.nx + (szL GFrame.size) x.st + szI x.rw
def GMachine.wf (x : GMachine) : Prop := Tm.wf x.fo ∧ wfI x.nx ∧ (wfL GFrame.wf) x.st ∧ wfI x.rw
def GMachine.eqb (x y : GMachine) : Bool := Tm.eqb x.fo y.fo && (eqI x.nx y.nx && ((eqL GFrame.eqb) x.st y.st && (eqI x.rw y.rw)))
theorem GMachine.enc_len (x : GMachine) : x.enc.length = 7 := by simp [GMachine.enc, encI, encS, jI1, encL, Go.Ai.enc_len]
theorem GMachine.enc_take (x : GMachine) : x.enc.take 7 = x.enc := List.take_of_length_le (by rw [GMachine.enc_len]; exact Nat.le_refl _)
theorem GMachine.encm_take (x : GMachine) : (x.enc.map AC.c).take 7 = x.enc.map AC.c := List.take_of_length_le (by rw [List.length_map, GMachine.enc_len]; exact Nat.le_refl _)
attribute [go_sem] GMachine.enc_len GMachine.enc_take GMachine.encm_take
theorem GMachine.eqb_refl (x : GMachine) : x.eqb x = true := by simp only [GMachine.eqb, Tm.eqb_refl x.fo, cY0 x.nx, (jy1 GFrame.eqb_refl) x.st, cY0 x.rw, Bool.and_self]
end Go.Ai
namespace Go.Ai
open Go.Proofs
set_option maxRecDepth 100000
theorem kS0 (x : GMachine) (hw : x.wf) (y : GMachine) : Sat Tryz.prog 22 [zn0 x.enc, zn0 y.enc] (boolV (x.eqb y)) := by
 obtain ⟨r, hr⟩ : ∃ r, r = x.eqb y := ⟨_, rfl⟩
 rw [← hr]
 obtain ⟨⟨k, n, s, ts⟩, nx, st, rw_⟩ := x
 obtain ⟨⟨k', n', s', ts'⟩, nx', st', rw'⟩ := y
 simp only [GMachine.wf] at hw
 have hl := hw.2.2.1.1
 simp only [maxLen] at hl
 simp only [GMachine.eqb, eqI] at hr
 refine soc zE0 zA0 Tryz.func22 ?_
 simp -implicitDefEqProofs (disch := omega) only [go_sem, GMachine.enc, encI, encL, Tm.enc, List.cons_append, List.nil_append, List.append_nil]
 refine c0' (zu0 (.mk k n s ts) hw.1 (.mk k' n' s' ts')) ?_
 refine ⟨fun h1 => ⟨fun h2 => ⟨fun h3 => ⟨fun h4 => ?_, fun h4 => ?_⟩, fun h3 => ?_⟩, fun h2 => ?_⟩, fun h1 => ?_⟩
 ·rw [qv1 GFrame.eqb st st' (by omega)] at hr; grind
 ·have hll : st.length = st'.length := by simp at h4; omega
  have hr : r = eqL GFrame.eqb st st' := by grind
  refine zB0 (ι := Nat) (fun i => mk 71 [(2, .one (.ptr 2 0)), (3, .one (.ptr 3 0)), (5, zH0 i)] [(2, .var [iC k, iC n, sC s, tC ts, iC nx, .c (.sl (st.map GFrame.enc)), iC rw_]), (3, .var [iC k', iC n', sC s', tC ts', iC nx', .c (.sl (st'.map GFrame.enc)), iC rw'])])
   (fun i => i ≤ st.length ∧ eqL GFrame.eqb (st.drop i) (st'.drop i) = eqL GFrame.eqb st st') (fun i => st.length - i) 0 ⟨Nat.zero_le _, by simp⟩ ?_ zE0 zA0 (by decide +kernel) ?_
  ·exact lek
  ·rintro i ⟨hi, he⟩
   rcases Nat.lt_or_ge i st.length with hlt | hge
   ·have hlt' : i < st'.length := by omega
    have hg := zD0 (ec := GFrame.enc) hlt
    have hg' := zD0 (ec := GFrame.enc) hlt'
    rw [jx1 GFrame.eqb st st' i hlt hlt'] at he
    have hx := hw.2.2.1.2 _ (List.getElem_mem hlt)
    generalize st[i] = u at hg he hx
    generalize st'[i] = v at hg' he
    obtain ⟨⟨a, b, c, d⟩, e⟩ := u
    obtain ⟨⟨a', b', c', d'⟩, e'⟩ := v
    simp only [GFrame.wf] at hx
    simp only [GFrame.eqb, eqI] at he
    simp only [GFrame.enc, Tm.enc, encI, List.cons_append, List.nil_append] at hg hg'
    refine gB1 ?_
    refine ⟨fun h1 => ?_, fun h1 => ?_⟩
    ·refine c0' (zu0 (.mk a b c d) hx.1 (.mk a' b' c' d')) ?_
     refine ⟨fun h => by grind, fun h => ⟨i + 1, ⟨hlt, by grind⟩, by omega, lek⟩⟩
    ·grind
   ·have e1 : st.drop i = [] := List.drop_of_length_le hge
    have e2 : st'.drop i = [] := List.drop_of_length_le (by omega)
    rw [e1, e2] at he
    refine xK1 ?_
    rw [hr, ← he]; rfl
 ·grind
 ·grind
 ·grind
end Go.Ai
