/- Machines: sizes, copies, equality. Written by mk28.py. -/
import Derived.Test.YtphclghkljeaeaaGreatAiD1
import Derived.Test.YtphclghkljeaeaaGreatAiMarks
set_option linter.unusedVariables false
set_option linter.unusedSimpArgs false
namespace Go.Ai
open Go.Proofs Go.RowKit
set_option maxRecDepth 100000
structure GFrame where
 t : Tm
 nx : Int
def GFrame.enc (x : GFrame) : List C := Tm.enc x.t ++ (encI x.nx)
def GFrame.size (x : GFrame) : Nat := Tm.size x.t + szI x.nx
def GFrame.wf (x : GFrame) : Prop := Tm.wf x.t ∧ wfI x.nx
def GFrame.eqb (x y : GFrame) : Bool := Tm.eqb x.t y.t && (eqI x.nx y.nx)
theorem GFrame.enc_len (x : GFrame) : x.enc.length = 5 := by simp [GFrame.enc, encI, encS, encB, encL, Go.Ai.enc_len]
theorem GFrame.enc_take (x : GFrame) : x.enc.take 5 = x.enc := List.take_of_length_le (by rw [GFrame.enc_len]; exact Nat.le_refl _)
theorem GFrame.encm_take (x : GFrame) : (x.enc.map AC.c).take 5 = x.enc.map AC.c := List.take_of_length_le (by rw [List.length_map, GFrame.enc_len]; exact Nat.le_refl _)
attribute [go_sem] GFrame.enc_len GFrame.enc_take GFrame.encm_take
theorem GFrame.eqb_refl (x : GFrame) : x.eqb x = true := by simp only [GFrame.eqb, Tm.eqb_refl x.t, dL0 x.nx, Bool.and_self]
abbrev tQ1 : List AC := [iC 0, iC 0, sC ⟨⟨[]⟩⟩, .nil, iC 0]
structure GMachine where
 fo : Tm
 nx : Int
 st : List GFrame
 rw : Int
def GMachine.enc (x : GMachine) : List C := Tm.enc x.fo ++ (encI x.nx ++ (encL GFrame.enc x.st ++ (encI x.rw)))
def GMachine.size (x : GMachine) : Nat := Tm.size x.fo + szI x.nx + (szL GFrame.size) x.st + szI x.rw
def GMachine.wf (x : GMachine) : Prop := Tm.wf x.fo ∧ wfI x.nx ∧ (wfL GFrame.wf) x.st ∧ wfI x.rw
def GMachine.eqb (x y : GMachine) : Bool := Tm.eqb x.fo y.fo && (eqI x.nx y.nx && ((eqL GFrame.eqb) x.st y.st && (eqI x.rw y.rw)))
theorem GMachine.enc_len (x : GMachine) : x.enc.length = 7 := by simp [GMachine.enc, encI, encS, encB, encL, Go.Ai.enc_len]
theorem GMachine.enc_take (x : GMachine) : x.enc.take 7 = x.enc := List.take_of_length_le (by rw [GMachine.enc_len]; exact Nat.le_refl _)
theorem GMachine.encm_take (x : GMachine) : (x.enc.map AC.c).take 7 = x.enc.map AC.c := List.take_of_length_le (by rw [List.length_map, GMachine.enc_len]; exact Nat.le_refl _)
attribute [go_sem] GMachine.enc_len GMachine.enc_take GMachine.encm_take
theorem GMachine.eqb_refl (x : GMachine) : x.eqb x = true := by simp only [GMachine.eqb, Tm.eqb_refl x.fo, dL0 x.nx, (vc1 GFrame.eqb_refl) x.st, dL0 x.rw, Bool.and_self]
end Go.Ai
namespace Go.Ai
open Go.Proofs
set_option maxRecDepth 100000
theorem vj0 (x : GFrame) (hw : x.wf) (y : GFrame) : Sat Tryz.prog 87 [zW0 x.enc, zW0 y.enc] (boolV (x.eqb y)) := by
 obtain ⟨r, hr⟩ : ∃ r, r = x.eqb y := ⟨_, rfl⟩
 rw [← hr]
 obtain ⟨⟨xtk, xtn, xts, xtt⟩, xnx⟩ := x
 obtain ⟨⟨ytk, ytn, yts, ytt⟩, ynx⟩ := y
 simp only [GFrame.wf] at hw
 simp only [GFrame.eqb, eqI, eqS, eqB] at hr
 refine soc zE0 zA0 Tryz.func87 ?_
 refine sm1 ?_
 refine CallK.mk (qg0 (.mk xtk xtn xts xtt) hw.1 (.mk ytk ytn yts ytt)) ?_
 refine sm1 ?_
 refine ⟨fun h0 => ?_, fun h0 => by grind⟩
 grind
theorem vf0 (xs : List GFrame) (hw : wfL GFrame.wf xs) (ys : List GFrame) : Sat Tryz.prog 86 [slV (xs.map GFrame.enc), slV (ys.map GFrame.enc), .one (.c (.v (.func (.func 87) #[] #[])))] (boolV (eqL GFrame.eqb xs ys)) := by
 have hl := hw.1
 simp only [maxLen] at hl
 refine soc zE0 zA0 Tryz.func86 ?_
 refine qV0 ?_
 refine ⟨fun h4 => ?_, fun h4 => ?_⟩
 ·rw [yS1 GFrame.eqb xs ys (by omega)]
 ·have hll : xs.length = ys.length := by simp at h4; omega
  refine zB0 (ι := Nat) (fun i => mk 32 [(0, slV (xs.map GFrame.enc)), (1, slV (ys.map GFrame.enc)), (2, .one (.c (.v (.func (.func 87) #[] #[])))), (15, slV (xs.map GFrame.enc)), (16, zG0 xs.length), (17, zG0 i)] [])
   (fun i => i ≤ xs.length ∧ eqL GFrame.eqb (xs.drop i) (ys.drop i) = eqL GFrame.eqb xs ys) (fun i => xs.length - i) 0 ⟨Nat.zero_le _, by simp⟩ ?_ zE0 zA0 (by decide +kernel) ?_
  ·exact lek
  ·rintro i ⟨hi, he⟩
   rcases Nat.lt_or_ge i xs.length with hlt | hge
   ·have hlt' : i < ys.length := by omega
    have hg := zF0 (ec := GFrame.enc) hlt
    have hg' := zF0 (ec := GFrame.enc) hlt'
    rw [vb1 GFrame.eqb xs ys i hlt hlt'] at he
    have hx := hw.2 _ (List.getElem_mem hlt)
    generalize xs[i] = x at hg he hx
    generalize ys[i] = y at hg' he
    refine mK1 ?_
    refine c0' (vj0 x hx y) ?_
    refine ⟨fun h => ?_, fun h => ⟨i + 1, ⟨hlt, ?_⟩, by omega, lek⟩⟩
    ·rw [h] at he; simpa using he
    ·rw [h] at he; simpa using he
   ·have e1 : xs.drop i = [] := List.drop_of_length_le hge
    have e2 : ys.drop i = [] := List.drop_of_length_le (by omega)
    rw [e1, e2] at he
    refine fF1 ?_
    rw [← he]; rfl
theorem yF0 (x : GMachine) (hw : x.wf) (y : GMachine) : Sat Tryz.prog 29 [zW0 x.enc, zW0 y.enc] (boolV (x.eqb y)) := by
 obtain ⟨r, hr⟩ : ∃ r, r = x.eqb y := ⟨_, rfl⟩
 rw [← hr]
 obtain ⟨⟨xfok, xfon, xfos, xfot⟩, xnx, xst, xrw⟩ := x
 obtain ⟨⟨yfok, yfon, yfos, yfot⟩, ynx, yst, yrw⟩ := y
 simp only [GMachine.wf] at hw
 simp only [GMachine.eqb, eqI, eqS, eqB] at hr
 refine soc zE0 zA0 Tryz.func29 ?_
 refine mD1 ?_
 refine CallK.mk (qg0 (.mk xfok xfon xfos xfot) hw.1 (.mk yfok yfon yfos yfot)) ?_
 refine mD1 ?_
 refine ⟨fun h0 => ?_, fun h0 => by grind⟩
 refine ⟨fun h1 => ?_, fun h1 => by grind⟩
 refine CallK.mk (vf0 xst hw.2.2.1 yst) ?_
 refine mD1 ?_
 refine ⟨fun h2 => ?_, fun h2 => by grind⟩
 grind
end Go.Ai
