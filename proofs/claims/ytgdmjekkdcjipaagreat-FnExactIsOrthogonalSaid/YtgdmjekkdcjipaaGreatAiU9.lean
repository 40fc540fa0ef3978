/- Valid signatures: IsValidSignature. -/
import Derived.Test.YtgdmjekkdcjipaaGreatAiQ2
import Derived.Test.YtgdmjekkdcjipaaGreatAiT2
set_option linter.unusedVariables false
set_option linter.unusedSimpArgs false
namespace Go.Ai
open Go.Proofs
set_option maxRecDepth 100000
def xc0 (sg : GSignature) (s : ByteArray) : Bool := eqS s kn0 || vF0 sg.so s
def opB (sg : GSignature) (o : GOp) : Bool := mQ0 o.na && !fY0 o.na && decide (o.ar.length ≤ 3) && o.ar.all (xc0 sg) && xc0 sg o.re
def soB (s : ByteArray) : Bool := mQ0 s && !eqS s kn0
def yk1 (sg : GSignature) : Bool := sg.so.all soB && sg.op.all (opB sg) && decide (sg.so.length ≤ 4) && distS sg.so && decide (sg.op.length ≤ 16) && distS (sg.op.map GOp.na)
theorem fe0 (sg : GSignature) (hl : sg.so.length < 100000000) (s : ByteArray) : Sat Tryz.prog 205 [qA0 sg.enc, ql0 s] (boolV (xc0 sg s)) := by
 have hx := qj0 sg.so hl s
 have hh := zl1 s sg.so
 obtain ⟨r, hr⟩ : ∃ r, r = xc0 sg s := ⟨_, rfl⟩
 rw [← hr]
 unfold xc0 at hr
 rw [← hh] at hr
 generalize vG0 s sg.so 0 = k at hx hr
 simp only [eqS, kn0] at hr
 have hse : sg.enc = [.sl (sg.so.map encS), .sl (sg.op.map GOp.enc)] := rfl
 refine soc zE0 zB0 Tryz.func205 ?_
 simp -implicitDefEqProofs only [go_sem, hse]
 refine ⟨fun h1 => CallK.mk hx ?_, fun h1 => by grind⟩
 simp -implicitDefEqProofs only [go_sem]
 grind
theorem gm0 (sg : GSignature) (hl : sg.so.length < 100000000) (o : GOp) (ho : o.size < 80000000) : Sat Tryz.prog 165 [qA0 sg.enc, qA0 o.enc] (boolV (opB sg o)) := by
 have hsr := fun s => fe0 sg hl s
 have hal := zQ0 szS o.ar
 simp only [GOp.size, szS] at ho
 have hnm := wI0 o.na (by omega)
 have hbi := qM0 o.na
 obtain ⟨r, hr⟩ : ∃ r, r = opB sg o := ⟨_, rfl⟩
 rw [← hr]
 unfold opB at hr
 have hse : sg.enc = [.sl (sg.so.map encS), .sl (sg.op.map GOp.enc)] := rfl
 obtain ⟨na, ar, re⟩ := o
 simp only at hr hal ho hnm hbi
 have hre := hsr re
 generalize mQ0 na = b1 at hr hnm
 generalize fY0 na = b2 at hr hbi
 generalize xc0 sg re = b3 at hr hre
 refine soc zE0 zB0 Tryz.func165 ?_
 simp -implicitDefEqProofs (disch := omega) only [go_sem, hse, GOp.enc, encS, zj0, List.cons_append, List.nil_append]
 refine zA0 (ι := Nat) (fun i => mk 42 [(2, .one (.ptr 2 0)), (3, .one (.ptr 3 0)), (5, zD0 i)] [(2, .var [.c (.sl (sg.so.map encS)), .c (.sl (sg.op.map GOp.enc))]), (3, .var [sC na, .c (.sl (ar.map encS)), sC re])]) (fun i => i ≤ ar.length ∧ (ar.drop i).all (xc0 sg) = ar.all (xc0 sg)) (fun i => ar.length - i) 0 ⟨Nat.zero_le _, by simp⟩ ?_ zE0 zB0 (by decide +kernel) ?_
 ·exact lek
 ·rintro i ⟨hi, he⟩
  rcases Nat.lt_or_ge i ar.length with hlt | hge
  ·have hgd := zC0 (ec := encS) hlt
   rw [wB0 _ ar i hlt] at he
   have hsi := hsr ar[i]
   generalize ar[i] = x at hgd he hsi
   simp only [encS] at hgd
   simp -implicitDefEqProofs (disch := omega) only [go_sem, hgd, hlt, List.length_map]
   refine CallK.mk hsi ?_
   simp -implicitDefEqProofs (disch := omega) only [go_sem]
   exact ⟨fun k => by rw [hr, ← he, k]; simp, fun k => ⟨i + 1, ⟨hlt, by rw [← he, k, Bool.true_and]⟩, by omega, lek⟩⟩
  ·have : i = ar.length := by omega
   subst this
   rw [List.drop_length] at he
   have he : true = ar.all (xc0 sg) := he
   rw [← he, Bool.and_true] at hr
   simp -implicitDefEqProofs (disch := omega) only [go_sem, Nat.lt_irrefl, List.length_map]
   refine CallK.mk hnm ?_
   simp -implicitDefEqProofs (disch := omega) only [go_sem]
   refine ⟨fun k1 => CallK.mk hbi ?_, fun k1 => by rw [hr, k1]; simp⟩
   simp -implicitDefEqProofs (disch := omega) only [go_sem, List.length_map]
   refine ⟨fun k2 => ⟨fun k3 => CallK.mk hre ?_, fun k3 => ?_⟩, fun k2 => by rw [hr, k2]; simp⟩
   ·simp -implicitDefEqProofs (disch := omega) only [go_sem]
    have k3' : decide (ar.length ≤ 3) = true := by simp; omega
    rw [hr, k1, k2, k3']; simp
   ·have k3' : decide (ar.length ≤ 3) = false := by simp; omega
    rw [hr, k3']; simp
theorem mu0 (sg : GSignature) (hs : sg.size < 80000000) : Sat Tryz.prog 97 [qA0 sg.enc] (boolV (yk1 sg)) := by
 simp only [GSignature.size] at hs
 have hl1 := zQ0 szS sg.so
 have hl2 := zQ0 GOp.size sg.op
 have hm1 := qT0 szS sg.so
 have hm2 := qT0 GOp.size sg.op
 have hop := fun o (ho : o ∈ sg.op) => gm0 sg (by omega) o (by have := hm2 o ho; omega)
 have hnm := fun s (h : s ∈ sg.so) => wI0 s (by have := hm1 s h; simp only [szS] at this; omega)
 have hd1 := specAllDistinct_sat sg.so (by omega)
 have hd2 := specAllDistinct_sat (sg.op.map GOp.na) (by rw [List.length_map]; omega)
 obtain ⟨r, hr⟩ : ∃ r, r = yk1 sg := ⟨_, rfl⟩
 rw [← hr]
 unfold yk1 at hr
 generalize distS sg.so = d1 at hr hd1
 generalize distS (sg.op.map GOp.na) = d2 at hr hd2
 generalize hopb : opB sg = ob at hr hop
 obtain ⟨so, op⟩ := sg
 simp only at hr hs hl1 hl2 hm1 hm2 hop hnm hd1 hd2
 obtain ⟨A, hA⟩ : ∃ A, A = so.all soB := ⟨_, rfl⟩
 obtain ⟨B, hB⟩ : ∃ B, B = op.all ob := ⟨_, rfl⟩
 rw [← hA, ← hB] at hr
 refine soc zE0 zB0 Tryz.func97 ?_
 simp -implicitDefEqProofs (disch := omega) only [go_sem, GSignature.enc, zj0, List.cons_append, List.nil_append]
 refine zA0 (ι := Nat) (fun i => mk 72 [(1, .one (.ptr 1 0)), (3, .one (.own 6 0)), (4, zD0 i)] [(1, .var [.c (.sl (so.map encS)), .c (.sl (op.map GOp.enc))]), (6, .arr 9 1 [] false)]) (fun i => i ≤ so.length ∧ (so.drop i).all soB = A) (fun i => so.length - i) 0 ⟨Nat.zero_le _, by simp [hA]⟩ ?_ zE0 zB0 (by decide +kernel) ?_
 ·exact lek
 ·rintro i ⟨hi, he⟩
  rcases Nat.lt_or_ge i so.length with hlt | hge
  ·have hgd := zC0 (ec := encS) hlt
   rw [wB0 _ so i hlt] at he
   have hsi := hnm _ (List.getElem_mem hlt)
   obtain ⟨rest, hre⟩ : ∃ rest, rest = (so.drop (i + 1)).all soB := ⟨_, rfl⟩
   rw [← hre] at he
   generalize so[i] = x at hgd he hsi
   simp only [soB, eqS, kn0] at he
   simp only [encS] at hgd
   simp -implicitDefEqProofs (disch := omega) only [go_sem, hgd, hlt, List.length_map]
   refine CallK.mk hsi ?_
   simp -implicitDefEqProofs (disch := omega) only [go_sem, hgd, hlt, List.length_map]
   refine ⟨fun k1 => ⟨fun k2 => by rw [hr, ← he, k2]; simp, fun k2 => ⟨i + 1, ⟨hlt, by rw [← he, k1, k2, ← hre]; simp⟩, by omega, lek⟩⟩, fun k1 => by rw [hr, ← he, k1]; simp⟩
  ·have : i = so.length := by omega
   subst this
   rw [List.drop_length] at he
   have he : true = A := he
   rw [← he] at hr
   simp -implicitDefEqProofs (disch := omega) only [go_sem, Nat.lt_irrefl, List.length_map]
   refine zA0 (ι := Nat) (fun i => mk 72 [(1, .one (.ptr 1 0)), (3, .one (.own 6 i)), (5, zD0 i)] [(1, .var [.c (.sl (so.map encS)), .c (.sl (op.map GOp.enc))]), (6, .arr 9 1 (rowsOf encS ((op.map GOp.na).take i)) false)]) (fun i => i ≤ op.length ∧ (op.drop i).all ob = B) (fun i => op.length - i) 0 ⟨Nat.zero_le _, by simp [hB]⟩ ?_ zE0 zB0 (by decide +kernel) ?_
   ·exact zG0 (by simp [go_sem]) (by simp [go_sem, rowsOf])
   ·rintro i ⟨hi, he⟩
    rcases Nat.lt_or_ge i op.length with hlt | hge
    ·have hgd := zC0 (ec := GOp.enc) hlt
     have hlt' : i < (op.map GOp.na).length := by rw [List.length_map]; exact hlt
     have htk : (op.map GOp.na).take (i + 1) = (op.map GOp.na).take i ++ [op[i].na] := by rw [List.take_add_one, List.getElem?_eq_getElem hlt']; simp
     rw [wB0 _ op i hlt] at he
     have hsi := hop _ (List.getElem_mem hlt)
     obtain ⟨rest, hre⟩ : ∃ rest, rest = (op.drop (i + 1)).all ob := ⟨_, rfl⟩
     rw [← hre] at he
     generalize ob op[i] = b at he hsi
     generalize op[i] = o at hgd hsi htk
     obtain ⟨ona, oar, ore⟩ := o
     simp only [GOp.enc, encS, zj0, List.cons_append, List.nil_append] at hgd
     have hml : min i op.length = i := by omega
     simp -implicitDefEqProofs (disch := omega) only [go_sem, hgd, hlt, List.length_map]
     refine CallK.mk hsi ?_
     simp -implicitDefEqProofs (disch := omega) only [go_sem, hgd, hlt, List.length_map, List.length_take, hml]
     refine ⟨fun k1 => by rw [hr, ← he, k1]; simp, fun k1 => ⟨⟨by simp, by omega, by omega⟩, fun _ => ⟨i + 1, ⟨hlt, by rw [← he, k1, ← hre]; simp⟩, by omega, ?_⟩⟩⟩
     rw [htk]
     exact zG0 (by simp [go_sem]) (by simp [go_sem]; simp [rowsOf, encS])
    ·have : i = op.length := by omega
     subst this
     rw [List.drop_length] at he
     have he : true = B := he
     rw [← he] at hr
     have htk : (op.map GOp.na).take op.length = op.map GOp.na := List.take_of_length_le (by rw [List.length_map]; exact Nat.le_refl _)
     rw [htk]
     simp -implicitDefEqProofs (disch := omega) only [go_sem, Nat.lt_irrefl, List.length_map]
     refine ⟨fun k1 => CallK.mk hd1 ?_, fun k1 => ?_⟩
     ·have k1' : decide (so.length ≤ 4) = true := by simp; omega
      simp -implicitDefEqProofs (disch := omega) only [go_sem, List.length_map]
      refine ⟨fun k2 => ⟨fun k3 => CallK.mk hd2 ?_, fun k3 => ?_⟩, fun k2 => by rw [hr, k2]; simp⟩
      ·have k3' : decide (op.length ≤ 16) = true := by simp; omega
       simp -implicitDefEqProofs (disch := omega) only [go_sem]
       rw [hr, k1', k2, k3']; simp
      ·have k3' : decide (op.length ≤ 16) = false := by simp; omega
       rw [hr, k3']; simp
     ·have k1' : decide (so.length ≤ 4) = false := by simp; omega
      rw [hr, k1']; simp
theorem jI0 (xs : List ByteArray) (hl : xs.length < 100000000) : Sat Tryz.prog 53 [slV (xs.map encS)] (boolV (distS xs)) := by
 have h := wt0 xs hl
 rw [xE0] at h
 exact h
theorem kV1 (sg : GSignature) (o : GOp) : opB sg o = (mQ0 o.na && !fY0 o.na && decide (o.ar.length ≤ 3) && (o.ar ++ [o.re]).all (xc0 sg)) := by
 unfold opB
 rw [List.all_append, List.all_cons, List.all_nil, Bool.and_true, Bool.and_assoc]
theorem mL0 (sg : GSignature) (hs : sg.size < 80000000) : Sat Tryz.prog 84 [qA0 sg.enc] (boolV (yk1 sg)) := by
 simp only [GSignature.size] at hs
 have hl1 := zQ0 szS sg.so
 have hl2 := zQ0 GOp.size sg.op
 have hm1 := qT0 szS sg.so
 have hm2 := qT0 GOp.size sg.op
 have hnm := fun s (h : s ∈ sg.so) => wE0 s (by have := hm1 s h; simp only [szS] at this; omega)
 have hd1 := jI0 sg.so (by omega)
 have hd2 := jI0 (sg.op.map GOp.na) (by rw [List.length_map]; omega)
 have hct := fun s => qD0 sg.so (by omega) s
 have hsB : ∀ s, xc0 sg s = (eqS s kn0 || vF0 sg.so s) := fun s => rfl
 obtain ⟨r, hr⟩ : ∃ r, r = yk1 sg := ⟨_, rfl⟩
 rw [← hr]
 unfold yk1 at hr
 generalize distS sg.so = d1 at hr hd1
 generalize distS (sg.op.map GOp.na) = d2 at hr hd2
 have hopB := fun o => kV1 sg o
 generalize hopb : opB sg = ob at hr hopB
 generalize hsb : xc0 sg = sb at hsB hopB
 obtain ⟨so, op⟩ := sg
 simp only at hr hs hl1 hl2 hm1 hm2 hnm hd1 hd2 hct hsB
 obtain ⟨A, hA⟩ : ∃ A, A = so.all soB := ⟨_, rfl⟩
 obtain ⟨B, hB⟩ : ∃ B, B = op.all ob := ⟨_, rfl⟩
 rw [← hA, ← hB] at hr
 refine soc zE0 zB0 Tryz.func84 ?_
 simp -implicitDefEqProofs (disch := omega) only [go_sem, GSignature.enc, zj0, List.cons_append, List.nil_append, List.length_map]
 refine ⟨fun k1 => CallK.mk hd1 ?_, fun k1 => by rw [hr, (by simp; omega : decide (so.length ≤ 4) = false)]; simp⟩
 simp -implicitDefEqProofs (disch := omega) only [go_sem, List.length_map]
 refine ⟨fun k2 => ⟨fun k3 => by rw [hr, (by simp; omega : decide (op.length ≤ 16) = false)]; simp, fun k3 => ?_⟩, fun k2 => by rw [hr, k2]; simp⟩
 have hr : r = (A && B && d2) := by rw [hr, k2, (by simp; omega : decide (so.length ≤ 4) = true), (by simp; omega : decide (op.length ≤ 16) = true)]; simp
 refine zA0 (ι := Nat) (fun i => mk 93 [(1, .one (.ptr 1 0)), (27, slV (so.map encS)), (28, zD0 so.length), (29, zD0 i)] [(1, .var [.c (.sl (so.map encS)), .c (.sl (op.map GOp.enc))])]) (fun i => i ≤ so.length ∧ (so.drop i).all soB = A) (fun i => so.length - i) 0 ⟨Nat.zero_le _, by simp [hA]⟩ ?_ zE0 zB0 (by decide +kernel) ?_
 ·exact lek
 ·rintro i ⟨hi, he⟩
  rcases Nat.lt_or_ge i so.length with hlt | hge
  ·have hgd := zC0 (ec := encS) hlt
   rw [wB0 _ so i hlt] at he
   have hsi := hnm _ (List.getElem_mem hlt)
   obtain ⟨rest, hre⟩ : ∃ rest, rest = (so.drop (i + 1)).all soB := ⟨_, rfl⟩
   rw [← hre] at he
   generalize so[i] = x at hgd he hsi
   simp only [soB, eqS, kn0] at he
   simp only [encS] at hgd
   simp -implicitDefEqProofs (disch := omega) only [go_sem, hgd, hlt, List.length_map]
   refine CallK.mk hsi ?_
   simp -implicitDefEqProofs (disch := omega) only [go_sem, hgd, hlt, List.length_map]
   refine ⟨fun k1 => ⟨fun k2 => by rw [hr, ← he, k2]; simp, fun k2 => ⟨i + 1, ⟨hlt, by rw [← he, k1, k2, ← hre]; simp⟩, by omega, lek⟩⟩, fun k1 => by rw [hr, ← he, k1]; simp⟩
  ·have : i = so.length := by omega
   subst this
   rw [List.drop_length] at he
   have he : true = A := he
   rw [← he] at hr
   simp -implicitDefEqProofs (disch := omega) only [go_sem, Nat.lt_irrefl, List.length_map]
   refine zA0 (ι := Nat) (fun i => mk 93 [(1, .one (.ptr 1 0)), (5, .one (.own 9000 i)), (42, slV (op.map GOp.enc)), (43, zD0 op.length), (44, zD0 i)] [(1, .var [.c (.sl (so.map encS)), .c (.sl (op.map GOp.enc))]), (9000, .arr 9 1 (rowsOf encS ((op.map GOp.na).take i)) false)]) (fun i => i ≤ op.length ∧ (op.drop i).all ob = B) (fun i => op.length - i) 0 ⟨Nat.zero_le _, by simp [hB]⟩ ?_ zE0 zB0 (by decide +kernel) ?_
   ·refine (yG0 (t := 5) 9000 9 1 rfl (by decide) rfl (by decide)).trans ?_
    exact zG0 (by simp [go_sem]) (by simp [go_sem, rowsOf])
   ·rintro i ⟨hi, he⟩
    rcases Nat.lt_or_ge i op.length with hlt | hge
    ·have hgd := zC0 (ec := GOp.enc) hlt
     have hlt' : i < (op.map GOp.na).length := by rw [List.length_map]; exact hlt
     have htk : (op.map GOp.na).take (i + 1) = (op.map GOp.na).take i ++ [op[i].na] := by rw [List.take_add_one, List.getElem?_eq_getElem hlt']; simp
     have hml : min i op.length = i := by omega
     rw [wB0 _ op i hlt] at he
     have hoz := hm2 _ (List.getElem_mem hlt)
     obtain ⟨rest, hre⟩ : ∃ rest, rest = (op.drop (i + 1)).all ob := ⟨_, rfl⟩
     rw [← hre] at he
     rw [hopB] at he
     generalize op[i] = o at hgd hoz htk he
     obtain ⟨ona, oar, ore⟩ := o
     have hal := zQ0 szS oar
     simp only [GOp.size, szS] at hoz
     have hnm1 := wE0 ona (by omega)
     have hbi1 := qI0 ona
     have hcl := jC0 oar (by omega)
     simp only at he htk
     simp only [GOp.enc, encS, zj0, List.cons_append, List.nil_append] at hgd
     obtain ⟨ys, hys⟩ : ∃ ys, ys = oar ++ [ore] := ⟨_, rfl⟩
     rw [← hys] at he
     have hyl : ys.length = oar.length + 1 := by rw [hys]; simp
     simp -implicitDefEqProofs (disch := omega) only [go_sem, hgd, hlt, List.length_map]
     refine CallK.mk hnm1 ?_
     simp -implicitDefEqProofs (disch := omega) only [go_sem, List.length_map]
     refine ⟨fun k1 => CallK.mk hbi1 ?_, fun k1 => by rw [hr, ← he, k1]; simp⟩
     simp -implicitDefEqProofs (disch := omega) only [go_sem, List.length_map]
     refine ⟨fun k2 => ⟨fun k3 => by rw [hr, ← he, (by simp; omega : decide (oar.length ≤ 3) = false)]; simp, fun k3 => CallK.outN hcl rfl rfl ?_⟩, fun k2 => by rw [hr, ← he, k2]; simp⟩
     rw [k1, k2, (by simp; omega : decide (oar.length ≤ 3) = true)] at he
     simp only [Bool.not_false, Bool.true_and] at he
     simp -implicitDefEqProofs (disch := omega) only [go_sem, hgd, hlt, List.length_map]
     refine ⟨⟨by simp, by omega, by omega⟩, fun _ => ?_⟩
     refine zA0 (ι := Nat) (fun j => mk 93 [(1, .one (.ptr 1 0)), (5, .one (.own 9000 i)), (7, .one (.ptr 7 0)), (42, slV (op.map GOp.enc)), (43, zD0 op.length), (44, zD0 i), (69, slV (ys.map encS)), (70, zD0 ys.length), (71, zD0 j)] [(1, .var [.c (.sl (so.map encS)), .c (.sl (op.map GOp.enc))]), (7, .var [sC ona, .c (.sl (oar.map encS)), sC ore]), (9000, .arr 9 1 (rowsOf encS ((op.map GOp.na).take i)) false)]) (fun j => j ≤ ys.length ∧ (ys.drop j).all sb = ys.all sb) (fun j => ys.length - j) 0 ⟨Nat.zero_le _, by simp⟩ ?_ zE0 zB0 (by decide +kernel) ?_
     ·refine (zG0 (L' := [(1, .one (.ptr 1 0)), (5, .one (.own 9000 i)), (7, .one (.ptr 7 0)), (42, slV (op.map GOp.enc)), (43, zD0 op.length), (44, zD0 i), (69, .one (.own 65 (rowsOf encS ys).length)), (70, zD0 ys.length), (71, zD0 0)]) (B' := [(1, .var [.c (.sl (so.map encS)), .c (.sl (op.map GOp.enc))]), (7, .var [sC ona, .c (.sl (oar.map encS)), sC ore]), (9000, .arr 9 1 (rowsOf encS ((op.map GOp.na).take i)) false), (65, .arr 9 1 (rowsOf encS ys) false)]) (by simp [go_sem]; omega) (by simp [go_sem, hys]; simp [rowsOf, encS])).trans ?_
      refine (vj0 (t := 69) (l := 65) rfl rfl rfl (by decide) wi0).trans ?_
      exact lek
     ·rintro j ⟨hj, hej⟩
      rcases Nat.lt_or_ge j ys.length with hjl | hjg
      ·have hgj := zC0 (ec := encS) hjl
       rw [wB0 _ ys j hjl, hsB] at hej
       have hcj := hct ys[j]
       generalize ys[j] = y at hgj hej hcj
       simp only [eqS, kn0] at hej
       simp only [encS] at hgj
       simp -implicitDefEqProofs (disch := omega) only [go_sem, hgj, hjl, List.length_map]
       refine ⟨fun h1 => CallK.mk hcj ?_, fun h1 => ⟨j + 1, ⟨hjl, by rw [← hej, h1]; simp⟩, by omega, lek⟩⟩
       simp -implicitDefEqProofs (disch := omega) only [go_sem]
       refine ⟨fun h2 => ?_, fun h2 => ⟨j + 1, ⟨hjl, by rw [← hej, h2]; simp⟩, by omega, lek⟩⟩
       rw [hr, ← he, ← hej, h1, h2]; simp
      ·have : j = ys.length := by omega
       subst this
       rw [List.drop_length] at hej
       have hej : true = ys.all sb := hej
       rw [← hej, Bool.true_and] at he
       simp -implicitDefEqProofs (disch := omega) only [go_sem, Nat.lt_irrefl, List.length_map, List.length_take, hml]
       refine ⟨⟨by simp, by omega, by omega⟩, fun _ => ⟨i + 1, ⟨hlt, by rw [← hre, he]⟩, by omega, ?_⟩⟩
       rw [htk]
       exact zG0 (by simp [go_sem]) (by simp [go_sem]; simp [rowsOf, encS])
    ·have : i = op.length := by omega
     subst this
     rw [List.drop_length] at he
     have he : true = B := he
     rw [← he] at hr
     have htk : (op.map GOp.na).take op.length = op.map GOp.na := List.take_of_length_le (by rw [List.length_map]; exact Nat.le_refl _)
     rw [htk]
     simp -implicitDefEqProofs (disch := omega) only [go_sem, Nat.lt_irrefl, List.length_map]
     refine CallK.mk hd2 ?_
     simp -implicitDefEqProofs (disch := omega) only [go_sem]
     rw [hr]; simp
def cd0 (sg : GSignature) (st : List GStrict) (k : Nat) : Bool :=
 let x := st.getD k ⟨sE, 0⟩
 (zI0 sg x.op).isSome && !fY0 x.op && decide (0 ≤ x.ar) && decide (x.ar < (((zI0 sg x.op).getD opD).ar.length : Int)) && !(st.take k).any (fun y => y.eqb x)
def kq1 (sg : GSignature) (st : List GStrict) : Bool := (List.range st.length).all (cd0 sg st)
theorem bD0 (n i : Nat) (p : Nat → Bool) (h : i < n) : ((List.range n).drop i).all p = (p i && ((List.range n).drop (i + 1)).all p) := by
 have h' : i < (List.range n).length := by simpa using h
 rw [List.drop_eq_getElem_cons h', List.all_cons, List.getElem_range]
theorem gO0 (n : Nat) (p : Nat → Bool) : ((List.range n).drop n).all p = true := by
 rw [List.drop_of_length_le (by simp)]; rfl
def fS0 (d : GDefinition) : Bool := d.ru.all (cQ0 d.si) && yk1 d.si && decide (d.ru.length ≤ 16) && distS (d.ru.map GRule.na) && kq1 d.si d.st && decide (d.st.length ≤ 8)
def mm1 (d : GDefinition) (t : Tm) : Bool := fS0 d && t.valid && (t.vars.length == 0) && !eqS (t.sort d.si []) sE
theorem wp1 {α : Type} (p : α → Bool) (xs : List α) (i : Nat) (h : i < xs.length) : (xs.drop i).any p = (p xs[i] || (xs.drop (i + 1)).any p) := by
 rw [List.drop_eq_getElem_cons h, List.any_cons]
theorem km0 (x y : GStrict) : x.eqb y = (eqS x.op y.op && (x.ar == y.ar)) := rfl
theorem fd0 (d : GDefinition) (hs : d.size < 1048577) : Sat Tryz.prog 98 [qA0 d.enc] (boolV (kq1 d.si d.st && decide (d.st.length ≤ 8))) := by
 simp only [GDefinition.size] at hs
 have hk := ma0 d.si (by omega)
 have hl := zQ0 GStrict.size d.st
 obtain ⟨si, ru, st⟩ := d
 simp only at hs hk hl
 obtain ⟨r, hr⟩ : ∃ r, r = kq1 si st := ⟨_, rfl⟩
 rw [← hr]
 unfold kq1 at hr
 have hse : si.enc = [.sl (si.so.map encS), .sl (si.op.map GOp.enc)] := rfl
 refine soc zE0 zB0 Tryz.func98 ?_
 simp -implicitDefEqProofs (disch := omega) only [go_sem, GDefinition.enc, hse, zj0, List.cons_append, List.nil_append]
 refine zA0 (ι := Nat) (fun i => mk 61 [(1, .one (.ptr 1 0)), (3, zD0 i)] [(1, .var [.c (.sl (si.so.map encS)), .c (.sl (si.op.map GOp.enc)), .c (.sl (ru.map GRule.enc)), .c (.sl (st.map GStrict.enc))])]) (fun i => i ≤ st.length ∧ ((List.range st.length).drop i).all (cd0 si st) = r) (fun i => st.length - i) 0 ⟨Nat.zero_le _, by simp [hr]⟩ ?_ zE0 zB0 (by decide +kernel) ?_
 ·exact lek
 ·rintro i ⟨hi, he⟩
  rcases Nat.lt_or_ge i st.length with hlt | hge
  ·have hgd := zC0 (ec := GStrict.enc) hlt
   rw [bD0 _ _ _ hlt] at he
   obtain ⟨rest, hre⟩ : ∃ rest, rest = ((List.range st.length).drop (i + 1)).all (cd0 si st) := ⟨_, rfl⟩
   rw [← hre] at he
   have hsa : cd0 si st i = ((zI0 si st[i].op).isSome && !fY0 st[i].op && decide (0 ≤ st[i].ar) && decide (st[i].ar < (((zI0 si st[i].op).getD opD).ar.length : Int)) && !(st.take i).any (fun y => y.eqb st[i])) := by
    simp only [cd0, List.getD_eq_getElem?_getD, List.getElem?_eq_getElem hlt, Option.getD_some]
   rw [hsa] at he
   have hf := wH0 si st[i].op hk
   have hfl := wd0 si hk st[i].op
   have hbi := qM0 st[i].op
   generalize hxx : st[i] = x at hgd he hf hbi hfl
   generalize fY0 x.op = b2 at he hbi
   obtain ⟨b1, hb1⟩ : ∃ b1, b1 = (zI0 si x.op).isSome := ⟨_, rfl⟩
   have hol : ((zI0 si x.op).getD opD).ar.length < 100000000 := by
    cases hfo : zI0 si x.op with
    | none => simp [opD]
    | some o => exact hfl o hfo
   rw [← hb1] at he hf
   generalize (zI0 si x.op).getD opD = o at he hf hol
   obtain ⟨ona, oar, ore⟩ := o
   obtain ⟨xop, xar⟩ := x
   simp only at he hol hbi hf
   simp only [GStrict.enc, encS, zO0, List.cons_append, List.nil_append] at hgd
   simp -implicitDefEqProofs (disch := omega) only [go_sem, hgd, hlt, List.length_map]
   refine CallK.mk hf ?_
   simp -implicitDefEqProofs (disch := omega) only [go_sem, GOp.enc, encS, zj0, List.cons_append, List.nil_append]
   refine ⟨fun k1 => CallK.mk hbi ?_, fun k1 => by rw [← he, k1]; simp⟩
   simp -implicitDefEqProofs (disch := omega) only [go_sem, List.length_map]
   refine ⟨fun k2 => CallK.mk (yi0 _ _ _) ?_, fun k2 => by rw [← he, k2]; simp⟩
   have hin : (decide (0 ≤ xar) && decide (xar ≤ (oar.length : Int) - 1)) = (decide (0 ≤ xar) && decide (xar < (oar.length : Int))) := by
    rw [Bool.eq_iff_iff]; simp; omega
   simp -implicitDefEqProofs (disch := omega) only [go_sem, hin]
   rw [k1, k2] at he
   simp only [Bool.not_false, Bool.true_and] at he
   refine ⟨fun k3 => by rw [← he, k3]; simp, fun k3 => ?_⟩
   rw [k3, Bool.true_and] at he
   obtain ⟨pre, hpre⟩ : ∃ pre, pre = st.take i := ⟨_, rfl⟩
   rw [← hpre] at he
   have hpl : pre.length = i := by rw [hpre, List.length_take]; omega
   refine zA0 (ι := Nat) (fun j => mk 61 [(1, .one (.ptr 1 0)), (3, zD0 i), (4, .one (.ptr 4 0)), (7, zD0 j)] [(1, .var [.c (.sl (si.so.map encS)), .c (.sl (si.op.map GOp.enc)), .c (.sl (ru.map GRule.enc)), .c (.sl (st.map GStrict.enc))]), (4, .var [sC xop, iC xar])]) (fun j => j ≤ i ∧ (pre.drop j).any (fun y => y.eqb ⟨xop, xar⟩) = pre.any (fun y => y.eqb ⟨xop, xar⟩)) (fun j => i - j) 0 ⟨Nat.zero_le _, by simp⟩ ?_ zE0 zB0 (by decide +kernel) ?_
   ·exact lek
   ·rintro j ⟨hj, hej⟩
    rcases Nat.lt_or_ge j i with hjl | hjg
    ·have hjp : j < pre.length := by omega
     have hjs : j < st.length := by omega
     have hgj := zC0 (ec := GStrict.enc) hjs
     have hpj : pre[j] = st[j] := by simp [hpre]
     rw [wp1 _ pre j hjp, hpj] at hej
     obtain ⟨rest2, hre2⟩ : ∃ rest2, rest2 = (pre.drop (j + 1)).any (fun y => y.eqb ⟨xop, xar⟩) := ⟨_, rfl⟩
     rw [← hre2] at hej
     generalize st[j] = y at hgj hej
     obtain ⟨yop, yar⟩ := y
     rw [km0] at hej
     simp only [GStrict.enc, encS, zO0, List.cons_append, List.nil_append] at hgj
     simp only [eqS] at hej
     simp -implicitDefEqProofs (disch := omega) only [go_sem, hgj, hjl, hjs, List.length_map]
     refine ⟨fun h => ?_, fun h => ⟨j + 1, ⟨hjl, ?_⟩, by omega, lek⟩⟩
     ·rw [Bool.and_true] at h; rw [h] at hej; rw [← he, ← hej]; simp
     ·rw [Bool.and_true] at h; rw [h] at hej; rw [← hre2, ← hej]; simp
    ·have : j = i := by omega
     subst this
     rw [List.drop_of_length_le (by omega)] at hej
     have hej : false = pre.any (fun y => y.eqb ⟨xop, xar⟩) := hej
     rw [← hej] at he
     simp -implicitDefEqProofs (disch := omega) only [go_sem, Nat.lt_irrefl]
     exact ⟨j + 1, ⟨hlt, by rw [← hre, ← he]; rfl⟩, by omega, lek⟩
  ·have : i = st.length := by omega
   subst this
   rw [gO0] at he
   subst he
   simp -implicitDefEqProofs (disch := omega) only [go_sem, Nat.lt_irrefl, List.length_map]
   rw [Bool.eq_iff_iff]; simp
   omega
theorem pv0 (d : GDefinition) (hs : d.size < 1048577) : Sat Tryz.prog 41 [qA0 d.enc] (boolV (fS0 d)) := by
 have hst := fd0 d hs
 simp only [GDefinition.size] at hs
 have hk := ma0 d.si (by omega)
 have hsig := mu0 d.si (by omega)
 have hl := zQ0 GRule.size d.ru
 have hm := qT0 GRule.size d.ru
 have hrl := fun x (hx : x ∈ d.ru) => gi0 d.si hk x (by have := hm x hx; omega)
 have hd := specAllDistinct_sat (d.ru.map GRule.na) (by rw [List.length_map]; omega)
 obtain ⟨r, hr⟩ : ∃ r, r = fS0 d := ⟨_, rfl⟩
 rw [← hr]
 unfold fS0 at hr
 generalize yk1 d.si = b1 at hr hsig
 generalize distS (d.ru.map GRule.na) = b2 at hr hd
 rw [Bool.and_assoc, ] at hr
 generalize (kq1 d.si d.st && decide (d.st.length ≤ 8)) = b3 at hr hst
 obtain ⟨si, ru, st⟩ := d
 simp only at hr hs hl hm hrl hd hsig
 generalize cQ0 si = rb at hr hrl
 obtain ⟨A, hA⟩ : ∃ A, A = ru.all rb := ⟨_, rfl⟩
 rw [← hA] at hr
 have hse : si.enc = [.sl (si.so.map encS), .sl (si.op.map GOp.enc)] := rfl
 refine soc zE0 zB0 Tryz.func41 ?_
 simp -implicitDefEqProofs (disch := omega) only [go_sem, GDefinition.enc, hse, zj0, List.cons_append, List.nil_append]
 refine zA0 (ι := Nat) (fun i => mk 48 [(1, .one (.ptr 1 0)), (3, .one (.own 5 i)), (4, zD0 i)] [(1, .var [.c (.sl (si.so.map encS)), .c (.sl (si.op.map GOp.enc)), .c (.sl (ru.map GRule.enc)), .c (.sl (st.map GStrict.enc))]), (5, .arr 9 1 (rowsOf encS ((ru.map GRule.na).take i)) false)]) (fun i => i ≤ ru.length ∧ (ru.drop i).all rb = A) (fun i => ru.length - i) 0 ⟨Nat.zero_le _, by simp [hA]⟩ ?_ zE0 zB0 (by decide +kernel) ?_
 ·exact zG0 (by simp [go_sem]) (by simp [go_sem, rowsOf])
 ·rintro i ⟨hi, he⟩
  rcases Nat.lt_or_ge i ru.length with hlt | hge
  ·have hgd := zC0 (ec := GRule.enc) hlt
   have hlt' : i < (ru.map GRule.na).length := by rw [List.length_map]; exact hlt
   have htk : (ru.map GRule.na).take (i + 1) = (ru.map GRule.na).take i ++ [ru[i].na] := by rw [List.take_add_one, List.getElem?_eq_getElem hlt']; simp
   have hml : min i ru.length = i := by omega
   rw [wB0 _ ru i hlt] at he
   have hsi := hrl _ (List.getElem_mem hlt)
   obtain ⟨rest, hre⟩ : ∃ rest, rest = (ru.drop (i + 1)).all rb := ⟨_, rfl⟩
   rw [← hre] at he
   generalize rb ru[i] = b at he hsi
   generalize ru[i] = x at hgd hsi htk
   obtain ⟨na, ⟨lk, ln, ls, lt⟩, ⟨rk, rn, rs, rt⟩, gu⟩ := x
   simp only [GRule.enc, Tm.enc, encS, zO0, zj0, List.cons_append, List.nil_append] at hgd
   simp -implicitDefEqProofs (disch := omega) only [go_sem, hgd, hlt, List.length_map]
   refine CallK.mk hsi ?_
   simp -implicitDefEqProofs (disch := omega) only [go_sem, hgd, hlt, List.length_map, List.length_take, hml]
   refine ⟨fun k1 => by rw [hr, ← he, k1]; simp, fun k1 => ⟨⟨by simp, by omega, by omega⟩, fun _ => ⟨i + 1, ⟨hlt, by rw [← he, k1, ← hre]; simp⟩, by omega, ?_⟩⟩⟩
   rw [htk]
   exact zG0 (by simp [go_sem]) (by simp [go_sem]; simp [rowsOf, encS])
  ·have : i = ru.length := by omega
   subst this
   rw [List.drop_length] at he
   have he : true = A := he
   rw [← he] at hr
   have htk : (ru.map GRule.na).take ru.length = ru.map GRule.na := List.take_of_length_le (by rw [List.length_map]; exact Nat.le_refl _)
   rw [htk]
   simp -implicitDefEqProofs (disch := omega) only [go_sem, Nat.lt_irrefl, List.length_map]
   refine CallK.mk hsig ?_
   simp -implicitDefEqProofs (disch := omega) only [go_sem, List.length_map]
   refine ⟨fun k1 => ⟨fun k2 => CallK.mk hd ?_, fun k2 => by rw [hr, (by simp; omega : decide (ru.length ≤ 16) = false)]; simp⟩, fun k1 => by rw [hr, k1]; simp⟩
   rw [k1, (by simp; omega : decide (ru.length ≤ 16) = true)] at hr
   simp -implicitDefEqProofs (disch := omega) only [go_sem, List.length_map]
   refine ⟨fun k3 => CallK.mk hst ?_, fun k3 => by rw [hr, k3]; simp⟩
   simp -implicitDefEqProofs (disch := omega) only [go_sem]
   rw [hr, k3]; simp
def zn1 {α : Type} (p : α → Bool) : List α → Int → Int
 | [], _ => -1
 | x :: xs, k => if p x then k else zn1 p xs (k + 1)
theorem zo1 {α : Type} (p : α → Bool) (xs : List α) (i : Nat) (h : i < xs.length) (k : Int) : zn1 p (xs.drop i) k = if p xs[i] then k else zn1 p (xs.drop (i + 1)) (k + 1) := by
 rw [List.drop_eq_getElem_cons h]; simp only [zn1]
theorem ni0 {α : Type} (p : α → Bool) : ∀ (xs : List α) (k : Int), 0 ≤ k → decide (zn1 p xs k ≥ 0) = xs.any p
 | [], k, _ => by simp [zn1]
 | x :: xs, k, hk => by
  simp only [zn1, List.any_cons]
  split
  ·rename_i h; rw [h]; simp; omega
  ·rename_i h
   have h' : p x = false := by simpa using h
   rw [h', Bool.false_or]
   exact ni0 p xs (k + 1) (by omega)
theorem jl0 (xs : List GStrict) (hl : xs.length < 100000000) (x : GStrict) : Sat Tryz.prog 155 [slV (xs.map GStrict.enc), qA0 x.enc] (zD0 (zn1 x.eqb xs 0)) := by
 obtain ⟨xop, xar⟩ := x
 refine soc zE0 zB0 Tryz.func155 ?_
 simp -implicitDefEqProofs (disch := omega) only [go_sem, GStrict.enc, encS, zO0, List.cons_append, List.nil_append]
 obtain ⟨r, hr⟩ : ∃ r, r = zn1 (GStrict.eqb ⟨xop, xar⟩) xs 0 := ⟨_, rfl⟩
 rw [← hr]
 refine zA0 (ι := Nat) (fun i => mk 19 [(0, slV (xs.map GStrict.enc)), (3, .one (.ptr 3 0)), (7, zD0 xs.length), (8, zD0 i)] [(3, .var [sC xop, iC xar])]) (fun i => i ≤ xs.length ∧ zn1 (GStrict.eqb ⟨xop, xar⟩) (xs.drop i) i = r) (fun i => xs.length - i) 0 ⟨Nat.zero_le _, by simp [hr]⟩ ?_ zE0 zB0 (by decide +kernel) ?_
 ·exact lek
 ·rintro i ⟨hi, he⟩
  rcases Nat.lt_or_ge i xs.length with hlt | hge
  ·have hg := zC0 (ec := GStrict.enc) hlt
   rw [zo1 _ xs i hlt] at he
   obtain ⟨rest, hre⟩ : ∃ rest, rest = zn1 (GStrict.eqb ⟨xop, xar⟩) (xs.drop (i + 1)) (i + 1) := ⟨_, rfl⟩
   rw [← hre] at he
   generalize xs[i] = y at hg he
   obtain ⟨yop, yar⟩ := y
   rw [km0] at he
   simp only [GStrict.enc, encS, zO0, List.cons_append, List.nil_append] at hg
   simp -implicitDefEqProofs (disch := omega) only [go_sem, hg, hlt, List.length_map]
   refine ⟨fun h => ?_, fun h => ⟨i + 1, ⟨hlt, ?_⟩, by omega, lek⟩⟩
   ·rw [Bool.and_true] at h
    have h : (eqS xop yop && xar == yar) = true := h
    rw [if_pos h] at he; rw [he]
   ·rw [Bool.and_true] at h
    have h : (eqS xop yop && xar == yar) = false := h
    rw [h, if_neg (by simp)] at he
    rw [← he, hre]; push_cast; rfl
  ·have e1 : xs.drop i = [] := List.drop_of_length_le hge
   rw [e1] at he
   simp -implicitDefEqProofs (disch := omega) only [go_sem, Nat.not_lt.2 hge, List.length_map]
   rw [← he]; rfl
theorem jw1 (x y : GStrict) : x.eqb y = y.eqb x := by
 rw [km0, km0, Bool.eq_iff_iff]
 simp only [Bool.and_eq_true, zw0, beq_iff_eq]
 exact ⟨fun h => ⟨h.1.symm, h.2.symm⟩, fun h => ⟨h.1.symm, h.2.symm⟩⟩
theorem yo0 (xs : List GStrict) (hl : xs.length < 100000000) (x : GStrict) : Sat Tryz.prog 88 [slV (xs.map GStrict.enc), qA0 x.enc] (boolV (xs.any fun y => y.eqb x)) := by
 have h := jl0 xs hl x
 have h2 := ni0 x.eqb xs 0 (Int.le_refl 0)
 have h3 : (xs.any fun y => y.eqb x) = xs.any x.eqb := by congr 1; funext y; exact jw1 y x
 rw [h3]
 obtain ⟨xop, xar⟩ := x
 refine soc zE0 zB0 Tryz.func88 ?_
 simp -implicitDefEqProofs only [go_sem, GStrict.enc, encS, zO0, List.cons_append, List.nil_append]
 refine CallK.mk h ?_
 simp -implicitDefEqProofs only [go_sem, h2]
theorem pM0 (d : GDefinition) (hs : d.size < 1048577) : Sat Tryz.prog 34 [qA0 d.enc] (boolV (fS0 d)) := by
 simp only [GDefinition.size] at hs
 have hk := ma0 d.si (by omega)
 have hsig := mL0 d.si (by omega)
 have hl := zQ0 GRule.size d.ru
 have hm := qT0 GRule.size d.ru
 have hl2 := zQ0 GStrict.size d.st
 have hrl := fun x (hx : x ∈ d.ru) => dn0 d.si hk x (by have := hm x hx; omega)
 simp only [qs1] at hrl
 have hd := jI0 (d.ru.map GRule.na) (by rw [List.length_map]; omega)
 obtain ⟨r, hr⟩ : ∃ r, r = fS0 d := ⟨_, rfl⟩
 rw [← hr]
 unfold fS0 at hr
 generalize yk1 d.si = b1 at hr hsig
 generalize distS (d.ru.map GRule.na) = b2 at hr hd
 obtain ⟨si, ru, st⟩ := d
 simp only at hr hs hk hl hl2 hm hrl hd hsig
 generalize cQ0 si = rb at hr hrl
 obtain ⟨A, hA⟩ : ∃ A, A = ru.all rb := ⟨_, rfl⟩
 obtain ⟨B, hB⟩ : ∃ B, B = kq1 si st := ⟨_, rfl⟩
 rw [← hA, ← hB] at hr
 have hse : si.enc = [.sl (si.so.map encS), .sl (si.op.map GOp.enc)] := rfl
 refine soc zE0 zB0 Tryz.func34 ?_
 simp -implicitDefEqProofs (disch := omega) only [go_sem, GDefinition.enc, hse, zj0, List.cons_append, List.nil_append, List.length_map]
 refine CallK.mk hsig ?_
 simp -implicitDefEqProofs (disch := omega) only [go_sem, List.length_map]
 refine ⟨fun k1 => ⟨fun k2 => ⟨fun k3 => by rw [hr, (by simp; omega : decide (st.length ≤ 8) = false)]; simp, fun k3 => ?_⟩, fun k2 => by rw [hr, (by simp; omega : decide (ru.length ≤ 16) = false)]; simp⟩, fun k1 => by rw [hr, k1]; simp⟩
 have hr : r = (A && B && b2) := by
  rw [hr, k1, (by simp; omega : decide (st.length ≤ 8) = true), (by simp; omega : decide (ru.length ≤ 16) = true)]
  cases A <;> cases B <;> cases b2 <;> rfl
 refine zA0 (ι := Nat) (fun i => mk 91 [(1, .one (.ptr 1 0)), (3, .one (.own 9000 i)), (27, slV (ru.map GRule.enc)), (28, zD0 ru.length), (29, zD0 i)] [(1, .var [.c (.sl (si.so.map encS)), .c (.sl (si.op.map GOp.enc)), .c (.sl (ru.map GRule.enc)), .c (.sl (st.map GStrict.enc))]), (9000, .arr 9 1 (rowsOf encS ((ru.map GRule.na).take i)) false)]) (fun i => i ≤ ru.length ∧ (ru.drop i).all rb = A) (fun i => ru.length - i) 0 ⟨Nat.zero_le _, by simp [hA]⟩ ?_ zE0 zB0 (by decide +kernel) ?_
 ·refine (yG0 (t := 3) 9000 9 1 rfl (by decide) rfl (by decide)).trans ?_
  exact zG0 (by simp [go_sem]) (by simp [go_sem, rowsOf])
 ·rintro i ⟨hi, he⟩
  rcases Nat.lt_or_ge i ru.length with hlt | hge
  ·have hgd := zC0 (ec := GRule.enc) hlt
   have hlt' : i < (ru.map GRule.na).length := by rw [List.length_map]; exact hlt
   have htk : (ru.map GRule.na).take (i + 1) = (ru.map GRule.na).take i ++ [ru[i].na] := by rw [List.take_add_one, List.getElem?_eq_getElem hlt']; simp
   have hml : min i ru.length = i := by omega
   rw [wB0 _ ru i hlt] at he
   have hsi := hrl _ (List.getElem_mem hlt)
   obtain ⟨rest, hre⟩ : ∃ rest, rest = (ru.drop (i + 1)).all rb := ⟨_, rfl⟩
   rw [← hre] at he
   generalize rb ru[i] = b at he hsi
   generalize ru[i] = x at hgd hsi htk
   obtain ⟨na, ⟨lk, ln, ls, lt⟩, ⟨rk, rn, rs, rt⟩, gu⟩ := x
   simp only [GRule.enc, Tm.enc, encS, zO0, zj0, List.cons_append, List.nil_append] at hgd
   simp -implicitDefEqProofs (disch := omega) only [go_sem, hgd, hlt, List.length_map]
   refine CallK.mk hsi ?_
   simp -implicitDefEqProofs (disch := omega) only [go_sem, hgd, hlt, List.length_map, List.length_take, hml]
   refine ⟨fun k1 => by rw [hr, ← he, k1]; simp, fun k1 => ⟨⟨by simp, by omega, by omega⟩, fun _ => ⟨i + 1, ⟨hlt, by rw [← he, k1, ← hre]; simp⟩, by omega, ?_⟩⟩⟩
   rw [htk]
   exact zG0 (by simp [go_sem]) (by simp [go_sem]; simp [rowsOf, encS])
  ·have : i = ru.length := by omega
   subst this
   rw [List.drop_length] at he
   have he : true = A := he
   rw [← he] at hr
   have htk : (ru.map GRule.na).take ru.length = ru.map GRule.na := List.take_of_length_le (by rw [List.length_map]; exact Nat.le_refl _)
   rw [htk]
   simp -implicitDefEqProofs (disch := omega) only [go_sem, Nat.lt_irrefl, List.length_map]
   refine zA0 (ι := Nat) (fun i => mk 91 [(1, .one (.ptr 1 0)), (3, .one (.own 9000 ru.length)), (45, slV (st.map GStrict.enc)), (46, zD0 st.length), (47, zD0 i)] [(1, .var [.c (.sl (si.so.map encS)), .c (.sl (si.op.map GOp.enc)), .c (.sl (ru.map GRule.enc)), .c (.sl (st.map GStrict.enc))]), (9000, .arr 9 1 (rowsOf encS (ru.map GRule.na)) false)]) (fun i => i ≤ st.length ∧ ((List.range st.length).drop i).all (cd0 si st) = B) (fun i => st.length - i) 0 ⟨Nat.zero_le _, by simp [hB, kq1]⟩ ?_ zE0 zB0 (by decide +kernel) ?_
   ·exact lek
   ·rintro i ⟨hi, he⟩
    rcases Nat.lt_or_ge i st.length with hlt | hge
    ·have hgd := zC0 (ec := GStrict.enc) hlt
     rw [bD0 _ _ _ hlt] at he
     obtain ⟨rest, hre⟩ : ∃ rest, rest = ((List.range st.length).drop (i + 1)).all (cd0 si st) := ⟨_, rfl⟩
     rw [← hre] at he
     have hsa : cd0 si st i = ((zI0 si st[i].op).isSome && !fY0 st[i].op && decide (0 ≤ st[i].ar) && decide (st[i].ar < (((zI0 si st[i].op).getD opD).ar.length : Int)) && !(st.take i).any (fun y => y.eqb st[i])) := by
      simp only [cd0, List.getD_eq_getElem?_getD, List.getElem?_eq_getElem hlt, Option.getD_some]
     rw [hsa] at he
     have hf := wD0 si st[i].op hk
     have hfl := wd0 si hk st[i].op
     have hbi := qI0 st[i].op
     have hct := yo0 (st.take i) (by rw [List.length_take]; omega) st[i]
     rw [List.map_take] at hct
     have hsl : ∀ y, y ∈ st.map GStrict.enc → y.length = 2 := by
      intro y hy
      obtain ⟨z, _, rfl⟩ := List.mem_map.1 hy
      exact GStrict.enc_len z
     generalize hxx : st[i] = x at hgd he hf hbi hfl hct
     generalize fY0 x.op = c2 at he hbi
     obtain ⟨c1, hc1⟩ : ∃ c1, c1 = (zI0 si x.op).isSome := ⟨_, rfl⟩
     have hol : ((zI0 si x.op).getD opD).ar.length < 100000000 := by
      cases hfo : zI0 si x.op with
      | none => simp [opD]
      | some o => exact hfl o hfo
     rw [← hc1] at he hf
     generalize (zI0 si x.op).getD opD = o at he hf hol
     generalize ((st.take i).any fun y => y.eqb x) = c3 at he hct
     obtain ⟨ona, oar, ore⟩ := o
     obtain ⟨xop, xar⟩ := x
     simp only at he hol hbi hf
     simp only [GStrict.enc, encS, zO0, List.cons_append, List.nil_append] at hgd
     simp -implicitDefEqProofs (disch := omega) only [go_sem, hgd, hlt, List.length_map]
     refine CallK.mk hf ?_
     simp -implicitDefEqProofs (disch := omega) only [go_sem, GOp.enc, encS, zj0, List.cons_append, List.nil_append]
     refine ⟨fun k1 => CallK.mk hbi ?_, fun k1 => by rw [hr, ← he, k1]; simp⟩
     simp -implicitDefEqProofs (disch := omega) only [go_sem, List.length_map]
     refine ⟨fun k2 => ⟨fun k3 => ⟨fun k4 => ⟨⟨by omega, hsl⟩, fun _ => CallK.mk hct ?_⟩, fun k4 => by rw [hr, ← he, (by simp; omega : decide (xar < (oar.length : Int)) = false)]; simp⟩, fun k3 => by rw [hr, ← he, (by simp; omega : decide (0 ≤ xar) = false)]; simp⟩, fun k2 => by rw [hr, ← he, k2]; simp⟩
     simp -implicitDefEqProofs (disch := omega) only [go_sem]
     rw [k1, k2, (by simp; omega : decide (xar < (oar.length : Int)) = true), (by simp; omega : decide (0 ≤ xar) = true)] at he
     simp only [Bool.not_false, Bool.true_and] at he
     refine ⟨fun k5 => by rw [hr, ← he, k5]; simp, fun k5 => ⟨i + 1, ⟨hlt, by rw [← he, k5, ← hre]; simp⟩, by omega, lek⟩⟩
    ·have : i = st.length := by omega
     subst this
     rw [gO0] at he
     rw [← he] at hr
     simp -implicitDefEqProofs (disch := omega) only [go_sem, Nat.lt_irrefl, List.length_map]
     refine CallK.mk hd ?_
     simp -implicitDefEqProofs (disch := omega) only [go_sem]
     rw [hr]; simp
end Go.Ai
