/- Valid signatures: IsValidSignature. -/
import Derived.Test.YtofbieojmaobfaaGreatAiQ2
import Derived.Test.YtofbieojmaobfaaGreatAiT2
set_option linter.unusedVariables false
set_option linter.unusedSimpArgs false
namespace Go.Ai
open Go.Proofs
set_option maxRecDepth 100000
def sortB (sg : GSignature) (s : ByteArray) : Bool := eqS s sWord || hasS sg.so s
def opB (sg : GSignature) (o : GOp) : Bool := isNm o.na && !isBi o.na && decide (o.ar.length ≤ 3) && o.ar.all (sortB sg) && sortB sg o.re
def soB (s : ByteArray) : Bool := isNm s && !eqS s sWord
def sigB (sg : GSignature) : Bool := sg.so.all soB && sg.op.all (opB sg) && decide (sg.so.length ≤ 4) && distS sg.so && decide (sg.op.length ≤ 16) && distS (sg.op.map GOp.na)
theorem specl6Sort_sat (sg : GSignature) (hl : sg.so.length < 100000000) (s : ByteArray) : Sat Tryz.prog 243 [aggV sg.enc, strV s] (boolV (sortB sg s)) := by
 have hx := specIndexOf_sat sg.so hl s
 have hh := has_idx s sg.so
 obtain ⟨r, hr⟩ : ∃ r, r = sortB sg s := ⟨_, rfl⟩
 rw [← hr]
 unfold sortB at hr
 rw [← hh] at hr
 generalize idxS s sg.so 0 = k at hx hr
 simp only [eqS, sWord] at hr
 have hse : sg.enc = [.sl (sg.so.map encS), .sl (sg.op.map GOp.enc)] := rfl
 refine sat_of_code tbOk mixed Tryz.func243 rfl rfl rfl (by decide +kernel) (by decide +kernel) (Nat.le_of_ble_eq_true rfl) ?_
 simp -implicitDefEqProofs (disch := omega) only [go_sem, hse]
 refine ⟨fun h1 => CallK.mk hx ?_, fun h1 => by grind⟩
 simp -implicitDefEqProofs (disch := omega) only [go_sem]
 grind
theorem specl6Op_sat (sg : GSignature) (hl : sg.so.length < 100000000) (o : GOp) (ho : o.size < 80000000) : Sat Tryz.prog 216 [aggV sg.enc, aggV o.enc] (boolV (opB sg o)) := by
 have hsr := fun s => specl6Sort_sat sg hl s
 have hal := len_szL szS o.ar
 simp only [GOp.size, szS] at ho
 have hnm := specIsName_sat o.na (by omega)
 have hbi := specIsBuiltin_sat o.na
 obtain ⟨r, hr⟩ : ∃ r, r = opB sg o := ⟨_, rfl⟩
 rw [← hr]
 unfold opB at hr
 have hse : sg.enc = [.sl (sg.so.map encS), .sl (sg.op.map GOp.enc)] := rfl
 obtain ⟨na, ar, re⟩ := o
 simp only at hr hal ho hnm hbi
 have hre := hsr re
 generalize isNm na = b1 at hr hnm
 generalize isBi na = b2 at hr hbi
 generalize sortB sg re = b3 at hr hre
 refine sat_of_code tbOk mixed Tryz.func216 rfl rfl rfl (by decide +kernel) (by decide +kernel) (Nat.le_of_ble_eq_true rfl) ?_
 simp -implicitDefEqProofs (disch := omega) only [go_sem, hse, GOp.enc, encS, encL, List.cons_append, List.nil_append]
 refine loopA_rule (ι := Nat) (fun i => mk 42 [(2, .one (.ptr 2 0)), (3, .one (.ptr 3 0)), (5, intV i)] [(2, .var [.c (.sl (sg.so.map encS)), .c (.sl (sg.op.map GOp.enc))]), (3, .var [sC na, .c (.sl (ar.map encS)), sC re])]) (fun i => i ≤ ar.length ∧ (ar.drop i).all (sortB sg) = ar.all (sortB sg)) (fun i => ar.length - i) 0 ⟨Nat.zero_le _, by simp⟩ ?_ tbOk mixed (by decide +kernel) ?_
 ·exact le_mk (by simp [go_sem]) (by simp [go_sem])
 ·rintro i ⟨hi, he⟩
  rcases Nat.lt_or_ge i ar.length with hlt | hge
  ·have hgd := map_getD (ec := encS) hlt
   rw [all_drop _ ar i hlt] at he
   have hsi := hsr ar[i]
   generalize ar[i] = x at hgd he hsi
   simp only [encS] at hgd
   simp -implicitDefEqProofs (disch := omega) only [go_sem, hgd, hlt, List.length_map]
   refine CallK.mk hsi ?_
   simp -implicitDefEqProofs (disch := omega) only [go_sem]
   exact ⟨fun k => by rw [hr, ← he, k]; simp, fun k => ⟨i + 1, ⟨hlt, by rw [← he, k, Bool.true_and]⟩, by omega, le_mk (by simp [go_sem]) (by simp [go_sem])⟩⟩
  ·have : i = ar.length := by omega
   subst this
   rw [List.drop_length] at he
   have he : true = ar.all (sortB sg) := he
   rw [← he, Bool.and_true] at hr
   simp -implicitDefEqProofs (disch := omega) only [go_sem, Nat.lt_irrefl, List.length_map]
   refine CallK.mk hnm ?_
   simp -implicitDefEqProofs (disch := omega) only [go_sem]
   refine ⟨fun k1 => CallK.mk hbi ?_, fun k1 => by rw [hr, k1]; simp⟩
   simp -implicitDefEqProofs (disch := omega) only [go_sem, List.length_map]
   refine ⟨fun k2 => ⟨fun k3 => CallK.mk hre ?_, fun k3 => ?_⟩, fun k2 => by rw [hr, k2]; simp⟩
   ·simp -implicitDefEqProofs (disch := omega) only [go_sem]
    have k3' : decide (ar.length ≤ 3) = true := by simp; omega
    rw [hr, k1, k2, k3']; simp
   ·have k3' : decide (ar.length ≤ 3) = false := by simp; omega
    rw [hr, k3']; simp
theorem specSig_sat (sg : GSignature) (hs : sg.size < 80000000) : Sat Tryz.prog 172 [aggV sg.enc] (boolV (sigB sg)) := by
 simp only [GSignature.size] at hs
 have hl1 := len_szL szS sg.so
 have hl2 := len_szL GOp.size sg.op
 have hm1 := szL_mem szS sg.so
 have hm2 := szL_mem GOp.size sg.op
 have hop := fun o (ho : o ∈ sg.op) => specl6Op_sat sg (by omega) o (by have := hm2 o ho; omega)
 have hnm := fun s (h : s ∈ sg.so) => specIsName_sat s (by have := hm1 s h; simp only [szS] at this; omega)
 have hd1 := specAllDistinct_sat sg.so (by omega)
 have hd2 := specAllDistinct_sat (sg.op.map GOp.na) (by rw [List.length_map]; omega)
 obtain ⟨r, hr⟩ : ∃ r, r = sigB sg := ⟨_, rfl⟩
 rw [← hr]
 unfold sigB at hr
 generalize distS sg.so = d1 at hr hd1
 generalize distS (sg.op.map GOp.na) = d2 at hr hd2
 generalize hopb : opB sg = ob at hr hop
 obtain ⟨so, op⟩ := sg
 simp only at hr hs hl1 hl2 hm1 hm2 hop hnm hd1 hd2
 obtain ⟨A, hA⟩ : ∃ A, A = so.all soB := ⟨_, rfl⟩
 obtain ⟨B, hB⟩ : ∃ B, B = op.all ob := ⟨_, rfl⟩
 rw [← hA, ← hB] at hr
 refine sat_of_code tbOk mixed Tryz.func172 rfl rfl rfl (by decide +kernel) (by decide +kernel) (Nat.le_of_ble_eq_true rfl) ?_
 simp -implicitDefEqProofs (disch := omega) only [go_sem, GSignature.enc, encL, List.cons_append, List.nil_append]
 refine loopA_rule (ι := Nat) (fun i => mk 72 [(1, .one (.ptr 1 0)), (3, .one (.own 6 0)), (4, intV i)] [(1, .var [.c (.sl (so.map encS)), .c (.sl (op.map GOp.enc))]), (6, .arr 9 1 [] false)]) (fun i => i ≤ so.length ∧ (so.drop i).all soB = A) (fun i => so.length - i) 0 ⟨Nat.zero_le _, by simp [hA]⟩ ?_ tbOk mixed (by decide +kernel) ?_
 ·exact le_mk (by simp [go_sem]) (by simp [go_sem])
 ·rintro i ⟨hi, he⟩
  rcases Nat.lt_or_ge i so.length with hlt | hge
  ·have hgd := map_getD (ec := encS) hlt
   rw [all_drop _ so i hlt] at he
   have hsi := hnm _ (List.getElem_mem hlt)
   obtain ⟨rest, hre⟩ : ∃ rest, rest = (so.drop (i + 1)).all soB := ⟨_, rfl⟩
   rw [← hre] at he
   generalize so[i] = x at hgd he hsi
   simp only [soB, eqS, sWord] at he
   simp only [encS] at hgd
   simp -implicitDefEqProofs (disch := omega) only [go_sem, hgd, hlt, List.length_map]
   refine CallK.mk hsi ?_
   simp -implicitDefEqProofs (disch := omega) only [go_sem, hgd, hlt, List.length_map]
   refine ⟨fun k1 => ⟨fun k2 => by rw [hr, ← he, k2]; simp, fun k2 => ⟨i + 1, ⟨hlt, by rw [← he, k1, k2, ← hre]; simp⟩, by omega, le_mk (by simp [go_sem]) (by simp [go_sem])⟩⟩, fun k1 => by rw [hr, ← he, k1]; simp⟩
  ·have : i = so.length := by omega
   subst this
   rw [List.drop_length] at he
   have he : true = A := he
   rw [← he] at hr
   simp -implicitDefEqProofs (disch := omega) only [go_sem, Nat.lt_irrefl, List.length_map]
   refine loopA_rule (ι := Nat) (fun i => mk 72 [(1, .one (.ptr 1 0)), (3, .one (.own 6 i)), (5, intV i)] [(1, .var [.c (.sl (so.map encS)), .c (.sl (op.map GOp.enc))]), (6, .arr 9 1 (rowsOf encS ((op.map GOp.na).take i)) false)]) (fun i => i ≤ op.length ∧ (op.drop i).all ob = B) (fun i => op.length - i) 0 ⟨Nat.zero_le _, by simp [hB]⟩ ?_ tbOk mixed (by decide +kernel) ?_
   ·exact le_mk (by simp [go_sem]) (by simp [go_sem, rowsOf])
   ·rintro i ⟨hi, he⟩
    rcases Nat.lt_or_ge i op.length with hlt | hge
    ·have hgd := map_getD (ec := GOp.enc) hlt
     have hlt' : i < (op.map GOp.na).length := by rw [List.length_map]; exact hlt
     have htk : (op.map GOp.na).take (i + 1) = (op.map GOp.na).take i ++ [op[i].na] := by rw [List.take_add_one, List.getElem?_eq_getElem hlt']; simp
     rw [all_drop _ op i hlt] at he
     have hsi := hop _ (List.getElem_mem hlt)
     obtain ⟨rest, hre⟩ : ∃ rest, rest = (op.drop (i + 1)).all ob := ⟨_, rfl⟩
     rw [← hre] at he
     generalize ob op[i] = b at he hsi
     generalize op[i] = o at hgd hsi htk
     obtain ⟨ona, oar, ore⟩ := o
     simp only [GOp.enc, encS, encL, List.cons_append, List.nil_append] at hgd
     have hml : min i op.length = i := by omega
     simp -implicitDefEqProofs (disch := omega) only [go_sem, hgd, hlt, List.length_map]
     refine CallK.mk hsi ?_
     simp -implicitDefEqProofs (disch := omega) only [go_sem, hgd, hlt, List.length_map, List.length_take, hml]
     refine ⟨fun k1 => by rw [hr, ← he, k1]; simp, fun k1 => ⟨⟨by simp, by omega, by omega⟩, fun _ => ⟨i + 1, ⟨hlt, by rw [← he, k1, ← hre]; simp⟩, by omega, ?_⟩⟩⟩
     rw [htk]
     exact le_mk (by simp [go_sem]) (by simp [go_sem]; simp [rowsOf, encS])
    ·have : i = op.length := by omega
     subst this
     rw [List.drop_length] at he
     have he : true = B := he
     rw [← he] at hr
     have htk : (op.map GOp.na).take op.length = op.map GOp.na := List.take_of_length_le (by rw [List.length_map]; exact Nat.le_refl _)
     rw [htk]
     simp -implicitDefEqProofs (disch := omega) only [go_sem, Nat.lt_irrefl, List.length_map]
     refine ⟨fun k1 => CallK.mk hd1 ?_, fun k1 => ?_⟩
     ·have k1' : decide (so.length ≤ 4) = true := by simp; omega
      simp -implicitDefEqProofs (disch := omega) only [go_sem, List.length_map]
      refine ⟨fun k2 => ⟨fun k3 => CallK.mk hd2 ?_, fun k3 => ?_⟩, fun k2 => by rw [hr, k2]; simp⟩
      ·have k3' : decide (op.length ≤ 16) = true := by simp; omega
       simp -implicitDefEqProofs (disch := omega) only [go_sem]
       rw [hr, k1', k2, k3']; simp
      ·have k3' : decide (op.length ≤ 16) = false := by simp; omega
       rw [hr, k3']; simp
     ·have k1' : decide (so.length ≤ 4) = false := by simp; omega
      rw [hr, k1']; simp
theorem implDist_sat (xs : List ByteArray) (hl : xs.length < 100000000) : Sat Tryz.prog 191 [slV (xs.map encS)] (boolV (distS xs)) := by
 have h := implAllDistinct_sat xs hl
 rw [sortedLen_eq] at h
 exact h
theorem opB_app (sg : GSignature) (o : GOp) : opB sg o = (isNm o.na && !isBi o.na && decide (o.ar.length ≤ 3) && (o.ar ++ [o.re]).all (sortB sg)) := by
 unfold opB
 rw [List.all_append, List.all_cons, List.all_nil, Bool.and_true, Bool.and_assoc]
theorem implSig_sat (sg : GSignature) (hs : sg.size < 80000000) : Sat Tryz.prog 186 [aggV sg.enc] (boolV (sigB sg)) := by
 simp only [GSignature.size] at hs
 have hl1 := len_szL szS sg.so
 have hl2 := len_szL GOp.size sg.op
 have hm1 := szL_mem szS sg.so
 have hm2 := szL_mem GOp.size sg.op
 have hnm := fun s (h : s ∈ sg.so) => implIsName_sat s (by have := hm1 s h; simp only [szS] at this; omega)
 have hd1 := implDist_sat sg.so (by omega)
 have hd2 := implDist_sat (sg.op.map GOp.na) (by rw [List.length_map]; omega)
 have hct := fun s => sliceContainsS_sat sg.so (by omega) s
 have hsB : ∀ s, sortB sg s = (eqS s sWord || hasS sg.so s) := fun s => rfl
 obtain ⟨r, hr⟩ : ∃ r, r = sigB sg := ⟨_, rfl⟩
 rw [← hr]
 unfold sigB at hr
 generalize distS sg.so = d1 at hr hd1
 generalize distS (sg.op.map GOp.na) = d2 at hr hd2
 have hopB := fun o => opB_app sg o
 generalize hopb : opB sg = ob at hr hopB
 generalize hsb : sortB sg = sb at hsB hopB
 obtain ⟨so, op⟩ := sg
 simp only at hr hs hl1 hl2 hm1 hm2 hnm hd1 hd2 hct hsB
 obtain ⟨A, hA⟩ : ∃ A, A = so.all soB := ⟨_, rfl⟩
 obtain ⟨B, hB⟩ : ∃ B, B = op.all ob := ⟨_, rfl⟩
 rw [← hA, ← hB] at hr
 refine sat_of_code tbOk mixed Tryz.func186 rfl rfl rfl (by decide +kernel) (by decide +kernel) (Nat.le_of_ble_eq_true rfl) ?_
 simp -implicitDefEqProofs (disch := omega) only [go_sem, GSignature.enc, encL, List.cons_append, List.nil_append, List.length_map]
 refine ⟨fun k1 => CallK.mk hd1 ?_, fun k1 => by rw [hr, (by simp; omega : decide (so.length ≤ 4) = false)]; simp⟩
 simp -implicitDefEqProofs (disch := omega) only [go_sem, List.length_map]
 refine ⟨fun k2 => ⟨fun k3 => by rw [hr, (by simp; omega : decide (op.length ≤ 16) = false)]; simp, fun k3 => ?_⟩, fun k2 => by rw [hr, k2]; simp⟩
 have hr : r = (A && B && d2) := by rw [hr, k2, (by simp; omega : decide (so.length ≤ 4) = true), (by simp; omega : decide (op.length ≤ 16) = true)]; simp
 refine loopA_rule (ι := Nat) (fun i => mk 93 [(1, .one (.ptr 1 0)), (27, slV (so.map encS)), (28, intV so.length), (29, intV i)] [(1, .var [.c (.sl (so.map encS)), .c (.sl (op.map GOp.enc))])]) (fun i => i ≤ so.length ∧ (so.drop i).all soB = A) (fun i => so.length - i) 0 ⟨Nat.zero_le _, by simp [hA]⟩ ?_ tbOk mixed (by decide +kernel) ?_
 ·exact le_mk (by simp [go_sem]) (by simp [go_sem])
 ·rintro i ⟨hi, he⟩
  rcases Nat.lt_or_ge i so.length with hlt | hge
  ·have hgd := map_getD (ec := encS) hlt
   rw [all_drop _ so i hlt] at he
   have hsi := hnm _ (List.getElem_mem hlt)
   obtain ⟨rest, hre⟩ : ∃ rest, rest = (so.drop (i + 1)).all soB := ⟨_, rfl⟩
   rw [← hre] at he
   generalize so[i] = x at hgd he hsi
   simp only [soB, eqS, sWord] at he
   simp only [encS] at hgd
   simp -implicitDefEqProofs (disch := omega) only [go_sem, hgd, hlt, List.length_map]
   refine CallK.mk hsi ?_
   simp -implicitDefEqProofs (disch := omega) only [go_sem, hgd, hlt, List.length_map]
   refine ⟨fun k1 => ⟨fun k2 => by rw [hr, ← he, k2]; simp, fun k2 => ⟨i + 1, ⟨hlt, by rw [← he, k1, k2, ← hre]; simp⟩, by omega, le_mk (by simp [go_sem]) (by simp [go_sem])⟩⟩, fun k1 => by rw [hr, ← he, k1]; simp⟩
  ·have : i = so.length := by omega
   subst this
   rw [List.drop_length] at he
   have he : true = A := he
   rw [← he] at hr
   simp -implicitDefEqProofs (disch := omega) only [go_sem, Nat.lt_irrefl, List.length_map]
   refine loopA_rule (ι := Nat) (fun i => mk 93 [(1, .one (.ptr 1 0)), (5, .one (.own 9000 i)), (42, slV (op.map GOp.enc)), (43, intV op.length), (44, intV i)] [(1, .var [.c (.sl (so.map encS)), .c (.sl (op.map GOp.enc))]), (9000, .arr 9 1 (rowsOf encS ((op.map GOp.na).take i)) false)]) (fun i => i ≤ op.length ∧ (op.drop i).all ob = B) (fun i => op.length - i) 0 ⟨Nat.zero_le _, by simp [hB]⟩ ?_ tbOk mixed (by decide +kernel) ?_
   ·refine (wk_nil (t := 5) 9000 9 1 rfl (by decide) rfl (by decide)).trans ?_
    exact le_mk (by simp [go_sem]) (by simp [go_sem, rowsOf])
   ·rintro i ⟨hi, he⟩
    rcases Nat.lt_or_ge i op.length with hlt | hge
    ·have hgd := map_getD (ec := GOp.enc) hlt
     have hlt' : i < (op.map GOp.na).length := by rw [List.length_map]; exact hlt
     have htk : (op.map GOp.na).take (i + 1) = (op.map GOp.na).take i ++ [op[i].na] := by rw [List.take_add_one, List.getElem?_eq_getElem hlt']; simp
     have hml : min i op.length = i := by omega
     rw [all_drop _ op i hlt] at he
     have hoz := hm2 _ (List.getElem_mem hlt)
     obtain ⟨rest, hre⟩ : ∃ rest, rest = (op.drop (i + 1)).all ob := ⟨_, rfl⟩
     rw [← hre] at he
     rw [hopB] at he
     generalize op[i] = o at hgd hoz htk he
     obtain ⟨ona, oar, ore⟩ := o
     have hal := len_szL szS oar
     simp only [GOp.size, szS] at hoz
     have hnm1 := implIsName_sat ona (by omega)
     have hbi1 := implIsBuiltin_sat ona
     have hcl := cloneString_sat oar (by omega)
     simp only at he htk
     simp only [GOp.enc, encS, encL, List.cons_append, List.nil_append] at hgd
     obtain ⟨ys, hys⟩ : ∃ ys, ys = oar ++ [ore] := ⟨_, rfl⟩
     rw [← hys] at he
     have hyl : ys.length = oar.length + 1 := by rw [hys]; simp
     simp -implicitDefEqProofs (disch := omega) only [go_sem, hgd, hlt, List.length_map]
     refine CallK.mk hnm1 ?_
     simp -implicitDefEqProofs (disch := omega) only [go_sem, List.length_map]
     refine ⟨fun k1 => CallK.mk hbi1 ?_, fun k1 => by rw [hr, ← he, k1]; simp⟩
     simp -implicitDefEqProofs (disch := omega) only [go_sem, List.length_map]
     refine ⟨fun k2 => ⟨fun k3 => by rw [hr, ← he, (by simp; omega : decide (oar.length ≤ 3) = false)]; simp, fun k3 => CallK.outN hcl rfl rfl ?_⟩, fun k2 => by rw [hr, ← he, k2]; simp⟩
     rw [k1, k2, (by simp; omega : decide (oar.length ≤ 3) = true)] at he
     simp only [Bool.not_false, Bool.true_and] at he
     simp -implicitDefEqProofs (disch := omega) only [go_sem, hgd, hlt, List.length_map]
     refine ⟨⟨by simp, by omega, by omega⟩, fun _ => ?_⟩
     refine loopA_rule (ι := Nat) (fun j => mk 93 [(1, .one (.ptr 1 0)), (5, .one (.own 9000 i)), (7, .one (.ptr 7 0)), (42, slV (op.map GOp.enc)), (43, intV op.length), (44, intV i), (69, slV (ys.map encS)), (70, intV ys.length), (71, intV j)] [(1, .var [.c (.sl (so.map encS)), .c (.sl (op.map GOp.enc))]), (7, .var [sC ona, .c (.sl (oar.map encS)), sC ore]), (9000, .arr 9 1 (rowsOf encS ((op.map GOp.na).take i)) false)]) (fun j => j ≤ ys.length ∧ (ys.drop j).all sb = ys.all sb) (fun j => ys.length - j) 0 ⟨Nat.zero_le _, by simp⟩ ?_ tbOk mixed (by decide +kernel) ?_
     ·refine (le_mk (L' := [(1, .one (.ptr 1 0)), (5, .one (.own 9000 i)), (7, .one (.ptr 7 0)), (42, slV (op.map GOp.enc)), (43, intV op.length), (44, intV i), (69, .one (.own 65 (rowsOf encS ys).length)), (70, intV ys.length), (71, intV 0)]) (B' := [(1, .var [.c (.sl (so.map encS)), .c (.sl (op.map GOp.enc))]), (7, .var [sC ona, .c (.sl (oar.map encS)), sC ore]), (9000, .arr 9 1 (rowsOf encS ((op.map GOp.na).take i)) false), (65, .arr 9 1 (rowsOf encS ys) false)]) (by simp [go_sem]; omega) (by simp [go_sem, hys]; simp [rowsOf, encS])).trans ?_
      refine (wk_data (t := 69) (l := 65) rfl rfl rfl (by decide) rowsOf_unN).trans ?_
      exact le_mk (by simp [go_sem]) (by simp [go_sem])
     ·rintro j ⟨hj, hej⟩
      rcases Nat.lt_or_ge j ys.length with hjl | hjg
      ·have hgj := map_getD (ec := encS) hjl
       rw [all_drop _ ys j hjl, hsB] at hej
       have hcj := hct ys[j]
       generalize ys[j] = y at hgj hej hcj
       simp only [eqS, sWord] at hej
       simp only [encS] at hgj
       simp -implicitDefEqProofs (disch := omega) only [go_sem, hgj, hjl, List.length_map]
       refine ⟨fun h1 => CallK.mk hcj ?_, fun h1 => ⟨j + 1, ⟨hjl, by rw [← hej, h1]; simp⟩, by omega, le_mk (by simp [go_sem]) (by simp [go_sem])⟩⟩
       simp -implicitDefEqProofs (disch := omega) only [go_sem]
       refine ⟨fun h2 => ?_, fun h2 => ⟨j + 1, ⟨hjl, by rw [← hej, h2]; simp⟩, by omega, le_mk (by simp [go_sem]) (by simp [go_sem])⟩⟩
       rw [hr, ← he, ← hej, h1, h2]; simp
      ·have : j = ys.length := by omega
       subst this
       rw [List.drop_length] at hej
       have hej : true = ys.all sb := hej
       rw [← hej, Bool.true_and] at he
       simp -implicitDefEqProofs (disch := omega) only [go_sem, Nat.lt_irrefl, List.length_map, List.length_take, hml]
       refine ⟨⟨by simp, by omega, by omega⟩, fun _ => ⟨i + 1, ⟨hlt, by rw [← hre, he]⟩, by omega, ?_⟩⟩
       rw [htk]
       exact le_mk (by simp [go_sem]) (by simp [go_sem]; simp [rowsOf, encS])
    ·have : i = op.length := by omega
     subst this
     rw [List.drop_length] at he
     have he : true = B := he
     rw [← he] at hr
     have htk : (op.map GOp.na).take op.length = op.map GOp.na := List.take_of_length_le (by rw [List.length_map]; exact Nat.le_refl _)
     rw [htk]
     simp -implicitDefEqProofs (disch := omega) only [go_sem, Nat.lt_irrefl, List.length_map]
     refine CallK.mk hd2 ?_
     simp -implicitDefEqProofs (disch := omega) only [go_sem]
     rw [hr]; simp
end Go.Ai
