/- Symbolic terms: sizes, copies, marks; InstanceOf. Written by mk13.py. -/
import Derived.Test.YtdjleacnjijbjaaAiN1
import Derived.Test.YtdjleacnjijbjaaAiI4
namespace Go.Ai
set_option linter.unusedVariables false
set_option linter.unusedSimpArgs false
open Go.Proofs Go.RowKit
set_option maxRecDepth 100000

theorem szIntS_sat (xs : List Int) (hw : wfL wfI xs) (b : Int) (h0 : 0 ≤ b) (h1 : b < 1048577) : Sat Try.prog 73 [slV (xs.map encI), intV b] (intV (szR (szL szI xs) b)) := by
  have hl := hw.1
  simp only [maxLen] at hl
  refine sat_of_code tbOk mixed Try.func73 rfl rfl rfl (by decide +kernel) (by decide +kernel) (Nat.le_of_ble_eq_true rfl) ?_
  simp -implicitDefEqProofs (disch := omega) only [go_sem, ↓reduceIte, reduceCtorEq, Nat.reduceEqDiff, Nat.reduceLT, Nat.reduceLeDiff, Nat.reduceAdd, Nat.reduceSub, Nat.reduceMul, IntWalk.i64_in, AV.one.injEq, AC.c.injEq, C.v.injEq, Value.int.injEq, Value.bool.injEq, beq_self_eq_true, bne_self_eq_false]
  have := szL_int xs
  grind [szR]

structure GSymbolic where
  va : List ByteArray
  t : Tm
  ca : List Int
def GSymbolic.enc (x : GSymbolic) : List C := encL encS x.va ++ (Tm.enc x.t ++ (encL encI x.ca))
def GSymbolic.size (x : GSymbolic) : Nat := (szL szS) x.va + Tm.size x.t + (szL szI) x.ca
def GSymbolic.wf (x : GSymbolic) : Prop := (wfL wfS) x.va ∧ Tm.wf x.t ∧ (wfL wfI) x.ca
def GSymbolic.eqb (x y : GSymbolic) : Bool := (eqL eqS) x.va y.va && (Tm.eqb x.t y.t && ((eqL eqI) x.ca y.ca))
theorem GSymbolic.enc_len (x : GSymbolic) : x.enc.length = 6 := by simp [GSymbolic.enc, encI, encS, encB, encL, Go.Ai.enc_len]
theorem GSymbolic.enc_take (x : GSymbolic) : x.enc.take 6 = x.enc := List.take_of_length_le (by rw [GSymbolic.enc_len]; exact Nat.le_refl _)
theorem GSymbolic.encm_take (x : GSymbolic) : (x.enc.map AC.c).take 6 = x.enc.map AC.c := List.take_of_length_le (by rw [List.length_map, GSymbolic.enc_len]; exact Nat.le_refl _)
attribute [go_sem] GSymbolic.enc_len GSymbolic.enc_take GSymbolic.encm_take
theorem GSymbolic.eqb_refl (x : GSymbolic) : x.eqb x = true := by simp only [GSymbolic.eqb, (eqL_refl eqS_refl) x.va, Tm.eqb_refl x.t, (eqL_refl eqI_refl) x.ca, Bool.and_self]

theorem szSymbolic_sat (x : GSymbolic) (hw : x.wf) (b : Int) (h0 : 0 ≤ b) (h1 : b < 1048577) : Sat Try.prog 20 [aggV x.enc, intV b] (intV (szR x.size b)) := by
  obtain ⟨r, hr⟩ : ∃ r, r = szR x.size b := ⟨_, rfl⟩
  rw [← hr]
  obtain ⟨xva, ⟨xtk, xtn, xts, xtt⟩, xca⟩ := x
  simp only [GSymbolic.wf, wfI, wfS, wfB, maxLen] at hw
  simp only [GSymbolic.size, szI, szS] at hr
  refine sat_of_code tbOk mixed Try.func20 rfl rfl rfl (by decide +kernel) (by decide +kernel) (Nat.le_of_ble_eq_true rfl) ?_
  simp -implicitDefEqProofs (disch := omega) only [go_sem, ↓reduceIte, reduceCtorEq, Nat.reduceEqDiff, Nat.reduceLT, Nat.reduceLeDiff, Nat.reduceAdd, Nat.reduceSub, Nat.reduceMul, IntWalk.i64_in, AV.one.injEq, AC.c.injEq, C.v.injEq, Value.int.injEq, Value.bool.injEq, beq_self_eq_true, bne_self_eq_false, GSymbolic.enc, Tm.enc, encB, encI, encL, encS, List.cons_append, List.nil_append, List.append_nil]
  have hb0 : -1 ≤ szR ((szL szS) xva) b ∧ szR ((szL szS) xva) b ≤ 1048576 := by grind [szR]
  refine CallK.mk (szStringS_sat xva hw.1 b (by grind [szR]) (by grind [szR])) ?_
  simp -implicitDefEqProofs (disch := omega) only [go_sem, ↓reduceIte, reduceCtorEq, Nat.reduceEqDiff, Nat.reduceLT, Nat.reduceLeDiff, Nat.reduceAdd, Nat.reduceSub, Nat.reduceMul, IntWalk.i64_in, AV.one.injEq, AC.c.injEq, C.v.injEq, Value.int.injEq, Value.bool.injEq, beq_self_eq_true, bne_self_eq_false, GSymbolic.enc, Tm.enc, encB, encI, encL, encS, List.cons_append, List.nil_append, List.append_nil]
  refine ⟨fun h0 => by grind [szR], fun h0 => ?_⟩
  have hb1 : -1 ≤ szR (Tm.size (.mk xtk xtn xts xtt)) (szR ((szL szS) xva) b) ∧ szR (Tm.size (.mk xtk xtn xts xtt)) (szR ((szL szS) xva) b) ≤ 1048576 := by grind [szR]
  refine CallK.mk (szTerm_sat (.mk xtk xtn xts xtt) hw.2.1 (szR ((szL szS) xva) b) (by grind [szR]) (by grind [szR])) ?_
  simp -implicitDefEqProofs (disch := omega) only [go_sem, ↓reduceIte, reduceCtorEq, Nat.reduceEqDiff, Nat.reduceLT, Nat.reduceLeDiff, Nat.reduceAdd, Nat.reduceSub, Nat.reduceMul, IntWalk.i64_in, AV.one.injEq, AC.c.injEq, C.v.injEq, Value.int.injEq, Value.bool.injEq, beq_self_eq_true, bne_self_eq_false, GSymbolic.enc, Tm.enc, encB, encI, encL, encS, List.cons_append, List.nil_append, List.append_nil]
  refine ⟨fun h1 => by grind [szR], fun h1 => ?_⟩
  have hb2 : -1 ≤ szR ((szL szI) xca) (szR (Tm.size (.mk xtk xtn xts xtt)) (szR ((szL szS) xva) b)) ∧ szR ((szL szI) xca) (szR (Tm.size (.mk xtk xtn xts xtt)) (szR ((szL szS) xva) b)) ≤ 1048576 := by grind [szR]
  refine CallK.mk (szIntS_sat xca hw.2.2 (szR (Tm.size (.mk xtk xtn xts xtt)) (szR ((szL szS) xva) b)) (by grind [szR]) (by grind [szR])) ?_
  simp -implicitDefEqProofs (disch := omega) only [go_sem, ↓reduceIte, reduceCtorEq, Nat.reduceEqDiff, Nat.reduceLT, Nat.reduceLeDiff, Nat.reduceAdd, Nat.reduceSub, Nat.reduceMul, IntWalk.i64_in, AV.one.injEq, AC.c.injEq, C.v.injEq, Value.int.injEq, Value.bool.injEq, beq_self_eq_true, bne_self_eq_false, GSymbolic.enc, Tm.enc, encB, encI, encL, encS, List.cons_append, List.nil_append, List.append_nil]
  grind [szR]

theorem toSymbolic_sat (x : GSymbolic) (hs : x.size < 1048577) : Sat Try.prog 22 [aggV x.enc] (aggV x.enc) := by
  obtain ⟨xva, ⟨xtk, xtn, xts, xtt⟩, xca⟩ := x
  simp only [GSymbolic.size, szI, szS] at hs
  refine sat_of_code tbOk mixed Try.func22 rfl rfl rfl (by decide +kernel) (by decide +kernel) (Nat.le_of_ble_eq_true rfl) ?_
  simp -implicitDefEqProofs (disch := omega) only [go_sem, ↓reduceIte, reduceCtorEq, Nat.reduceEqDiff, Nat.reduceLT, Nat.reduceLeDiff, Nat.reduceAdd, Nat.reduceSub, Nat.reduceMul, IntWalk.i64_in, AV.one.injEq, AC.c.injEq, C.v.injEq, Value.int.injEq, Value.bool.injEq, beq_self_eq_true, bne_self_eq_false, GSymbolic.enc, Tm.enc, encB, encI, encL, encS, List.cons_append, List.nil_append, List.append_nil]
  refine CallK.mk (toStringS_sat xva (by omega)) ?_
  simp -implicitDefEqProofs (disch := omega) only [go_sem, ↓reduceIte, reduceCtorEq, Nat.reduceEqDiff, Nat.reduceLT, Nat.reduceLeDiff, Nat.reduceAdd, Nat.reduceSub, Nat.reduceMul, IntWalk.i64_in, AV.one.injEq, AC.c.injEq, C.v.injEq, Value.int.injEq, Value.bool.injEq, beq_self_eq_true, bne_self_eq_false, GSymbolic.enc, Tm.enc, encB, encI, encL, encS, List.cons_append, List.nil_append, List.append_nil]
  refine CallK.mk (toTerm_sat (.mk xtk xtn xts xtt) (by omega)) ?_
  simp -implicitDefEqProofs (disch := omega) only [go_sem, ↓reduceIte, reduceCtorEq, Nat.reduceEqDiff, Nat.reduceLT, Nat.reduceLeDiff, Nat.reduceAdd, Nat.reduceSub, Nat.reduceMul, IntWalk.i64_in, AV.one.injEq, AC.c.injEq, C.v.injEq, Value.int.injEq, Value.bool.injEq, beq_self_eq_true, bne_self_eq_false, GSymbolic.enc, Tm.enc, encB, encI, encL, encS, List.cons_append, List.nil_append, List.append_nil]
  refine CallK.mk (toIntS_sat xca (by omega)) ?_
  simp -implicitDefEqProofs (disch := omega) only [go_sem, ↓reduceIte, reduceCtorEq, Nat.reduceEqDiff, Nat.reduceLT, Nat.reduceLeDiff, Nat.reduceAdd, Nat.reduceSub, Nat.reduceMul, IntWalk.i64_in, AV.one.injEq, AC.c.injEq, C.v.injEq, Value.int.injEq, Value.bool.injEq, beq_self_eq_true, bne_self_eq_false, GSymbolic.enc, Tm.enc, encB, encI, encL, encS, List.cons_append, List.nil_append, List.append_nil]
  rfl

theorem eqSymbolic_sat (x : GSymbolic) (hw : x.wf) (y : GSymbolic) : Sat Try.prog 25 [aggV x.enc, aggV y.enc] (boolV (x.eqb y)) := by
  obtain ⟨r, hr⟩ : ∃ r, r = x.eqb y := ⟨_, rfl⟩
  rw [← hr]
  obtain ⟨xva, ⟨xtk, xtn, xts, xtt⟩, xca⟩ := x
  obtain ⟨yva, ⟨ytk, ytn, yts, ytt⟩, yca⟩ := y
  simp only [GSymbolic.wf] at hw
  simp only [GSymbolic.eqb, eqI, eqS, eqB] at hr
  refine sat_of_code tbOk mixed Try.func25 rfl rfl rfl (by decide +kernel) (by decide +kernel) (Nat.le_of_ble_eq_true rfl) ?_
  simp -implicitDefEqProofs (disch := omega) only [go_sem, ↓reduceIte, reduceCtorEq, Nat.reduceEqDiff, Nat.reduceLT, Nat.reduceLeDiff, Nat.reduceAdd, Nat.reduceSub, Nat.reduceMul, IntWalk.i64_in, AV.one.injEq, AC.c.injEq, C.v.injEq, Value.int.injEq, Value.bool.injEq, beq_self_eq_true, bne_self_eq_false, GSymbolic.enc, Tm.enc, encB, encI, encL, encS, List.cons_append, List.nil_append, List.append_nil]
  refine CallK.mk (eqStringS_sat xva hw.1 yva) ?_
  simp -implicitDefEqProofs (disch := omega) only [go_sem, ↓reduceIte, reduceCtorEq, Nat.reduceEqDiff, Nat.reduceLT, Nat.reduceLeDiff, Nat.reduceAdd, Nat.reduceSub, Nat.reduceMul, IntWalk.i64_in, AV.one.injEq, AC.c.injEq, C.v.injEq, Value.int.injEq, Value.bool.injEq, beq_self_eq_true, bne_self_eq_false, GSymbolic.enc, Tm.enc, encB, encI, encL, encS, List.cons_append, List.nil_append, List.append_nil]
  refine ⟨fun h0 => by grind, fun h0 => ?_⟩
  refine CallK.mk (eqTerm_sat (.mk xtk xtn xts xtt) hw.2.1 (.mk ytk ytn yts ytt)) ?_
  simp -implicitDefEqProofs (disch := omega) only [go_sem, ↓reduceIte, reduceCtorEq, Nat.reduceEqDiff, Nat.reduceLT, Nat.reduceLeDiff, Nat.reduceAdd, Nat.reduceSub, Nat.reduceMul, IntWalk.i64_in, AV.one.injEq, AC.c.injEq, C.v.injEq, Value.int.injEq, Value.bool.injEq, beq_self_eq_true, bne_self_eq_false, GSymbolic.enc, Tm.enc, encB, encI, encL, encS, List.cons_append, List.nil_append, List.append_nil]
  refine ⟨fun h1 => by grind, fun h1 => ?_⟩
  refine CallK.mk (eqIntS_sat xca hw.2.2 yca) ?_
  simp -implicitDefEqProofs (disch := omega) only [go_sem, ↓reduceIte, reduceCtorEq, Nat.reduceEqDiff, Nat.reduceLT, Nat.reduceLeDiff, Nat.reduceAdd, Nat.reduceSub, Nat.reduceMul, IntWalk.i64_in, AV.one.injEq, AC.c.injEq, C.v.injEq, Value.int.injEq, Value.bool.injEq, beq_self_eq_true, bne_self_eq_false, GSymbolic.enc, Tm.enc, encB, encI, encL, encS, List.cons_append, List.nil_append, List.append_nil]
  grind

theorem GSymbolic.csz (x : GSymbolic) : cszCells x.enc = x.size := by simp only [GSymbolic.enc, GSymbolic.size, cszCells_append, Nat.add_assoc, Tm.csz, cszL_of cszE_I, cszL_of cszE_S]
theorem GSymbolic.nar (x : GSymbolic) : narCells x.enc := (narCells_append _ _ (narL_of (fun y => ⟨by simp [encS], narE_S y⟩) x.va) (narCells_append _ _ (Tm.nar x.t) (narL_of (fun y => ⟨by simp [encI], narE_I y⟩) x.ca)))

theorem toSymbolicF_sat (x : GSymbolic) (hs : x.size < 1048577) : SatF Try.prog 22 [aggV x.enc] (aggV x.enc) := by
  obtain ⟨xva, ⟨xtk, xtn, xts, xtt⟩, xca⟩ := x
  simp only [GSymbolic.size, szI, szS] at hs
  refine satF_of_code [_] rfl (fun _ h => by cases h) tbOk mixed Try.func22 rfl rfl rfl (by decide +kernel) (by decide +kernel) (Nat.le_of_ble_eq_true rfl) ?_
  simp -implicitDefEqProofs (disch := omega) only [go_sem, ↓reduceIte, reduceCtorEq, Nat.reduceEqDiff, Nat.reduceLT, Nat.reduceLeDiff, Nat.reduceAdd, Nat.reduceSub, Nat.reduceMul, IntWalk.i64_in, AV.one.injEq, AC.c.injEq, C.v.injEq, Value.int.injEq, Value.bool.injEq, beq_self_eq_true, bne_self_eq_false, GSymbolic.enc, Tm.enc, encB, encI, encL, encS, List.cons_append, List.nil_append, List.append_nil]
  refine CallK.own (toStringSF_sat xva (by omega)) rfl ?_
  simp -implicitDefEqProofs (disch := omega) only [go_sem, ↓reduceIte, reduceCtorEq, Nat.reduceEqDiff, Nat.reduceLT, Nat.reduceLeDiff, Nat.reduceAdd, Nat.reduceSub, Nat.reduceMul, IntWalk.i64_in, AV.one.injEq, AC.c.injEq, C.v.injEq, Value.int.injEq, Value.bool.injEq, beq_self_eq_true, bne_self_eq_false, GSymbolic.enc, Tm.enc, encB, encI, encL, encS, List.cons_append, List.nil_append, List.append_nil]
  refine CallK.own (toTermF_sat (.mk xtk xtn xts xtt) (by omega)) rfl ?_
  simp -implicitDefEqProofs (disch := omega) only [go_sem, ↓reduceIte, reduceCtorEq, Nat.reduceEqDiff, Nat.reduceLT, Nat.reduceLeDiff, Nat.reduceAdd, Nat.reduceSub, Nat.reduceMul, IntWalk.i64_in, AV.one.injEq, AC.c.injEq, C.v.injEq, Value.int.injEq, Value.bool.injEq, beq_self_eq_true, bne_self_eq_false, GSymbolic.enc, Tm.enc, encB, encI, encL, encS, List.cons_append, List.nil_append, List.append_nil]
  refine CallK.own (toIntSF_sat xca (by omega)) rfl ?_
  simp -implicitDefEqProofs (disch := omega) only [go_sem, ↓reduceIte, reduceCtorEq, Nat.reduceEqDiff, Nat.reduceLT, Nat.reduceLeDiff, Nat.reduceAdd, Nat.reduceSub, Nat.reduceMul, IntWalk.i64_in, AV.one.injEq, AC.c.injEq, C.v.injEq, Value.int.injEq, Value.bool.injEq, beq_self_eq_true, bne_self_eq_false, GSymbolic.enc, Tm.enc, encB, encI, encL, encS, List.cons_append, List.nil_append, List.append_nil]

theorem markSymbolic_sat (xva : List ByteArray) (xtk : Int) (xtn : Int) (xts : ByteArray) (xtt : List Tm) (xca : List Int) (hw : (⟨xva, ⟨xtk, xtn, xts, xtt⟩, xca⟩ : GSymbolic).wf) (k : Int) (h0 : 0 ≤ k) (h1 : (mkRows (xca.map encI) (mkRows (Tm.encs xtt) (mkRows (xva.map encS) k).2).2).2 ≤ 100000000) : SatM Try.prog 26 [.agg [.m (.sl (xva.map encS)), iC xtk, iC xtn, sC xts, .m (.sl (Tm.encs xtt)), .m (.sl (xca.map encI))], intV k] [.agg [.m (.sl (mkRows (xva.map encS) k).1), iC xtk, iC xtn, sC xts, .m (.sl (mkRows (Tm.encs xtt) (mkRows (xva.map encS) k).2).1), .m (.sl (mkRows (xca.map encI) (mkRows (Tm.encs xtt) (mkRows (xva.map encS) k).2).2).1)], intV k] (intV (mkRows (xca.map encI) (mkRows (Tm.encs xtt) (mkRows (xva.map encS) k).2).2).2) := by
  simp only [GSymbolic.wf] at hw
  have hc0 := mkRows_cnt (xva.map encS) k
  have hc4 := mkRows_cnt (Tm.encs xtt) (mkRows (xva.map encS) k).2
  have hc5 := mkRows_cnt (xca.map encI) (mkRows (Tm.encs xtt) (mkRows (xva.map encS) k).2).2
  refine satM_of_code 9000 tbOk mixed Try.func26 rfl rfl rfl (by decide +kernel) (by decide +kernel) (Nat.le_of_ble_eq_true rfl) rfl rfl rfl ?_
  simp -implicitDefEqProofs (disch := omega) only [go_sem, ↓reduceIte, reduceCtorEq, Nat.reduceEqDiff, Nat.reduceLT, Nat.reduceLeDiff, Nat.reduceAdd, Nat.reduceSub, Nat.reduceMul, IntWalk.i64_in, AV.one.injEq, AC.c.injEq, C.v.injEq, Value.int.injEq, Value.bool.injEq, beq_self_eq_true, bne_self_eq_false]
  refine CallK.mut (markStringS_sat xva hw.1 k (by omega) (by omega)) ?_
  simp -implicitDefEqProofs (disch := omega) only [go_sem, ↓reduceIte, reduceCtorEq, Nat.reduceEqDiff, Nat.reduceLT, Nat.reduceLeDiff, Nat.reduceAdd, Nat.reduceSub, Nat.reduceMul, IntWalk.i64_in, AV.one.injEq, AC.c.injEq, C.v.injEq, Value.int.injEq, Value.bool.injEq, beq_self_eq_true, bne_self_eq_false, Tm.args]
  refine CallK.mut (markTerm_sat xtk xtn xts xtt hw.2.1 (mkRows (xva.map encS) k).2 (by omega) (by omega)) ?_
  simp -implicitDefEqProofs (disch := omega) only [go_sem, ↓reduceIte, reduceCtorEq, Nat.reduceEqDiff, Nat.reduceLT, Nat.reduceLeDiff, Nat.reduceAdd, Nat.reduceSub, Nat.reduceMul, IntWalk.i64_in, AV.one.injEq, AC.c.injEq, C.v.injEq, Value.int.injEq, Value.bool.injEq, beq_self_eq_true, bne_self_eq_false, Tm.args]
  refine CallK.mut (markIntS_sat xca hw.2.2 (mkRows (Tm.encs xtt) (mkRows (xva.map encS) k).2).2 (by omega) (by omega)) ?_
  simp -implicitDefEqProofs (disch := omega) only [go_sem, ↓reduceIte, reduceCtorEq, Nat.reduceEqDiff, Nat.reduceLT, Nat.reduceLeDiff, Nat.reduceAdd, Nat.reduceSub, Nat.reduceMul, IntWalk.i64_in, AV.one.injEq, AC.c.injEq, C.v.injEq, Value.int.injEq, Value.bool.injEq, beq_self_eq_true, bne_self_eq_false, Tm.args]

def instOf (va : List ByteArray) (t : Tm) (c : Int) : Tm × Bool := if 0 ≤ c ∧ c < ccN va.length then ((t.sub (caseSubst va c)).red, true) else (zeroT, false)
theorem caseSubst_zero (va : List ByteArray) (c : Int) : ∀ b, b ∈ caseSubst va c → b.t.size = 0 := by
  intro b hb
  obtain ⟨p, _, rfl⟩ := List.mem_map.1 hb
  rfl
theorem bnd_zero (bs : List GBind) (hb : ∀ b, b ∈ bs → b.t.size = 0) (s : ByteArray) (t : Tm) (h : bnd bs s = some t) : t.size = 0 := by
  obtain ⟨b, h1, rfl⟩ := bnd_mem bs s t h
  exact hb b h1
mutual
theorem sub_size (bs : List GBind) (hb : ∀ b, b ∈ bs → b.t.size = 0) : ∀ (t : Tm), (t.sub bs).size ≤ t.size
  | .mk k n s ts => by
    have h2 := subs_size bs hb ts
    simp only [Tm.sub]
    split
    · cases h : bnd bs s with
      | none => simp only [Option.getD_none, Tm.size]; omega
      | some t => simp only [Option.getD_some]; have := bnd_zero bs hb s t h; omega
    · simp only [Tm.size]; omega
theorem subs_size (bs : List GBind) (hb : ∀ b, b ∈ bs → b.t.size = 0) : ∀ (ts : List Tm), Tm.sizes (Tm.subs bs ts) ≤ Tm.sizes ts
  | [] => by simp [Tm.subs]
  | a :: ts => by
    have h1 := sub_size bs hb a
    have h2 := subs_size bs hb ts
    simp only [Tm.subs, Tm.sizes]; omega
end
theorem zeroT_wf : zeroT.wf := ⟨wfI_of 0 (by omega) (by omega), wfI_of 0 (by omega) (by omega), Nat.zero_le _, Nat.zero_le _, trivial⟩
theorem wordT_wf (n : Int) (h : 0 ≤ n ∧ n < 100) : (wordT n).wf := ⟨wfI_of 3 (by omega) (by omega), wfI_of n (by omega) (by omega), Nat.zero_le _, Nat.zero_le _, trivial⟩
mutual
theorem sub_wf (bs : List GBind) (hb : ∀ b, b ∈ bs → b.t.wf) : ∀ (t : Tm), t.wf → (t.sub bs).wf
  | .mk k n s ts, h => by
    obtain ⟨h1, h2, h3, h4, h5⟩ := h
    have hs := subs_wf bs hb ts h5
    have hl : (Tm.subs bs ts).length = ts.length := by rw [subs_map, List.length_map]
    simp only [Tm.sub]
    split
    · cases h : bnd bs s with
      | none => exact ⟨h1, h2, h3, by rw [hl]; exact h4, hs⟩
      | some t =>
        obtain ⟨b, hb1, rfl⟩ := bnd_mem bs s t h
        exact hb b hb1
    · exact ⟨h1, h2, h3, by rw [hl]; exact h4, hs⟩
theorem subs_wf (bs : List GBind) (hb : ∀ b, b ∈ bs → b.t.wf) : ∀ (ts : List Tm), Tm.wfs ts → Tm.wfs (Tm.subs bs ts)
  | [], _ => trivial
  | a :: ts, h => ⟨sub_wf bs hb a h.1, subs_wf bs hb ts h.2⟩
end
theorem opW_b (s : ByteArray) (a b : Int) : 0 ≤ opW s a b ∧ opW s a b < 100 := by
  unfold opW
  split
  · omega
  · split <;> omega
theorem redTop_wf (k n : Int) (s : ByteArray) (ts : List Tm) (h : (Tm.mk k n s ts).wf) : (redTop k n s ts).wf := by
  unfold redTop
  split
  · split
    · exact wordT_wf _ (opW_b _ _ _)
    · exact h
  · exact h
mutual
theorem red_wf : ∀ (t : Tm), t.wf → t.red.wf
  | .mk k n s ts, h => by
    obtain ⟨h1, h2, h3, h4, h5⟩ := h
    have hs := reds_wf ts h5
    have hl : (Tm.reds ts).length = ts.length := by rw [reds_map, List.length_map]
    simp only [Tm.red]
    exact redTop_wf k n s _ ⟨h1, h2, h3, by rw [hl]; exact h4, hs⟩
theorem reds_wf : ∀ (ts : List Tm), Tm.wfs ts → Tm.wfs (Tm.reds ts)
  | [], _ => trivial
  | a :: ts, h => ⟨red_wf a h.1, reds_wf ts h.2⟩
end
theorem caseSubst_twf (va : List ByteArray) (c : Int) : ∀ b, b ∈ caseSubst va c → b.t.wf := by
  intro b hb
  obtain ⟨p, h, rfl⟩ := List.mem_map.1 hb
  have := valsOf_b _ _ p.2 (List.of_mem_zip h).2
  exact wordT_wf _ (by omega)
theorem instOf_size (va : List ByteArray) (t : Tm) (c : Int) : (instOf va t c).1.size ≤ t.size := by
  unfold instOf
  split
  · have h1 := red_size (t.sub (caseSubst va c))
    have h2 := sub_size (caseSubst va c) (caseSubst_zero va c) t
    simp only; omega
  · exact Nat.zero_le _
theorem instOf_wf (va : List ByteArray) (t : Tm) (c : Int) (h : t.wf) : (instOf va t c).1.wf := by
  unfold instOf
  split
  · exact red_wf _ (sub_wf _ (caseSubst_twf va c) t h)
  · exact zeroT_wf
theorem specOf_sat (va : List ByteArray) (t : Tm) (c : Int) (hl : va.length < 1048577) (ht : t.size < 1048577) : Sat Try.prog 75 [slV (va.map encS), tmV t, intV c] (tmV (t.sub (caseSubst va c)).red) := by
  have hc := caseSubst_len va c
  have h2 := sub_size (caseSubst va c) (caseSubst_zero va c) t
  have hs := specSubst_sat (caseSubst va c) (by omega) (fun b hb => by rw [caseSubst_zero va c b hb]; omega) t (by omega)
  have hr := specReduce_sat (t.sub (caseSubst va c)) (by omega)
  obtain ⟨k, n, s, ts⟩ := t
  refine sat_of_code tbOk mixed Try.func75 rfl rfl rfl (by decide +kernel) (by decide +kernel) (Nat.le_of_ble_eq_true rfl) ?_
  simp -implicitDefEqProofs (disch := omega) only [go_sem, ↓reduceIte, reduceCtorEq, Nat.reduceEqDiff, Nat.reduceLT, Nat.reduceLeDiff, Nat.reduceAdd, Nat.reduceSub, Nat.reduceMul, IntWalk.i64_in, AV.one.injEq, AC.c.injEq, C.v.injEq, Value.int.injEq, Value.bool.injEq, beq_self_eq_true, bne_self_eq_false, Tm.enc]
  refine CallK.mk (specCaseSubst_sat va c (by omega)) ?_
  simp -implicitDefEqProofs (disch := omega) only [go_sem, ↓reduceIte, reduceCtorEq, Nat.reduceEqDiff, Nat.reduceLT, Nat.reduceLeDiff, Nat.reduceAdd, Nat.reduceSub, Nat.reduceMul, IntWalk.i64_in, AV.one.injEq, AC.c.injEq, C.v.injEq, Value.int.injEq, Value.bool.injEq, beq_self_eq_true, bne_self_eq_false, Tm.enc]
  refine CallK.mk hs ?_
  simp -implicitDefEqProofs (disch := omega) only [go_sem, ↓reduceIte, reduceCtorEq, Nat.reduceEqDiff, Nat.reduceLT, Nat.reduceLeDiff, Nat.reduceAdd, Nat.reduceSub, Nat.reduceMul, IntWalk.i64_in, AV.one.injEq, AC.c.injEq, C.v.injEq, Value.int.injEq, Value.bool.injEq, beq_self_eq_true, bne_self_eq_false, Tm.enc]
  refine CallK.mk hr ?_
  simp -implicitDefEqProofs (disch := omega) only [go_sem, ↓reduceIte, reduceCtorEq, Nat.reduceEqDiff, Nat.reduceLT, Nat.reduceLeDiff, Nat.reduceAdd, Nat.reduceSub, Nat.reduceMul, IntWalk.i64_in, AV.one.injEq, AC.c.injEq, C.v.injEq, Value.int.injEq, Value.bool.injEq, beq_self_eq_true, bne_self_eq_false, Tm.enc]
theorem specInstanceOf_sat (x : GSymbolic) (hl : x.va.length < 1048577) (ht : x.t.size < 1048577) (c : Int) : Sat Try.prog 21 [aggV x.enc, intV c] (.tup [tmV (instOf x.va x.t c).1, boolV (instOf x.va x.t c).2]) := by
  have hof := specOf_sat x.va x.t c hl ht
  obtain ⟨xva, ⟨xtk, xtn, xts, xtt⟩, xca⟩ := x
  simp only at hl ht hof
  obtain ⟨r, hr⟩ : ∃ r, r = instOf xva (.mk xtk xtn xts xtt) c := ⟨_, rfl⟩
  simp only [← hr]
  unfold instOf at hr
  have hcc : ccN xva.length ≤ 64 ∧ 0 ≤ ccN xva.length := by
    unfold ccN
    split
    · have := p4_b xva.length (by omega); omega
    · omega
  refine sat_of_code tbOk mixed Try.func21 rfl rfl rfl (by decide +kernel) (by decide +kernel) (Nat.le_of_ble_eq_true rfl) ?_
  simp -implicitDefEqProofs (disch := omega) only [go_sem, ↓reduceIte, reduceCtorEq, Nat.reduceEqDiff, Nat.reduceLT, Nat.reduceLeDiff, Nat.reduceAdd, Nat.reduceSub, Nat.reduceMul, IntWalk.i64_in, AV.one.injEq, AC.c.injEq, C.v.injEq, Value.int.injEq, Value.bool.injEq, beq_self_eq_true, bne_self_eq_false, GSymbolic.enc, encL, Tm.enc, List.cons_append, List.nil_append, List.append_nil, List.length_map]
  refine CallK.mk (specCount_sat xva.length (by omega)) ?_
  simp -implicitDefEqProofs (disch := omega) only [go_sem, ↓reduceIte, reduceCtorEq, Nat.reduceEqDiff, Nat.reduceLT, Nat.reduceLeDiff, Nat.reduceAdd, Nat.reduceSub, Nat.reduceMul, IntWalk.i64_in, AV.one.injEq, AC.c.injEq, C.v.injEq, Value.int.injEq, Value.bool.injEq, beq_self_eq_true, bne_self_eq_false, List.length_map]
  refine CallK.mk (l1In_sat c 0 (ccN xva.length - 1)) ?_
  simp -implicitDefEqProofs (disch := omega) only [go_sem, ↓reduceIte, reduceCtorEq, Nat.reduceEqDiff, Nat.reduceLT, Nat.reduceLeDiff, Nat.reduceAdd, Nat.reduceSub, Nat.reduceMul, IntWalk.i64_in, AV.one.injEq, AC.c.injEq, C.v.injEq, Value.int.injEq, Value.bool.injEq, beq_self_eq_true, bne_self_eq_false, List.length_map]
  refine ⟨fun h => ?_, fun h => ?_⟩
  · rw [if_neg (by grind)] at hr
    subst hr; rfl
  · rw [if_pos (by grind)] at hr
    subst hr
    refine CallK.mk hof ?_
    simp -implicitDefEqProofs (disch := omega) only [go_sem, ↓reduceIte, reduceCtorEq, Nat.reduceEqDiff, Nat.reduceLT, Nat.reduceLeDiff, Nat.reduceAdd, Nat.reduceSub, Nat.reduceMul, IntWalk.i64_in, AV.one.injEq, AC.c.injEq, C.v.injEq, Value.int.injEq, Value.bool.injEq, beq_self_eq_true, bne_self_eq_false, List.length_map]
theorem implInstanceOfF_sat (x : GSymbolic) (hl : x.va.length < 1048577) (ht : x.t.size < 1048577) (c : Int) : SatF Try.prog 23 [aggV x.enc, intV c] (.tup [tmV (instOf x.va x.t c).1, boolV (instOf x.va x.t c).2]) := by
  have hc := caseSubst_len x.va c
  have h2 := sub_size (caseSubst x.va c) (caseSubst_zero x.va c) x.t
  have hs := implSubst_sat (caseSubst x.va c) (by omega) (fun b hb => by rw [caseSubst_zero x.va c b hb]; omega) x.t (by omega)
  have hre := implReduce_sat (x.t.sub (caseSubst x.va c)) (by omega)
  have hcs := implCaseSubstF_sat x.va c (by omega)
  obtain ⟨xva, ⟨xtk, xtn, xts, xtt⟩, xca⟩ := x
  simp only at hl ht hs hre hcs
  obtain ⟨r, hr⟩ : ∃ r, r = instOf xva (.mk xtk xtn xts xtt) c := ⟨_, rfl⟩
  simp only [← hr]
  unfold instOf at hr
  refine satF_of_code [tmV r.1, boolV r.2] rfl (fun _ h => by cases h; rfl) tbOk mixed Try.func23 rfl rfl rfl (by decide +kernel) (by decide +kernel) (Nat.le_of_ble_eq_true rfl) ?_
  simp -implicitDefEqProofs (disch := omega) only [go_sem, ↓reduceIte, reduceCtorEq, Nat.reduceEqDiff, Nat.reduceLT, Nat.reduceLeDiff, Nat.reduceAdd, Nat.reduceSub, Nat.reduceMul, IntWalk.i64_in, AV.one.injEq, AC.c.injEq, C.v.injEq, Value.int.injEq, Value.bool.injEq, beq_self_eq_true, bne_self_eq_false, GSymbolic.enc, encL, Tm.enc, List.cons_append, List.nil_append, List.append_nil, List.length_map]
  refine CallK.mk (isCase_sat xva.length (by omega) c) ?_
  simp -implicitDefEqProofs (disch := omega) only [go_sem, ↓reduceIte, reduceCtorEq, Nat.reduceEqDiff, Nat.reduceLT, Nat.reduceLeDiff, Nat.reduceAdd, Nat.reduceSub, Nat.reduceMul, IntWalk.i64_in, AV.one.injEq, AC.c.injEq, C.v.injEq, Value.int.injEq, Value.bool.injEq, beq_self_eq_true, bne_self_eq_false, List.length_map]
  refine ⟨fun h => ?_, fun h => ?_⟩
  · rw [if_neg (by grind)] at hr
    subst hr
    simp -implicitDefEqProofs (disch := omega) only [go_sem, ↓reduceIte, reduceCtorEq, Nat.reduceEqDiff, Nat.reduceLT, Nat.reduceLeDiff, Nat.reduceAdd, Nat.reduceSub, Nat.reduceMul, IntWalk.i64_in, AV.one.injEq, AC.c.injEq, C.v.injEq, Value.int.injEq, Value.bool.injEq, beq_self_eq_true, bne_self_eq_false, zeroT, Tm.enc, Tm.encs, List.map_cons, List.map_nil]
    rfl
  · rw [if_pos (by grind)] at hr
    subst hr
    refine CallK.mk hcs.sat ?_
    simp -implicitDefEqProofs (disch := omega) only [go_sem, ↓reduceIte, reduceCtorEq, Nat.reduceEqDiff, Nat.reduceLT, Nat.reduceLeDiff, Nat.reduceAdd, Nat.reduceSub, Nat.reduceMul, IntWalk.i64_in, AV.one.injEq, AC.c.injEq, C.v.injEq, Value.int.injEq, Value.bool.injEq, beq_self_eq_true, bne_self_eq_false, List.length_map]
    refine CallK.mk hs.sat ?_
    simp -implicitDefEqProofs (disch := omega) only [go_sem, ↓reduceIte, reduceCtorEq, Nat.reduceEqDiff, Nat.reduceLT, Nat.reduceLeDiff, Nat.reduceAdd, Nat.reduceSub, Nat.reduceMul, IntWalk.i64_in, AV.one.injEq, AC.c.injEq, C.v.injEq, Value.int.injEq, Value.bool.injEq, beq_self_eq_true, bne_self_eq_false, List.length_map]
    generalize (Tm.sub (caseSubst xva c) (Tm.mk xtk xtn xts xtt)).red = R at hre ⊢
    obtain ⟨rk, rn, rs, rt⟩ := R
    refine CallK.own hre rfl ?_
    simp -implicitDefEqProofs (disch := omega) only [go_sem, ↓reduceIte, reduceCtorEq, Nat.reduceEqDiff, Nat.reduceLT, Nat.reduceLeDiff, Nat.reduceAdd, Nat.reduceSub, Nat.reduceMul, IntWalk.i64_in, AV.one.injEq, AC.c.injEq, C.v.injEq, Value.int.injEq, Value.bool.injEq, beq_self_eq_true, bne_self_eq_false, Tm.enc, List.length_map]
theorem lawInstanceOf_sat (x : GSymbolic) (c : Int) (hw_x : GSymbolic.wf x) (hw_c : wfI c) : Sat Try.prog 4 [aggV x.enc, intV c] (boolV true) := by
  refine sat_of_code tbOk mixed Try.func4 rfl rfl rfl (by decide +kernel) (by decide +kernel) (Nat.le_of_ble_eq_true rfl) ?_
  simp -implicitDefEqProofs (disch := omega) only [go_sem, ↓reduceIte, reduceCtorEq, Nat.reduceEqDiff, Nat.reduceLT, Nat.reduceLeDiff, Nat.reduceAdd, Nat.reduceSub, Nat.reduceMul, IntWalk.i64_in, AV.one.injEq, AC.c.injEq, C.v.injEq, Value.int.injEq, Value.bool.injEq, beq_self_eq_true, bne_self_eq_false]
  refine CallK.mk (szSymbolic_sat x hw_x 1048576 (by grind [szR]) (by grind [szR])) ?_
  simp -implicitDefEqProofs (disch := omega) only [go_sem, ↓reduceIte, reduceCtorEq, Nat.reduceEqDiff, Nat.reduceLT, Nat.reduceLeDiff, Nat.reduceAdd, Nat.reduceSub, Nat.reduceMul, IntWalk.i64_in, AV.one.injEq, AC.c.injEq, C.v.injEq, Value.int.injEq, Value.bool.injEq, beq_self_eq_true, bne_self_eq_false]
  intro hz_x
  have hs_x : x.size < 1048577 := by grind [szR]
  have hcl : x.va.length < 1048577 := by
    have := len_szL szS x.va
    simp only [GSymbolic.size] at hs_x; omega
  obtain ⟨R0, hRe⟩ : ∃ R, R = (instOf x.va x.t c).1 := ⟨_, rfl⟩
  obtain ⟨b0, hbe⟩ : ∃ b, b = (instOf x.va x.t c).2 := ⟨_, rfl⟩
  have hRw0 : R0.wf := by rw [hRe]; exact instOf_wf x.va x.t c hw_x.2.1
  have hRs0 : R0.size ≤ 1500000 := by
    rw [hRe]; have := instOf_size x.va x.t c
    simp only [GSymbolic.size] at hs_x; omega
  have hts : x.t.size < 1048577 := by simp only [GSymbolic.size] at hs_x; omega
  have hsp := specInstanceOf_sat x (by omega) (by omega) c
  have him := implInstanceOfF_sat x (by omega) (by omega) c
  rw [← hRe, ← hbe] at hsp him
  refine CallK.mk (toSymbolic_sat x hs_x) ?_
  simp -implicitDefEqProofs (disch := omega) only [go_sem, ↓reduceIte, reduceCtorEq, Nat.reduceEqDiff, Nat.reduceLT, Nat.reduceLeDiff, Nat.reduceAdd, Nat.reduceSub, Nat.reduceMul, IntWalk.i64_in, AV.one.injEq, AC.c.injEq, C.v.injEq, Value.int.injEq, Value.bool.injEq, beq_self_eq_true, bne_self_eq_false, and_self]
  refine CallK.mk (hsp) ?_
  simp -implicitDefEqProofs (disch := omega) only [go_sem, ↓reduceIte, reduceCtorEq, Nat.reduceEqDiff, Nat.reduceLT, Nat.reduceLeDiff, Nat.reduceAdd, Nat.reduceSub, Nat.reduceMul, IntWalk.i64_in, AV.one.injEq, AC.c.injEq, C.v.injEq, Value.int.injEq, Value.bool.injEq, beq_self_eq_true, bne_self_eq_false, and_self]
  have toX_x := toSymbolic_sat x hs_x
  have toF_x := toSymbolicF_sat x hs_x
  have eqX_x := eqSymbolic_sat x hw_x x
  have reX_x := GSymbolic.eqb_refl x
  have hq_x : cntTop x.enc ≤ 64 * x.size + 64 := by
    have h1 := cntTop_le x.enc
    have h2 := cntCells_le x.enc (GSymbolic.nar x)
    rw [GSymbolic.csz] at h2
    have h3 := GSymbolic.enc_len x
    omega
  have implF := him
  have eqR_0 := eqTerm_sat R0 hRw0 R0
  have reR_0 := Tm.eqb_refl R0
  have hqR_0 : cntTop R0.enc ≤ 64 * R0.size + 64 := by
    have h1 := cntTop_le R0.enc
    have h2 := cntCells_le R0.enc (Tm.nar R0)
    rw [Tm.csz] at h2
    have h3 := enc_len R0
    omega
  obtain ⟨xva, ⟨xtk, xtn, xts, xtt⟩, xca⟩ := x
  simp only [GSymbolic.enc, Tm.enc, encB, encI, encL, encS, List.cons_append, List.nil_append, List.append_nil, Tm.args, cntTop] at hq_x
  obtain ⟨R0k, R0n, R0s, R0t⟩ := R0
  simp only [GSymbolic.enc, Tm.enc, encB, encI, encL, encS, List.cons_append, List.nil_append, List.append_nil, Tm.args, cntTop] at hqR_0
  have hc_x_xva := mkRows_cnt (xva.map encS) 1
  have hc_x_xt := mkRows_cnt (Tm.encs xtt) (mkRows (xva.map encS) 1).2
  have hc_x_xca := mkRows_cnt (xca.map encI) (mkRows (Tm.encs xtt) (mkRows (xva.map encS) 1).2).2
  have hcR_0_R0 := mkRows_cnt (Tm.encs R0t) 1
  refine CallK.own toF_x rfl ?_
  simp -implicitDefEqProofs (disch := omega) only [go_sem, ↓reduceIte, reduceCtorEq, Nat.reduceEqDiff, Nat.reduceLT, Nat.reduceLeDiff, Nat.reduceAdd, Nat.reduceSub, Nat.reduceMul, IntWalk.i64_in, AV.one.injEq, AC.c.injEq, C.v.injEq, Value.int.injEq, Value.bool.injEq, beq_self_eq_true, bne_self_eq_false, GSymbolic.enc, Tm.enc, encB, encI, encL, encS, List.cons_append, List.nil_append, List.append_nil, Tm.args]
  refine CallK.own implF rfl ?_
  simp -implicitDefEqProofs (disch := omega) only [go_sem, ↓reduceIte, reduceCtorEq, Nat.reduceEqDiff, Nat.reduceLT, Nat.reduceLeDiff, Nat.reduceAdd, Nat.reduceSub, Nat.reduceMul, IntWalk.i64_in, AV.one.injEq, AC.c.injEq, C.v.injEq, Value.int.injEq, Value.bool.injEq, beq_self_eq_true, bne_self_eq_false, GSymbolic.enc, Tm.enc, encB, encI, encL, encS, List.cons_append, List.nil_append, List.append_nil, Tm.args]
  refine CallK.bor eqR_0 rfl ?_
  simp -implicitDefEqProofs (disch := omega) only [go_sem, ↓reduceIte, reduceCtorEq, Nat.reduceEqDiff, Nat.reduceLT, Nat.reduceLeDiff, Nat.reduceAdd, Nat.reduceSub, Nat.reduceMul, IntWalk.i64_in, AV.one.injEq, AC.c.injEq, C.v.injEq, Value.int.injEq, Value.bool.injEq, beq_self_eq_true, bne_self_eq_false, GSymbolic.enc, Tm.enc, encB, encI, encL, encS, List.cons_append, List.nil_append, List.append_nil, Tm.args, reR_0]
  refine CallK.mk toX_x ?_
  simp -implicitDefEqProofs (disch := omega) only [go_sem, ↓reduceIte, reduceCtorEq, Nat.reduceEqDiff, Nat.reduceLT, Nat.reduceLeDiff, Nat.reduceAdd, Nat.reduceSub, Nat.reduceMul, IntWalk.i64_in, AV.one.injEq, AC.c.injEq, C.v.injEq, Value.int.injEq, Value.bool.injEq, beq_self_eq_true, bne_self_eq_false, GSymbolic.enc, Tm.enc, encB, encI, encL, encS, List.cons_append, List.nil_append, List.append_nil, Tm.args]
  refine CallK.bor eqX_x rfl ?_
  simp -implicitDefEqProofs (disch := omega) only [go_sem, ↓reduceIte, reduceCtorEq, Nat.reduceEqDiff, Nat.reduceLT, Nat.reduceLeDiff, Nat.reduceAdd, Nat.reduceSub, Nat.reduceMul, IntWalk.i64_in, AV.one.injEq, AC.c.injEq, C.v.injEq, Value.int.injEq, Value.bool.injEq, beq_self_eq_true, bne_self_eq_false, GSymbolic.enc, Tm.enc, encB, encI, encL, encS, List.cons_append, List.nil_append, List.append_nil, Tm.args, reX_x]
  refine CallK.mut (markSymbolic_sat xva xtk xtn xts xtt xca hw_x 1 (by omega) (by omega)) ?_
  simp -implicitDefEqProofs (disch := omega) only [go_sem, ↓reduceIte, reduceCtorEq, Nat.reduceEqDiff, Nat.reduceLT, Nat.reduceLeDiff, Nat.reduceAdd, Nat.reduceSub, Nat.reduceMul, IntWalk.i64_in, AV.one.injEq, AC.c.injEq, C.v.injEq, Value.int.injEq, Value.bool.injEq, beq_self_eq_true, bne_self_eq_false, GSymbolic.enc, Tm.enc, encB, encI, encL, encS, List.cons_append, List.nil_append, List.append_nil, Tm.args]
  refine ⟨fun _ => ?_, fun h => by omega⟩
  refine CallK.bor eqR_0 rfl ?_
  simp -implicitDefEqProofs (disch := omega) only [go_sem, ↓reduceIte, reduceCtorEq, Nat.reduceEqDiff, Nat.reduceLT, Nat.reduceLeDiff, Nat.reduceAdd, Nat.reduceSub, Nat.reduceMul, IntWalk.i64_in, AV.one.injEq, AC.c.injEq, C.v.injEq, Value.int.injEq, Value.bool.injEq, beq_self_eq_true, bne_self_eq_false, GSymbolic.enc, Tm.enc, encB, encI, encL, encS, List.cons_append, List.nil_append, List.append_nil, Tm.args, reR_0]
  refine CallK.mut (markTerm_sat R0k R0n R0s R0t hRw0 1 (by omega) (by omega)) ?_
  simp -implicitDefEqProofs (disch := omega) only [go_sem, ↓reduceIte, reduceCtorEq, Nat.reduceEqDiff, Nat.reduceLT, Nat.reduceLeDiff, Nat.reduceAdd, Nat.reduceSub, Nat.reduceMul, IntWalk.i64_in, AV.one.injEq, AC.c.injEq, C.v.injEq, Value.int.injEq, Value.bool.injEq, beq_self_eq_true, bne_self_eq_false, GSymbolic.enc, Tm.enc, encB, encI, encL, encS, List.cons_append, List.nil_append, List.append_nil, Tm.args]
  refine CallK.bor (heldTerm_sat R0k R0n R0s R0t hRw0 1 (by omega) (by omega)) rfl ?_
  simp -implicitDefEqProofs (disch := omega) only [go_sem, ↓reduceIte, reduceCtorEq, Nat.reduceEqDiff, Nat.reduceLT, Nat.reduceLeDiff, Nat.reduceAdd, Nat.reduceSub, Nat.reduceMul, IntWalk.i64_in, AV.one.injEq, AC.c.injEq, C.v.injEq, Value.int.injEq, Value.bool.injEq, beq_self_eq_true, bne_self_eq_false, GSymbolic.enc, Tm.enc, encB, encI, encL, encS, List.cons_append, List.nil_append, List.append_nil, Tm.args]
  refine ⟨fun h => by omega, fun _ => ?_⟩
  refine CallK.mk toX_x ?_
  simp -implicitDefEqProofs (disch := omega) only [go_sem, ↓reduceIte, reduceCtorEq, Nat.reduceEqDiff, Nat.reduceLT, Nat.reduceLeDiff, Nat.reduceAdd, Nat.reduceSub, Nat.reduceMul, IntWalk.i64_in, AV.one.injEq, AC.c.injEq, C.v.injEq, Value.int.injEq, Value.bool.injEq, beq_self_eq_true, bne_self_eq_false, GSymbolic.enc, Tm.enc, encB, encI, encL, encS, List.cons_append, List.nil_append, List.append_nil, Tm.args]
  refine CallK.mk implF.sat ?_
  simp -implicitDefEqProofs (disch := omega) only [go_sem, ↓reduceIte, reduceCtorEq, Nat.reduceEqDiff, Nat.reduceLT, Nat.reduceLeDiff, Nat.reduceAdd, Nat.reduceSub, Nat.reduceMul, IntWalk.i64_in, AV.one.injEq, AC.c.injEq, C.v.injEq, Value.int.injEq, Value.bool.injEq, beq_self_eq_true, bne_self_eq_false, GSymbolic.enc, Tm.enc, encB, encI, encL, encS, List.cons_append, List.nil_append, List.append_nil, Tm.args]
  refine CallK.bor eqR_0 rfl ?_
  simp -implicitDefEqProofs (disch := omega) only [go_sem, ↓reduceIte, reduceCtorEq, Nat.reduceEqDiff, Nat.reduceLT, Nat.reduceLeDiff, Nat.reduceAdd, Nat.reduceSub, Nat.reduceMul, IntWalk.i64_in, AV.one.injEq, AC.c.injEq, C.v.injEq, Value.int.injEq, Value.bool.injEq, beq_self_eq_true, bne_self_eq_false, GSymbolic.enc, Tm.enc, encB, encI, encL, encS, List.cons_append, List.nil_append, List.append_nil, Tm.args, reR_0]
  refine CallK.bor (heldTerm_sat R0k R0n R0s R0t hRw0 1 (by omega) (by omega)) rfl ?_
  simp -implicitDefEqProofs (disch := omega) only [go_sem, ↓reduceIte, reduceCtorEq, Nat.reduceEqDiff, Nat.reduceLT, Nat.reduceLeDiff, Nat.reduceAdd, Nat.reduceSub, Nat.reduceMul, IntWalk.i64_in, AV.one.injEq, AC.c.injEq, C.v.injEq, Value.int.injEq, Value.bool.injEq, beq_self_eq_true, bne_self_eq_false, GSymbolic.enc, Tm.enc, encB, encI, encL, encS, List.cons_append, List.nil_append, List.append_nil, Tm.args]
  first | (intro h; omega) | exact ⟨fun h => by omega, fun _ => trivial⟩
end Go.Ai
