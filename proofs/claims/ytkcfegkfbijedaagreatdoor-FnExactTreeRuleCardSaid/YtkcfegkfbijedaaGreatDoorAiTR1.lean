/- Decision trees: sizes, copies, equality. Written by mk33.py. -/
import Derived.Test.YtkcfegkfbijedaaGreatDoorAiD1
namespace Go.Ai
set_option linter.unusedVariables false
set_option linter.unusedSimpArgs false
open Go.Proofs Go.RowKit
set_option maxRecDepth 100000

theorem szIntS_sat (xs : List Int) (hw : wfL wfI xs) (b : Int) (h0 : 0 ≤ b) (h1 : b < 1048577) : Sat Tryz.prog 63 [slV (xs.map encI), intV b] (intV (szR (szL szI xs) b)) := by
  have hl := hw.1
  simp only [maxLen] at hl
  refine sat_of_code tbOk mixed Tryz.func63 rfl rfl rfl (by decide +kernel) (by decide +kernel) (Nat.le_of_ble_eq_true rfl) ?_
  simp -implicitDefEqProofs (disch := omega) only [go_sem]
  have := szL_int xs
  grind [szR]

structure GTreeNode where
  ps : List Int
  ke : List ByteArray
  nx : List Int
  ot : Int
  ru : List Int
def GTreeNode.enc (x : GTreeNode) : List C := encL encI x.ps ++ (encL encS x.ke ++ (encL encI x.nx ++ (encI x.ot ++ (encL encI x.ru))))
def GTreeNode.size (x : GTreeNode) : Nat := (szL szI) x.ps + (szL szS) x.ke + (szL szI) x.nx + szI x.ot + (szL szI) x.ru
def GTreeNode.wf (x : GTreeNode) : Prop := (wfL wfI) x.ps ∧ (wfL wfS) x.ke ∧ (wfL wfI) x.nx ∧ wfI x.ot ∧ (wfL wfI) x.ru
def GTreeNode.eqb (x y : GTreeNode) : Bool := (eqL eqI) x.ps y.ps && ((eqL eqS) x.ke y.ke && ((eqL eqI) x.nx y.nx && (eqI x.ot y.ot && ((eqL eqI) x.ru y.ru))))
theorem GTreeNode.enc_len (x : GTreeNode) : x.enc.length = 5 := by simp [GTreeNode.enc, encI, encS, encB, encL, Go.Ai.enc_len]
theorem GTreeNode.enc_take (x : GTreeNode) : x.enc.take 5 = x.enc := List.take_of_length_le (by rw [GTreeNode.enc_len]; exact Nat.le_refl _)
theorem GTreeNode.encm_take (x : GTreeNode) : (x.enc.map AC.c).take 5 = x.enc.map AC.c := List.take_of_length_le (by rw [List.length_map, GTreeNode.enc_len]; exact Nat.le_refl _)
attribute [go_sem] GTreeNode.enc_len GTreeNode.enc_take GTreeNode.encm_take
theorem GTreeNode.eqb_refl (x : GTreeNode) : x.eqb x = true := by simp only [GTreeNode.eqb, (eqL_refl eqI_refl) x.ps, (eqL_refl eqS_refl) x.ke, (eqL_refl eqI_refl) x.nx, eqI_refl x.ot, (eqL_refl eqI_refl) x.ru, Bool.and_self]

theorem szTreeNode_sat (x : GTreeNode) (hw : x.wf) (b : Int) (h0 : 0 ≤ b) (h1 : b < 1048577) : Sat Tryz.prog 38 [aggV x.enc, intV b] (intV (szR x.size b)) := by
  obtain ⟨r, hr⟩ : ∃ r, r = szR x.size b := ⟨_, rfl⟩
  rw [← hr]
  obtain ⟨xps, xke, xnx, xot, xru⟩ := x
  simp only [GTreeNode.wf, wfI, wfS, wfB, maxLen] at hw
  simp only [GTreeNode.size, szI, szS] at hr
  refine sat_of_code tbOk mixed Tryz.func38 rfl rfl rfl (by decide +kernel) (by decide +kernel) (Nat.le_of_ble_eq_true rfl) ?_
  simp -implicitDefEqProofs (disch := omega) only [go_sem, GTreeNode.enc, Tm.enc, encB, encI, encL, encS, List.cons_append, List.nil_append, List.append_nil]
  have hb0 : -1 ≤ szR ((szL szI) xps) b ∧ szR ((szL szI) xps) b ≤ 1048576 := by grind [szR]
  refine CallK.mk (szIntS_sat xps hw.1 b (by grind [szR]) (by grind [szR])) ?_
  simp -implicitDefEqProofs (disch := omega) only [go_sem, GTreeNode.enc, Tm.enc, encB, encI, encL, encS, List.cons_append, List.nil_append, List.append_nil]
  refine ⟨fun h0 => by grind [szR], fun h0 => ?_⟩
  have hb1 : -1 ≤ szR ((szL szS) xke) (szR ((szL szI) xps) b) ∧ szR ((szL szS) xke) (szR ((szL szI) xps) b) ≤ 1048576 := by grind [szR]
  refine CallK.mk (szStringS_sat xke hw.2.1 (szR ((szL szI) xps) b) (by grind [szR]) (by grind [szR])) ?_
  simp -implicitDefEqProofs (disch := omega) only [go_sem, GTreeNode.enc, Tm.enc, encB, encI, encL, encS, List.cons_append, List.nil_append, List.append_nil]
  refine ⟨fun h1 => by grind [szR], fun h1 => ?_⟩
  have hb2 : -1 ≤ szR ((szL szI) xnx) (szR ((szL szS) xke) (szR ((szL szI) xps) b)) ∧ szR ((szL szI) xnx) (szR ((szL szS) xke) (szR ((szL szI) xps) b)) ≤ 1048576 := by grind [szR]
  refine CallK.mk (szIntS_sat xnx hw.2.2.1 (szR ((szL szS) xke) (szR ((szL szI) xps) b)) (by grind [szR]) (by grind [szR])) ?_
  simp -implicitDefEqProofs (disch := omega) only [go_sem, GTreeNode.enc, Tm.enc, encB, encI, encL, encS, List.cons_append, List.nil_append, List.append_nil]
  refine ⟨fun h2 => by grind [szR], fun h2 => ?_⟩
  have hb3 : -1 ≤ szR ((szL szI) xru) (szR ((szL szI) xnx) (szR ((szL szS) xke) (szR ((szL szI) xps) b))) ∧ szR ((szL szI) xru) (szR ((szL szI) xnx) (szR ((szL szS) xke) (szR ((szL szI) xps) b))) ≤ 1048576 := by grind [szR]
  refine CallK.mk (szIntS_sat xru hw.2.2.2.2 (szR ((szL szI) xnx) (szR ((szL szS) xke) (szR ((szL szI) xps) b))) (by grind [szR]) (by grind [szR])) ?_
  simp -implicitDefEqProofs (disch := omega) only [go_sem, GTreeNode.enc, Tm.enc, encB, encI, encL, encS, List.cons_append, List.nil_append, List.append_nil]
  grind [szR]

theorem toTreeNode_sat (x : GTreeNode) (hs : x.size < 1048577) : Sat Tryz.prog 50 [aggV x.enc] (aggV x.enc) := by
  obtain ⟨xps, xke, xnx, xot, xru⟩ := x
  simp only [GTreeNode.size, szI, szS] at hs
  refine sat_of_code tbOk mixed Tryz.func50 rfl rfl rfl (by decide +kernel) (by decide +kernel) (Nat.le_of_ble_eq_true rfl) ?_
  simp -implicitDefEqProofs (disch := omega) only [go_sem, GTreeNode.enc, Tm.enc, encB, encI, encL, encS, List.cons_append, List.nil_append, List.append_nil]
  refine CallK.mk (toIntS_sat xps (by omega)) ?_
  simp -implicitDefEqProofs (disch := omega) only [go_sem, GTreeNode.enc, Tm.enc, encB, encI, encL, encS, List.cons_append, List.nil_append, List.append_nil]
  refine CallK.mk (toStringS_sat xke (by omega)) ?_
  simp -implicitDefEqProofs (disch := omega) only [go_sem, GTreeNode.enc, Tm.enc, encB, encI, encL, encS, List.cons_append, List.nil_append, List.append_nil]
  refine CallK.mk (toIntS_sat xnx (by omega)) ?_
  simp -implicitDefEqProofs (disch := omega) only [go_sem, GTreeNode.enc, Tm.enc, encB, encI, encL, encS, List.cons_append, List.nil_append, List.append_nil]
  refine CallK.mk (toIntS_sat xru (by omega)) ?_
  simp -implicitDefEqProofs (disch := omega) only [go_sem, GTreeNode.enc, Tm.enc, encB, encI, encL, encS, List.cons_append, List.nil_append, List.append_nil]
  rfl

theorem eqTreeNode_sat (x : GTreeNode) (hw : x.wf) (y : GTreeNode) : Sat Tryz.prog 60 [aggV x.enc, aggV y.enc] (boolV (x.eqb y)) := by
  obtain ⟨r, hr⟩ : ∃ r, r = x.eqb y := ⟨_, rfl⟩
  rw [← hr]
  obtain ⟨xps, xke, xnx, xot, xru⟩ := x
  obtain ⟨yps, yke, ynx, yot, yru⟩ := y
  simp only [GTreeNode.wf] at hw
  simp only [GTreeNode.eqb, eqI, eqS, eqB] at hr
  refine sat_of_code tbOk mixed Tryz.func60 rfl rfl rfl (by decide +kernel) (by decide +kernel) (Nat.le_of_ble_eq_true rfl) ?_
  simp -implicitDefEqProofs (disch := omega) only [go_sem, GTreeNode.enc, Tm.enc, encB, encI, encL, encS, List.cons_append, List.nil_append, List.append_nil]
  refine CallK.mk (eqIntS_sat xps hw.1 yps) ?_
  simp -implicitDefEqProofs (disch := omega) only [go_sem, GTreeNode.enc, Tm.enc, encB, encI, encL, encS, List.cons_append, List.nil_append, List.append_nil]
  refine ⟨fun h0 => by grind, fun h0 => ?_⟩
  refine CallK.mk (eqStringS_sat xke hw.2.1 yke) ?_
  simp -implicitDefEqProofs (disch := omega) only [go_sem, GTreeNode.enc, Tm.enc, encB, encI, encL, encS, List.cons_append, List.nil_append, List.append_nil]
  refine ⟨fun h1 => by grind, fun h1 => ?_⟩
  refine CallK.mk (eqIntS_sat xnx hw.2.2.1 ynx) ?_
  simp -implicitDefEqProofs (disch := omega) only [go_sem, GTreeNode.enc, Tm.enc, encB, encI, encL, encS, List.cons_append, List.nil_append, List.append_nil]
  refine ⟨fun h2 => by grind, fun h2 => ?_⟩
  refine ⟨fun h3 => by grind, fun h3 => ?_⟩
  refine CallK.mk (eqIntS_sat xru hw.2.2.2.2 yru) ?_
  simp -implicitDefEqProofs (disch := omega) only [go_sem, GTreeNode.enc, Tm.enc, encB, encI, encL, encS, List.cons_append, List.nil_append, List.append_nil]
  grind

theorem szTreeNodeS_sat (xs : List GTreeNode) (hw : wfL GTreeNode.wf xs) (b : Int) (h0 : 0 ≤ b) (h1 : b < 1048577) : Sat Tryz.prog 18 [slV (xs.map GTreeNode.enc), intV b] (intV (szR (szL GTreeNode.size xs) b)) := by
  have hl := hw.1
  simp only [maxLen] at hl
  refine sat_of_code tbOk mixed Tryz.func18 rfl rfl rfl (by decide +kernel) (by decide +kernel) (Nat.le_of_ble_eq_true rfl) ?_
  simp -implicitDefEqProofs (disch := omega) only [go_sem]
  refine ⟨fun h => ?_, fun h => ?_⟩
  · have := len_szL GTreeNode.size xs
    grind [szR]
  · refine loopA_rule (ι := Nat × Int) (fun i => mk 27 [(0, slV (xs.map GTreeNode.enc)), (5, intV i.1), (1, intV i.2)] []) (fun i => i.1 ≤ xs.length ∧ i.2 - ((szL GTreeNode.size (xs.drop i.1) : Int) - (xs.length - i.1)) = b - szL GTreeNode.size xs ∧ 0 ≤ i.2 ∧ i.2 < 1048577) (fun i => xs.length - i.1) (0, b - xs.length) ?_ ?_ tbOk mixed (by decide +kernel) ?_
    · simp; omega
    · exact le_mk (by simp [go_sem]) (by simp [go_sem])
    · rintro ⟨i, c⟩ ⟨hi, hc, hc0, hc1⟩
      simp only at hi hc hc0 hc1
      rcases Nat.lt_or_ge i xs.length with hlt | hge
      · have hg := map_getD (ec := GTreeNode.enc) hlt
        have hz := szL_drop GTreeNode.size xs i hlt
        have hz2 := len_szL GTreeNode.size (xs.drop (i + 1))
        simp only [List.length_drop] at hz2
        have hx := hw.2 _ (List.getElem_mem hlt)
        generalize xs[i] = x at hg hz hx
        simp -implicitDefEqProofs (disch := omega) only [go_sem, hg, hlt]
        refine CallK.mk (szTreeNode_sat x hx c hc0 (by omega)) ?_
        simp -implicitDefEqProofs (disch := omega) only [go_sem]
        refine ⟨fun h => ?_, fun h => ⟨(i + 1, szR (GTreeNode.size x) c), ⟨hlt, ?_⟩, ?_, le_mk (by simp [go_sem]) (by simp [go_sem])⟩⟩
        · grind [szR]
        · grind [szR]
        · simp only; omega
      · simp -implicitDefEqProofs (disch := omega) only [go_sem, Nat.not_lt.2 hge]
        rw [List.drop_of_length_le hge] at hc
        simp only [szL] at hc
        grind [szR]

abbrev zTreeNode : List AC := [.nil, .nil, .nil, iC 0, .nil]
theorem toTreeNodeS_sat (xs : List GTreeNode) (hs : szL GTreeNode.size xs < 1048577) : Sat Tryz.prog 25 [slV (xs.map GTreeNode.enc)] (slV (xs.map GTreeNode.enc)) := by
  have hl := len_szL GTreeNode.size xs
  refine sat_of_code tbOk mixed Tryz.func25 rfl rfl rfl (by decide +kernel) (by decide +kernel) (Nat.le_of_ble_eq_true rfl) ?_
  simp -implicitDefEqProofs (disch := omega) only [go_sem]
  refine ⟨⟨by omega, by omega⟩, fun _ => ?_⟩
  refine loopA_rule (ι := Nat) (fun i => mk 23 [(0, slV (xs.map GTreeNode.enc)), (3, .one (.own 7 xs.length)), (4, intV i)] [(7, .arr 92 5 (rowsAt GTreeNode.enc zTreeNode xs i) false)]) (fun i => i ≤ xs.length) (fun i => xs.length - i) 0 (Nat.zero_le _) ?_ tbOk mixed (by decide +kernel) ?_
  · exact le_mk (by simp [go_sem]) (by simp [go_sem, rowsAt_zero, List.mem_replicate])
  · intro i hi
    have hlen := rowsAt_len (ec := GTreeNode.enc) (z := zTreeNode) hi
    rcases Nat.lt_or_ge i xs.length with hlt | hge
    · have hg := map_getD (ec := GTreeNode.enc) hlt
      have hr := rowsAt_get (ec := GTreeNode.enc) (z := zTreeNode) hlt
      have hset := rowsAt_set (ec := GTreeNode.enc) (z := zTreeNode) hlt
      have hm := szL_mem GTreeNode.size xs _ (List.getElem_mem hlt)
      simp -implicitDefEqProofs (disch := omega) only [go_sem, hg, hlt, hlen]
      refine CallK.mk (toTreeNode_sat _ (by omega)) ?_
      simp -implicitDefEqProofs (disch := omega) only [go_sem, hlen, hlt, List.length_map, hr, hset]
      refine ⟨by simp [zTreeNode, unD], fun _ => ⟨i + 1, hlt, by omega, le_mk (by simp [go_sem]) ?_⟩⟩
      simp only [leB, lookB_cons, if_true, inB, true_and, and_true]
      exact rowsAt_inC (by simp [zTreeNode, inC])
    · have : i = xs.length := by omega
      subst this
      have hv := rowsAt_view (ec := GTreeNode.enc) (z := zTreeNode) (Nat.le_refl xs.length)
      simp -implicitDefEqProofs (disch := omega) only [go_sem, hlen, hv, Nat.lt_irrefl]
      exact rowsAt_isV (Nat.le_refl _)

theorem eqTreeNodeS_sat (xs : List GTreeNode) (hw : wfL GTreeNode.wf xs) (ys : List GTreeNode) : Sat Tryz.prog 32 [slV (xs.map GTreeNode.enc), slV (ys.map GTreeNode.enc)] (boolV (eqL GTreeNode.eqb xs ys)) := by
  have hl := hw.1
  simp only [maxLen] at hl
  refine sat_of_code tbOk mixed Tryz.func32 rfl rfl rfl (by decide +kernel) (by decide +kernel) (Nat.le_of_ble_eq_true rfl) ?_
  simp -implicitDefEqProofs (disch := omega) only [go_sem]
  refine ⟨fun h4 => ?_, fun h4 => ?_⟩
  · rw [eqL_len GTreeNode.eqb xs ys (by omega)]
  · have hll : xs.length = ys.length := by simp at h4; omega
    refine loopA_rule (ι := Nat) (fun i => mk 27 [(0, slV (xs.map GTreeNode.enc)), (1, slV (ys.map GTreeNode.enc)), (5, intV i)] [])
      (fun i => i ≤ xs.length ∧ eqL GTreeNode.eqb (xs.drop i) (ys.drop i) = eqL GTreeNode.eqb xs ys) (fun i => xs.length - i) 0 ⟨Nat.zero_le _, by simp⟩ ?_ tbOk mixed (by decide +kernel) ?_
    · exact le_mk (by simp [go_sem]) (by simp [go_sem])
    · rintro i ⟨hi, he⟩
      rcases Nat.lt_or_ge i xs.length with hlt | hge
      · have hlt' : i < ys.length := by omega
        have hg := map_getD (ec := GTreeNode.enc) hlt
        have hg' := map_getD (ec := GTreeNode.enc) hlt'
        rw [eqL_drop GTreeNode.eqb xs ys i hlt hlt'] at he
        have hx := hw.2 _ (List.getElem_mem hlt)
        generalize xs[i] = x at hg he hx
        generalize ys[i] = y at hg' he
        simp -implicitDefEqProofs (disch := omega) only [go_sem, hg, hg', hlt, hlt']
        refine CallK.mk (eqTreeNode_sat x hx y) ?_
        simp -implicitDefEqProofs (disch := omega) only [go_sem]
        refine ⟨fun h => ?_, fun h => ⟨i + 1, ⟨hlt, ?_⟩, by omega, le_mk (by simp [go_sem]) (by simp [go_sem])⟩⟩
        · rw [h] at he; simpa using he
        · rw [h] at he; simpa using he
      · have e1 : xs.drop i = [] := List.drop_of_length_le hge
        have e2 : ys.drop i = [] := List.drop_of_length_le (by omega)
        rw [e1, e2] at he
        simp -implicitDefEqProofs (disch := omega) only [go_sem, Nat.not_lt.2 hge]
        rw [← he]; rfl

structure GTree where
  no : List GTreeNode
def GTree.enc (x : GTree) : List C := encL GTreeNode.enc x.no
def GTree.size (x : GTree) : Nat := (szL GTreeNode.size) x.no
def GTree.wf (x : GTree) : Prop := (wfL GTreeNode.wf) x.no
def GTree.eqb (x y : GTree) : Bool := (eqL GTreeNode.eqb) x.no y.no
theorem GTree.enc_len (x : GTree) : x.enc.length = 1 := by simp [GTree.enc, encI, encS, encB, encL, Go.Ai.enc_len]
theorem GTree.enc_take (x : GTree) : x.enc.take 1 = x.enc := List.take_of_length_le (by rw [GTree.enc_len]; exact Nat.le_refl _)
theorem GTree.encm_take (x : GTree) : (x.enc.map AC.c).take 1 = x.enc.map AC.c := List.take_of_length_le (by rw [List.length_map, GTree.enc_len]; exact Nat.le_refl _)
attribute [go_sem] GTree.enc_len GTree.enc_take GTree.encm_take
theorem GTree.eqb_refl (x : GTree) : x.eqb x = true := by simp only [GTree.eqb, (eqL_refl GTreeNode.eqb_refl) x.no, Bool.and_self]

theorem szTree_sat (x : GTree) (hw : x.wf) (b : Int) (h0 : 0 ≤ b) (h1 : b < 1048577) : Sat Tryz.prog 5 [aggV x.enc, intV b] (intV (szR x.size b)) := by
  obtain ⟨r, hr⟩ : ∃ r, r = szR x.size b := ⟨_, rfl⟩
  rw [← hr]
  obtain ⟨xno⟩ := x
  simp only [GTree.wf, wfI, wfS, wfB, maxLen] at hw
  simp only [GTree.size, szI, szS] at hr
  refine sat_of_code tbOk mixed Tryz.func5 rfl rfl rfl (by decide +kernel) (by decide +kernel) (Nat.le_of_ble_eq_true rfl) ?_
  simp -implicitDefEqProofs (disch := omega) only [go_sem, GTree.enc, Tm.enc, encB, encI, encL, encS, List.cons_append, List.nil_append, List.append_nil]
  have hb0 : -1 ≤ szR ((szL GTreeNode.size) xno) b ∧ szR ((szL GTreeNode.size) xno) b ≤ 1048576 := by grind [szR]
  refine CallK.mk (szTreeNodeS_sat xno hw b (by grind [szR]) (by grind [szR])) ?_
  simp -implicitDefEqProofs (disch := omega) only [go_sem, GTree.enc, Tm.enc, encB, encI, encL, encS, List.cons_append, List.nil_append, List.append_nil]
  grind [szR]

theorem toTree_sat (x : GTree) (hs : x.size < 1048577) : Sat Tryz.prog 9 [aggV x.enc] (aggV x.enc) := by
  obtain ⟨xno⟩ := x
  simp only [GTree.size, szI, szS] at hs
  refine sat_of_code tbOk mixed Tryz.func9 rfl rfl rfl (by decide +kernel) (by decide +kernel) (Nat.le_of_ble_eq_true rfl) ?_
  simp -implicitDefEqProofs (disch := omega) only [go_sem, GTree.enc, Tm.enc, encB, encI, encL, encS, List.cons_append, List.nil_append, List.append_nil]
  refine CallK.mk (toTreeNodeS_sat xno (by omega)) ?_
  simp -implicitDefEqProofs (disch := omega) only [go_sem, GTree.enc, Tm.enc, encB, encI, encL, encS, List.cons_append, List.nil_append, List.append_nil]
  rfl

theorem eqTree_sat (x : GTree) (hw : x.wf) (y : GTree) : Sat Tryz.prog 13 [aggV x.enc, aggV y.enc] (boolV (x.eqb y)) := by
  obtain ⟨r, hr⟩ : ∃ r, r = x.eqb y := ⟨_, rfl⟩
  rw [← hr]
  obtain ⟨xno⟩ := x
  obtain ⟨yno⟩ := y
  simp only [GTree.wf] at hw
  simp only [GTree.eqb, eqI, eqS, eqB] at hr
  refine sat_of_code tbOk mixed Tryz.func13 rfl rfl rfl (by decide +kernel) (by decide +kernel) (Nat.le_of_ble_eq_true rfl) ?_
  simp -implicitDefEqProofs (disch := omega) only [go_sem, GTree.enc, Tm.enc, encB, encI, encL, encS, List.cons_append, List.nil_append, List.append_nil]
  refine CallK.mk (eqTreeNodeS_sat xno hw yno) ?_
  simp -implicitDefEqProofs (disch := omega) only [go_sem, GTree.enc, Tm.enc, encB, encI, encL, encS, List.cons_append, List.nil_append, List.append_nil]
  grind

end Go.Ai
