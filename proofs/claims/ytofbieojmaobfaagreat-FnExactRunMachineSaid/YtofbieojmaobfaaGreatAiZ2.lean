/- Machines: sizes, copies, equality. Written by mk28.py. -/
import Derived.Test.YtofbieojmaobfaaGreatAiC1
import Derived.Test.YtofbieojmaobfaaGreatAiKinds
import Derived.Test.YtofbieojmaobfaaGreatAiM3
namespace Go.Ai
set_option linter.unusedVariables false
set_option linter.unusedSimpArgs false
open Go.Proofs Go.RowKit
set_option maxRecDepth 100000

structure GFrame where
  t : Tm
  nx : Int
def GFrame.enc (x : GFrame) : List C := Tm.enc x.t ++ (encI x.nx)
def GFrame.size (x : GFrame) : Nat := Tm.size x.t + szI x.nx
def GFrame.wf (x : GFrame) : Prop := Tm.wf x.t ∧ wfI x.nx
def GFrame.eqb (x y : GFrame) : Bool := Tm.eqb x.t y.t && (eqI x.nx y.nx)
theorem GFrame.enc_len (x : GFrame) : x.enc.length = 5 := by simp [GFrame.enc, encI, encS, encB, encL, Go.Ai.enc_len]
theorem GFrame.enc_take (x : GFrame) : x.enc.take 5 = x.enc := List.take_of_length_le (by rw [GFrame.enc_len]; exact Nat.le_refl _)
theorem GFrame.encm_take (x : GFrame) : (x.enc.map AC.c).take 5 = x.enc.map AC.c := List.take_of_length_le (by rw [List.length_map, GFrame.enc_len]; exact Nat.le_refl _)
attribute [go_sem] GFrame.enc_len GFrame.enc_take GFrame.encm_take
theorem GFrame.eqb_refl (x : GFrame) : x.eqb x = true := by simp only [GFrame.eqb, Tm.eqb_refl x.t, eqI_refl x.nx, Bool.and_self]

theorem szFrame_sat (x : GFrame) (hw : x.wf) (b : Int) (h0 : 0 ≤ b) (h1 : b < 1048577) : Sat Tryz.prog 152 [aggV x.enc, intV b] (intV (szR x.size b)) := by
  obtain ⟨r, hr⟩ : ∃ r, r = szR x.size b := ⟨_, rfl⟩
  rw [← hr]
  obtain ⟨⟨xtk, xtn, xts, xtt⟩, xnx⟩ := x
  simp only [GFrame.wf, wfI, wfS, wfB, maxLen] at hw
  simp only [GFrame.size, szI, szS] at hr
  refine sat_of_code tbOk mixed Tryz.func152 rfl rfl rfl (by decide +kernel) (by decide +kernel) (Nat.le_of_ble_eq_true rfl) ?_
  simp -implicitDefEqProofs (disch := omega) only [go_sem, GFrame.enc, Tm.enc, encB, encI, encL, encS, List.cons_append, List.nil_append, List.append_nil]
  have hb0 : -1 ≤ szR (Tm.size (.mk xtk xtn xts xtt)) b ∧ szR (Tm.size (.mk xtk xtn xts xtt)) b ≤ 1048576 := by grind [szR]
  refine CallK.mk (szTerm_sat (.mk xtk xtn xts xtt) hw.1 b (by grind [szR]) (by grind [szR])) ?_
  simp -implicitDefEqProofs (disch := omega) only [go_sem, GFrame.enc, Tm.enc, encB, encI, encL, encS, List.cons_append, List.nil_append, List.append_nil]
  grind [szR]

theorem toFrame_sat (x : GFrame) (hs : x.size < 1048577) : Sat Tryz.prog 158 [aggV x.enc] (aggV x.enc) := by
  obtain ⟨⟨xtk, xtn, xts, xtt⟩, xnx⟩ := x
  simp only [GFrame.size, szI, szS] at hs
  refine sat_of_code tbOk mixed Tryz.func158 rfl rfl rfl (by decide +kernel) (by decide +kernel) (Nat.le_of_ble_eq_true rfl) ?_
  simp -implicitDefEqProofs (disch := omega) only [go_sem, GFrame.enc, Tm.enc, encB, encI, encL, encS, List.cons_append, List.nil_append, List.append_nil]
  refine CallK.mk (toTerm_sat (.mk xtk xtn xts xtt) (by omega)) ?_
  simp -implicitDefEqProofs (disch := omega) only [go_sem, GFrame.enc, Tm.enc, encB, encI, encL, encS, List.cons_append, List.nil_append, List.append_nil]
  rfl

theorem eqFrame_sat (x : GFrame) (hw : x.wf) (y : GFrame) : Sat Tryz.prog 151 [aggV x.enc, aggV y.enc] (boolV (x.eqb y)) := by
  obtain ⟨r, hr⟩ : ∃ r, r = x.eqb y := ⟨_, rfl⟩
  rw [← hr]
  obtain ⟨⟨xtk, xtn, xts, xtt⟩, xnx⟩ := x
  obtain ⟨⟨ytk, ytn, yts, ytt⟩, ynx⟩ := y
  simp only [GFrame.wf] at hw
  simp only [GFrame.eqb, eqI, eqS, eqB] at hr
  refine sat_of_code tbOk mixed Tryz.func151 rfl rfl rfl (by decide +kernel) (by decide +kernel) (Nat.le_of_ble_eq_true rfl) ?_
  simp -implicitDefEqProofs (disch := omega) only [go_sem, GFrame.enc, Tm.enc, encB, encI, encL, encS, List.cons_append, List.nil_append, List.append_nil]
  refine CallK.mk (eqTerm_sat (.mk xtk xtn xts xtt) hw.1 (.mk ytk ytn yts ytt)) ?_
  simp -implicitDefEqProofs (disch := omega) only [go_sem, GFrame.enc, Tm.enc, encB, encI, encL, encS, List.cons_append, List.nil_append, List.append_nil]
  refine ⟨fun h0 => by grind, fun h0 => ?_⟩
  grind

theorem szFrameS_sat (xs : List GFrame) (hw : wfL GFrame.wf xs) (b : Int) (h0 : 0 ≤ b) (h1 : b < 1048577) : Sat Tryz.prog 94 [slV (xs.map GFrame.enc), intV b] (intV (szR (szL GFrame.size xs) b)) := by
  have hl := hw.1
  simp only [maxLen] at hl
  refine sat_of_code tbOk mixed Tryz.func94 rfl rfl rfl (by decide +kernel) (by decide +kernel) (Nat.le_of_ble_eq_true rfl) ?_
  simp -implicitDefEqProofs (disch := omega) only [go_sem]
  refine ⟨fun h => ?_, fun h => ?_⟩
  · have := len_szL GFrame.size xs
    grind [szR]
  · refine loopA_rule (ι := Nat × Int) (fun i => mk 27 [(0, slV (xs.map GFrame.enc)), (5, intV i.1), (1, intV i.2)] []) (fun i => i.1 ≤ xs.length ∧ i.2 - ((szL GFrame.size (xs.drop i.1) : Int) - (xs.length - i.1)) = b - szL GFrame.size xs ∧ 0 ≤ i.2 ∧ i.2 < 1048577) (fun i => xs.length - i.1) (0, b - xs.length) ?_ ?_ tbOk mixed (by decide +kernel) ?_
    · simp; omega
    · exact le_mk (by simp [go_sem]) (by simp [go_sem])
    · rintro ⟨i, c⟩ ⟨hi, hc, hc0, hc1⟩
      simp only at hi hc hc0 hc1
      rcases Nat.lt_or_ge i xs.length with hlt | hge
      · have hg := map_getD (ec := GFrame.enc) hlt
        have hz := szL_drop GFrame.size xs i hlt
        have hz2 := len_szL GFrame.size (xs.drop (i + 1))
        simp only [List.length_drop] at hz2
        have hx := hw.2 _ (List.getElem_mem hlt)
        generalize xs[i] = x at hg hz hx
        simp -implicitDefEqProofs (disch := omega) only [go_sem, hg, hlt]
        refine CallK.mk (szFrame_sat x hx c hc0 (by omega)) ?_
        simp -implicitDefEqProofs (disch := omega) only [go_sem]
        refine ⟨fun h => ?_, fun h => ⟨(i + 1, szR (GFrame.size x) c), ⟨hlt, ?_⟩, ?_, le_mk (by simp [go_sem]) (by simp [go_sem])⟩⟩
        · grind [szR]
        · grind [szR]
        · simp only; omega
      · simp -implicitDefEqProofs (disch := omega) only [go_sem, Nat.not_lt.2 hge]
        rw [List.drop_of_length_le hge] at hc
        simp only [szL] at hc
        grind [szR]

abbrev zFrame : List AC := [iC 0, iC 0, sC ⟨⟨[]⟩⟩, .nil, iC 0]
theorem toFrameS_sat (xs : List GFrame) (hs : szL GFrame.size xs < 1048577) : Sat Tryz.prog 99 [slV (xs.map GFrame.enc)] (slV (xs.map GFrame.enc)) := by
  have hl := len_szL GFrame.size xs
  refine sat_of_code tbOk mixed Tryz.func99 rfl rfl rfl (by decide +kernel) (by decide +kernel) (Nat.le_of_ble_eq_true rfl) ?_
  simp -implicitDefEqProofs (disch := omega) only [go_sem]
  refine ⟨⟨by omega, by omega⟩, fun _ => ?_⟩
  refine loopA_rule (ι := Nat) (fun i => mk 23 [(0, slV (xs.map GFrame.enc)), (3, .one (.own 7 xs.length)), (4, intV i)] [(7, .arr 191 5 (rowsAt GFrame.enc zFrame xs i) false)]) (fun i => i ≤ xs.length) (fun i => xs.length - i) 0 (Nat.zero_le _) ?_ tbOk mixed (by decide +kernel) ?_
  · exact le_mk (by simp [go_sem]) (by simp [go_sem, rowsAt_zero, List.mem_replicate])
  · intro i hi
    have hlen := rowsAt_len (ec := GFrame.enc) (z := zFrame) hi
    rcases Nat.lt_or_ge i xs.length with hlt | hge
    · have hg := map_getD (ec := GFrame.enc) hlt
      have hr := rowsAt_get (ec := GFrame.enc) (z := zFrame) hlt
      have hset := rowsAt_set (ec := GFrame.enc) (z := zFrame) hlt
      have hm := szL_mem GFrame.size xs _ (List.getElem_mem hlt)
      simp -implicitDefEqProofs (disch := omega) only [go_sem, hg, hlt, hlen]
      refine CallK.mk (toFrame_sat _ (by omega)) ?_
      simp -implicitDefEqProofs (disch := omega) only [go_sem, hlen, hlt, List.length_map, hr, hset]
      refine ⟨by simp [zFrame, unD], fun _ => ⟨i + 1, hlt, by omega, le_mk (by simp [go_sem]) ?_⟩⟩
      simp only [leB, lookB_cons, if_true, inB, true_and, and_true]
      exact rowsAt_inC (by simp [zFrame, inC])
    · have : i = xs.length := by omega
      subst this
      have hv := rowsAt_view (ec := GFrame.enc) (z := zFrame) (Nat.le_refl xs.length)
      simp -implicitDefEqProofs (disch := omega) only [go_sem, hlen, hv, Nat.lt_irrefl]
      exact rowsAt_isV (Nat.le_refl _)

theorem eqFrameS_sat (xs : List GFrame) (hw : wfL GFrame.wf xs) (ys : List GFrame) : Sat Tryz.prog 91 [slV (xs.map GFrame.enc), slV (ys.map GFrame.enc)] (boolV (eqL GFrame.eqb xs ys)) := by
  have hl := hw.1
  simp only [maxLen] at hl
  refine sat_of_code tbOk mixed Tryz.func91 rfl rfl rfl (by decide +kernel) (by decide +kernel) (Nat.le_of_ble_eq_true rfl) ?_
  simp -implicitDefEqProofs (disch := omega) only [go_sem]
  refine ⟨fun h4 => ?_, fun h4 => ?_⟩
  · rw [eqL_len GFrame.eqb xs ys (by omega)]
  · have hll : xs.length = ys.length := by simp at h4; omega
    refine loopA_rule (ι := Nat) (fun i => mk 27 [(0, slV (xs.map GFrame.enc)), (1, slV (ys.map GFrame.enc)), (5, intV i)] [])
      (fun i => i ≤ xs.length ∧ eqL GFrame.eqb (xs.drop i) (ys.drop i) = eqL GFrame.eqb xs ys) (fun i => xs.length - i) 0 ⟨Nat.zero_le _, by simp⟩ ?_ tbOk mixed (by decide +kernel) ?_
    · exact le_mk (by simp [go_sem]) (by simp [go_sem])
    · rintro i ⟨hi, he⟩
      rcases Nat.lt_or_ge i xs.length with hlt | hge
      · have hlt' : i < ys.length := by omega
        have hg := map_getD (ec := GFrame.enc) hlt
        have hg' := map_getD (ec := GFrame.enc) hlt'
        rw [eqL_drop GFrame.eqb xs ys i hlt hlt'] at he
        have hx := hw.2 _ (List.getElem_mem hlt)
        generalize xs[i] = x at hg he hx
        generalize ys[i] = y at hg' he
        simp -implicitDefEqProofs (disch := omega) only [go_sem, hg, hg', hlt, hlt']
        refine CallK.mk (eqFrame_sat x hx y) ?_
        simp -implicitDefEqProofs (disch := omega) only [go_sem]
        refine ⟨fun h => ?_, fun h => ⟨i + 1, ⟨hlt, ?_⟩, by omega, le_mk (by simp [go_sem]) (by simp [go_sem])⟩⟩
        · rw [h] at he; simpa using he
        · rw [h] at he; simpa using he
      · have e1 : xs.drop i = [] := List.drop_of_length_le hge
        have e2 : ys.drop i = [] := List.drop_of_length_le (by omega)
        rw [e1, e2] at he
        simp -implicitDefEqProofs (disch := omega) only [go_sem, Nat.not_lt.2 hge]
        rw [← he]; rfl

structure GMachine where
  fo : Tm
  nx : Int
  st : List GFrame
  rw : Int
def GMachine.enc (x : GMachine) : List C := Tm.enc x.fo ++ (encI x.nx ++ (encL GFrame.enc x.st ++ (encI x.rw)))
def GMachine.size (x : GMachine) : Nat := Tm.size x.fo + szI x.nx + (szL GFrame.size) x.st + szI x.rw
def GMachine.wf (x : GMachine) : Prop := Tm.wf x.fo ∧ wfI x.nx ∧ (wfL GFrame.wf) x.st ∧ wfI x.rw
def GMachine.eqb (x y : GMachine) : Bool := Tm.eqb x.fo y.fo && (eqI x.nx y.nx && ((eqL GFrame.eqb) x.st y.st && (eqI x.rw y.rw)))
theorem GMachine.enc_len (x : GMachine) : x.enc.length = 7 := by simp [GMachine.enc, encI, encS, encB, encL, Go.Ai.enc_len]
theorem GMachine.enc_take (x : GMachine) : x.enc.take 7 = x.enc := List.take_of_length_le (by rw [GMachine.enc_len]; exact Nat.le_refl _)
theorem GMachine.encm_take (x : GMachine) : (x.enc.map AC.c).take 7 = x.enc.map AC.c := List.take_of_length_le (by rw [List.length_map, GMachine.enc_len]; exact Nat.le_refl _)
attribute [go_sem] GMachine.enc_len GMachine.enc_take GMachine.encm_take
theorem GMachine.eqb_refl (x : GMachine) : x.eqb x = true := by simp only [GMachine.eqb, Tm.eqb_refl x.fo, eqI_refl x.nx, (eqL_refl GFrame.eqb_refl) x.st, eqI_refl x.rw, Bool.and_self]

theorem szMachine_sat (x : GMachine) (hw : x.wf) (b : Int) (h0 : 0 ≤ b) (h1 : b < 1048577) : Sat Tryz.prog 43 [aggV x.enc, intV b] (intV (szR x.size b)) := by
  obtain ⟨r, hr⟩ : ∃ r, r = szR x.size b := ⟨_, rfl⟩
  rw [← hr]
  obtain ⟨⟨xfok, xfon, xfos, xfot⟩, xnx, xst, xrw⟩ := x
  simp only [GMachine.wf, wfI, wfS, wfB, maxLen] at hw
  simp only [GMachine.size, szI, szS] at hr
  refine sat_of_code tbOk mixed Tryz.func43 rfl rfl rfl (by decide +kernel) (by decide +kernel) (Nat.le_of_ble_eq_true rfl) ?_
  simp -implicitDefEqProofs (disch := omega) only [go_sem, GMachine.enc, Tm.enc, encB, encI, encL, encS, List.cons_append, List.nil_append, List.append_nil]
  have hb0 : -1 ≤ szR (Tm.size (.mk xfok xfon xfos xfot)) b ∧ szR (Tm.size (.mk xfok xfon xfos xfot)) b ≤ 1048576 := by grind [szR]
  refine CallK.mk (szTerm_sat (.mk xfok xfon xfos xfot) hw.1 b (by grind [szR]) (by grind [szR])) ?_
  simp -implicitDefEqProofs (disch := omega) only [go_sem, GMachine.enc, Tm.enc, encB, encI, encL, encS, List.cons_append, List.nil_append, List.append_nil]
  refine ⟨fun h0 => by grind [szR], fun h0 => ?_⟩
  have hb1 : -1 ≤ szR ((szL GFrame.size) xst) (szR (Tm.size (.mk xfok xfon xfos xfot)) b) ∧ szR ((szL GFrame.size) xst) (szR (Tm.size (.mk xfok xfon xfos xfot)) b) ≤ 1048576 := by grind [szR]
  refine CallK.mk (szFrameS_sat xst hw.2.2.1 (szR (Tm.size (.mk xfok xfon xfos xfot)) b) (by grind [szR]) (by grind [szR])) ?_
  simp -implicitDefEqProofs (disch := omega) only [go_sem, GMachine.enc, Tm.enc, encB, encI, encL, encS, List.cons_append, List.nil_append, List.append_nil]
  grind [szR]

theorem toMachine_sat (x : GMachine) (hs : x.size < 1048577) : Sat Tryz.prog 45 [aggV x.enc] (aggV x.enc) := by
  obtain ⟨⟨xfok, xfon, xfos, xfot⟩, xnx, xst, xrw⟩ := x
  simp only [GMachine.size, szI, szS] at hs
  refine sat_of_code tbOk mixed Tryz.func45 rfl rfl rfl (by decide +kernel) (by decide +kernel) (Nat.le_of_ble_eq_true rfl) ?_
  simp -implicitDefEqProofs (disch := omega) only [go_sem, GMachine.enc, Tm.enc, encB, encI, encL, encS, List.cons_append, List.nil_append, List.append_nil]
  refine CallK.mk (toTerm_sat (.mk xfok xfon xfos xfot) (by omega)) ?_
  simp -implicitDefEqProofs (disch := omega) only [go_sem, GMachine.enc, Tm.enc, encB, encI, encL, encS, List.cons_append, List.nil_append, List.append_nil]
  refine CallK.mk (toFrameS_sat xst (by omega)) ?_
  simp -implicitDefEqProofs (disch := omega) only [go_sem, GMachine.enc, Tm.enc, encB, encI, encL, encS, List.cons_append, List.nil_append, List.append_nil]
  rfl

theorem eqMachine_sat (x : GMachine) (hw : x.wf) (y : GMachine) : Sat Tryz.prog 40 [aggV x.enc, aggV y.enc] (boolV (x.eqb y)) := by
  obtain ⟨r, hr⟩ : ∃ r, r = x.eqb y := ⟨_, rfl⟩
  rw [← hr]
  obtain ⟨⟨xfok, xfon, xfos, xfot⟩, xnx, xst, xrw⟩ := x
  obtain ⟨⟨yfok, yfon, yfos, yfot⟩, ynx, yst, yrw⟩ := y
  simp only [GMachine.wf] at hw
  simp only [GMachine.eqb, eqI, eqS, eqB] at hr
  refine sat_of_code tbOk mixed Tryz.func40 rfl rfl rfl (by decide +kernel) (by decide +kernel) (Nat.le_of_ble_eq_true rfl) ?_
  simp -implicitDefEqProofs (disch := omega) only [go_sem, GMachine.enc, Tm.enc, encB, encI, encL, encS, List.cons_append, List.nil_append, List.append_nil]
  refine CallK.mk (eqTerm_sat (.mk xfok xfon xfos xfot) hw.1 (.mk yfok yfon yfos yfot)) ?_
  simp -implicitDefEqProofs (disch := omega) only [go_sem, GMachine.enc, Tm.enc, encB, encI, encL, encS, List.cons_append, List.nil_append, List.append_nil]
  refine ⟨fun h0 => by grind, fun h0 => ?_⟩
  refine ⟨fun h1 => by grind, fun h1 => ?_⟩
  refine CallK.mk (eqFrameS_sat xst hw.2.2.1 yst) ?_
  simp -implicitDefEqProofs (disch := omega) only [go_sem, GMachine.enc, Tm.enc, encB, encI, encL, encS, List.cons_append, List.nil_append, List.append_nil]
  refine ⟨fun h2 => by grind, fun h2 => ?_⟩
  grind

end Go.Ai
/- Machines: marks. Written by mk28.py. -/
namespace Go.Ai
set_option linter.unusedVariables false
set_option linter.unusedSimpArgs false
open Go.Proofs Go.RowKit
set_option maxRecDepth 100000

theorem GFrame.csz (x : GFrame) : cszCells x.enc = x.size := by simp only [GFrame.enc, GFrame.size, cszCells_append, Nat.add_assoc, Tm.csz, cszE_I]
theorem GFrame.nar (x : GFrame) : narCells x.enc := (narCells_append _ _ (Tm.nar x.t) (narE_I x.nx))

theorem toFrameF_sat (x : GFrame) (hs : x.size < 1048577) : SatF Tryz.prog 158 [aggV x.enc] (aggV x.enc) := by
  obtain ⟨⟨xtk, xtn, xts, xtt⟩, xnx⟩ := x
  simp only [GFrame.size, szI, szS] at hs
  refine satF_of_code [_] rfl (fun _ h => by cases h) tbOk mixed Tryz.func158 rfl rfl rfl (by decide +kernel) (by decide +kernel) (Nat.le_of_ble_eq_true rfl) ?_
  simp -implicitDefEqProofs (disch := omega) only [go_sem, GFrame.enc, Tm.enc, encB, encI, encL, encS, List.cons_append, List.nil_append, List.append_nil]
  refine CallK.own (toTermF_sat (.mk xtk xtn xts xtt) (by omega)) rfl ?_
  simp -implicitDefEqProofs (disch := omega) only [go_sem, GFrame.enc, Tm.enc, encB, encI, encL, encS, List.cons_append, List.nil_append, List.append_nil]

theorem toFrameSF_sat (xs : List GFrame) (hs : szL GFrame.size xs < 1048577) : SatF Tryz.prog 99 [slV (xs.map GFrame.enc)] (slV (xs.map GFrame.enc)) := by
  have hl := len_szL GFrame.size xs
  obtain ⟨rows, hrows⟩ : ∃ rows, rows = xs.map GFrame.enc := ⟨_, rfl⟩
  have lr : rows.length = xs.length := by rw [hrows]; simp
  rw [← hrows]
  refine satF_of_code [slV rows] rfl (fun _ h => by cases h) tbOk mixed Tryz.func99 rfl rfl rfl (by decide +kernel) (by decide +kernel) (Nat.le_of_ble_eq_true rfl) ?_
  simp -implicitDefEqProofs (disch := omega) only [go_sem, lr]
  refine ⟨⟨by omega, by omega⟩, fun _ => ?_⟩
  obtain ⟨Z, hZ⟩ : ∃ Z, Z = List.replicate xs.length zFrame := ⟨_, rfl⟩
  obtain ⟨Fr, hFr⟩ : ∃ Fr, Fr = rows.map fun q => q.map dC := ⟨_, rfl⟩
  have lZ : Z.length = xs.length := by rw [hZ]; simp
  have lF : Fr.length = Z.length := by rw [hFr, lZ]; simp [lr]
  have iF : ∀ lb r, r ∈ Fr → ∀ a, a ∈ r → inC lb a := fun lb => by rw [hFr]; exact drows_in lb
  have iZ : ∀ lb r, r ∈ Z → ∀ a, a ∈ r → inC lb a := fun lb => by rw [hZ]; exact rep_in (by simp [zFrame, inC])
  rw [← hZ]
  refine loopA_rule (ι := Nat) (fun i => mk 23 [(0, slV rows), (3, .one (.own 7 xs.length)), (4, intV i)] [(7, .arr 191 5 (turnR Fr Z i) false)]) (fun i => i ≤ xs.length) (fun i => xs.length - i) 0 (Nat.zero_le _) ?_ tbOk mixed (by decide +kernel) ?_
  · exact le_mk (by simp [go_sem]) (by simp only [leB, lookB_cons, if_true, inB, turnR_zero, true_and, and_true]; exact iZ _)
  · intro i hi
    have hlen := turnR_len (i := i) lF (by omega)
    rcases Nat.lt_or_ge i xs.length with hlt | hge
    · have hi' : i < Z.length := by omega
      have hg : rows.getD i [] = GFrame.enc xs[i] := by rw [hrows]; exact map_getD hlt
      have eZ : Z[i] = zFrame := by simp [hZ]
      have eF : Fr[i]'(by omega) = (GFrame.enc xs[i]).map dC := by simp [hFr, hrows]
      have hm := szL_mem GFrame.size xs _ (List.getElem_mem hlt)
      generalize xs[i] = x at hg eF hm
      have hto := toFrameF_sat x (by omega)
      obtain ⟨⟨xtk, xtn, xts, xtt⟩, xnx⟩ := x
      have hfin := turnS_turnR lF hi'
      rw [eF] at hfin
      have sl := fun r => turnS_len lF hi' r
      have sg := fun r => turnS_get lF hi' r
      rw [turnR_eq lF hi' eZ]
      simp -implicitDefEqProofs (disch := omega) only [go_sem, hg, hlt, lr, lZ, sl, sg, turnS_set, GFrame.enc, Tm.enc, encB, encI, encL, encS, List.cons_append, List.nil_append, List.append_nil, List.forall_mem_cons, List.not_mem_nil]
      refine CallK.own hto rfl ?_
      simp -implicitDefEqProofs (disch := omega) only [go_sem, hg, hlt, lr, lZ, sl, sg, turnS_set, GFrame.enc, Tm.enc, encB, encI, encL, encS, List.cons_append, List.nil_append, List.append_nil, List.forall_mem_cons, List.not_mem_nil]
      refine ⟨i + 1, hlt, by omega, ((wk_moveS (l := 7) (c := 3) lF hi' rfl rfl rfl rfl).trans (le_mk (by simp [go_sem]) ?_))⟩
      simp only [leB, lookB_cons, if_true, inB, true_and, and_true]
      exact ⟨by rw [← hfin] <;> rfl, turnR_in (iF _) (iZ _)⟩
    · have : i = xs.length := by omega
      subst this
      simp -implicitDefEqProofs (disch := omega) only [go_sem, hlen, lZ, lr, Nat.lt_irrefl]
      rw [turnR_end lF lZ.symm, hFr]
      exact ⟨drows_isO, drows_toC⟩

theorem markFrameS_nil (k : Int) : Sat Tryz.prog 92 [slV [], intV k] (intV k) := by
  refine sat_of_code tbOk mixed Tryz.func92 rfl rfl rfl (by decide +kernel) (by decide +kernel) (Nat.le_of_ble_eq_true rfl) ?_
  simp -implicitDefEqProofs (disch := omega) only [go_sem]
  refine loopA_rule (ι := Unit) (fun _ => mk 53 [(0, slV []), (1, intV k), (5, intV 0)] []) (fun _ => True) (fun _ => 0) () trivial ?_ tbOk mixed (by decide +kernel) ?_
  · exact le_mk (by simp [go_sem]) (by simp [go_sem])
  · intro _ _
    simp -implicitDefEqProofs (disch := omega) only [go_sem]
    intro h; omega
theorem markFrameS_sat (xs : List GFrame) (hw : wfL GFrame.wf xs) (k : Int) (h0 : 0 ≤ k) (h1 : (mkRows (xs.map GFrame.enc) k).2 ≤ 100000000) : SatM Tryz.prog 92 [.one (.m (.sl (xs.map GFrame.enc))), intV k] [.one (.m (.sl (mkRows (xs.map GFrame.enc) k).1)), intV k] (intV (mkRows (xs.map GFrame.enc) k).2) := by
  have hl := hw.1
  cases hx : xs with
  | nil => simpa [mkRows] using satM_nil (rest := [intV k]) rfl rfl (markFrameS_nil k)
  | cons x0 xs0 =>
    rw [← hx]
    simp only [maxLen] at hl
    obtain ⟨rows, hrows⟩ : ∃ rows, rows = xs.map GFrame.enc := ⟨_, rfl⟩
    have lr : rows.length = xs.length := by rw [hrows]; simp
    rw [← hrows] at h1 ⊢
    refine satM_slice 9001 5 tbOk mixed Tryz.func92 rfl rfl rfl (by decide +kernel) (by decide +kernel) (Nat.le_of_ble_eq_true rfl) rfl rfl (by rw [hrows, hx]; simp) (by rw [hrows]; simp [GFrame.enc_len]) (fun e => ?_)
    simp -implicitDefEqProofs (disch := omega) only [go_sem]
    obtain ⟨G, hG⟩ : ∃ G, G = rows.map fun q => q.map mC := ⟨_, rfl⟩
    obtain ⟨Fr, hFr⟩ : ∃ Fr, Fr = (mkRows rows k).1.map fun q => q.map mC := ⟨_, rfl⟩
    have lG : G.length = rows.length := by rw [hG]; simp
    have lF : Fr.length = G.length := by rw [hFr, lG]; simp [mkRows_len]
    have iF : ∀ lb r, r ∈ Fr → ∀ a, a ∈ r → inC lb a := fun lb => by rw [hFr]; exact mrows_in lb
    have iG : ∀ lb r, r ∈ G → ∀ a, a ∈ r → inC lb a := fun lb => by rw [hG]; exact mrows_in lb
    have nF : noD Fr = true := by rw [hFr]; exact mrows_noD
    have nG : noD G = true := by rw [hG]; exact mrows_noD
    rw [← hG]
    refine loopW_rule (ι := Nat) (fun i => mk 53 [(0, .one (.own 9001 rows.length)), (1, intV (kAt rows k i)), (5, intV i)] [(9001, .arr e 5 (turnR Fr G i) false)] [.one (.own 9001 rows.length)]) (fun i => i ≤ rows.length) (fun i => rows.length - i) 0 (Nat.zero_le _) ?_ tbOk mixed (by decide +kernel) ?_
    · exact le_mk (by simp [go_sem, kAt_zero]) (by simp only [leB, lookB_cons, if_true, inB, turnR_zero, true_and, and_true]; exact iG _)
    · intro i hi
      have hlen := turnR_len (i := i) lF (by omega)
      rcases Nat.lt_or_ge i rows.length with hlt | hge
      · have hi' : i < G.length := by omega
        obtain ⟨hm, eM, eK⟩ := mkRows_at rows k i hlt
        have hb1 := kAt_cnt rows k i
        have hb2 := cntRows_get rows i hlt
        have hb3 := mkRows_cnt rows k
        have hb4 := mkCells_cnt rows[i] (kAt rows k i)
        have ex : rows[i] = GFrame.enc (xs[i]'(by omega)) := by simp [hrows]
        have hw' := hw.2 _ (List.getElem_mem (show i < xs.length by omega))
        generalize xs[i]'(by omega) = x at ex hw'
        obtain ⟨⟨xtk, xtn, xts, xtt⟩, xnx⟩ := x
        simp only [GFrame.wf] at hw'
        rw [ex] at eM eK hb2 hb4
        simp only [GFrame.enc, Tm.enc, encB, encI, encL, encS, List.cons_append, List.nil_append, List.append_nil, mkCells, mkC] at eM eK hb2 hb4
        generalize hK : kAt rows k i = K at eM eK hb1 hb4
        have hKn : 0 ≤ K := by omega
        have hc3 := mkRows_cnt (Tm.encs xtt) (((K + 1) + 1) + 1)
        have eG : G[i] = [iC xtk, iC xtn, sC xts, .m (.sl (Tm.encs xtt)), iC xnx] := by simp [hG, ex, GFrame.enc, Tm.enc, encB, encI, encL, encS, List.cons_append, List.nil_append, List.append_nil, mC]
        have eF : Fr[i]'(by omega) = [iC K, iC (K + 1), sC (mtext ((K + 1) + 1)), .m (.sl (mkRows (Tm.encs xtt) (((K + 1) + 1) + 1)).1), iC (mkRows (Tm.encs xtt) (((K + 1) + 1) + 1)).2] := by simp [hFr, eM, mC]
        have hfin := turnS_turnR lF hi'
        rw [eF] at hfin
        have sl := fun r => turnS_len lF hi' r
        have sg := fun r => turnS_get lF hi' r
        rw [turnR_eq lF hi' eG]
        refine ⟨_, (wk_takeS (l := 9001) (T := 9103) (c := 3) lF hi' rfl rfl rfl (by exact turnS_noD nF nG rfl)), ?_⟩
        simp -implicitDefEqProofs (disch := omega) only [go_sem, sl, sg, turnS_set, lG, hlt, List.forall_mem_cons, List.not_mem_nil, Tm.args]
        refine CallK.bor (markText_sat ((K + 1) + 1) (by omega)) rfl ?_
        simp -implicitDefEqProofs (disch := omega) only [go_sem, sl, sg, turnS_set, lG, hlt, List.forall_mem_cons, List.not_mem_nil, Tm.args]
        refine CallK.mut (markTermS_tm (.mk xtk xtn xts xtt) hw'.1 (((K + 1) + 1) + 1) (by omega) (by simp only [Tm.args]; omega)) ?_
        simp -implicitDefEqProofs (disch := omega) only [go_sem, sl, sg, turnS_set, lG, hlt, List.forall_mem_cons, List.not_mem_nil, Tm.args]
        refine ⟨i + 1, hlt, by omega, ((wk_giveS (l := 9001) (T := 9103) (c := 3) lF hi' rfl rfl rfl).trans (le_mk (by simp [go_sem, eK]) ?_))⟩
        simp only [leB, lookB_cons, if_true, inB, true_and, and_true]
        exact ⟨by rw [← hfin] <;> rfl, turnR_in (iF _) (iG _)⟩
      · have : i = rows.length := by omega
        subst this
        refine ⟨_, Wk.refl _, ?_⟩
        simp -implicitDefEqProofs (disch := omega) only [go_sem, hlen, lG, Nat.lt_irrefl, kAt_all]
        exact turnedRow_mk rfl (by rw [turnR_end lF lG.symm, hFr]) (by rw [mkRows_len]) rfl

theorem GMachine.csz (x : GMachine) : cszCells x.enc = x.size := by simp only [GMachine.enc, GMachine.size, cszCells_append, Nat.add_assoc, Tm.csz, cszE_I, cszL_of GFrame.csz]
theorem GMachine.nar (x : GMachine) : narCells x.enc := (narCells_append _ _ (Tm.nar x.fo) (narCells_append _ _ (narE_I x.nx) (narCells_append _ _ (narL_of (fun y => ⟨by rw [GFrame.enc_len]; omega, GFrame.nar y⟩) x.st) (narE_I x.rw))))

theorem toMachineF_sat (x : GMachine) (hs : x.size < 1048577) : SatF Tryz.prog 45 [aggV x.enc] (aggV x.enc) := by
  obtain ⟨⟨xfok, xfon, xfos, xfot⟩, xnx, xst, xrw⟩ := x
  simp only [GMachine.size, szI, szS] at hs
  refine satF_of_code [_] rfl (fun _ h => by cases h) tbOk mixed Tryz.func45 rfl rfl rfl (by decide +kernel) (by decide +kernel) (Nat.le_of_ble_eq_true rfl) ?_
  simp -implicitDefEqProofs (disch := omega) only [go_sem, GMachine.enc, Tm.enc, encB, encI, encL, encS, List.cons_append, List.nil_append, List.append_nil]
  refine CallK.own (toTermF_sat (.mk xfok xfon xfos xfot) (by omega)) rfl ?_
  simp -implicitDefEqProofs (disch := omega) only [go_sem, GMachine.enc, Tm.enc, encB, encI, encL, encS, List.cons_append, List.nil_append, List.append_nil]
  refine CallK.own (toFrameSF_sat xst (by omega)) rfl ?_
  simp -implicitDefEqProofs (disch := omega) only [go_sem, GMachine.enc, Tm.enc, encB, encI, encL, encS, List.cons_append, List.nil_append, List.append_nil]

theorem markMachine_sat (xfok : Int) (xfon : Int) (xfos : ByteArray) (xfot : List Tm) (xnx : Int) (xst : List GFrame) (xrw : Int) (hw : (⟨⟨xfok, xfon, xfos, xfot⟩, xnx, xst, xrw⟩ : GMachine).wf) (k : Int) (h0 : 0 ≤ k) (h1 : (mkRows (xst.map GFrame.enc) (mkRows (Tm.encs xfot) k).2).2 ≤ 100000000) : SatM Tryz.prog 41 [.agg [iC xfok, iC xfon, sC xfos, .m (.sl (Tm.encs xfot)), iC xnx, .m (.sl (xst.map GFrame.enc)), iC xrw], intV k] [.agg [iC xfok, iC xfon, sC xfos, .m (.sl (mkRows (Tm.encs xfot) k).1), iC xnx, .m (.sl (mkRows (xst.map GFrame.enc) (mkRows (Tm.encs xfot) k).2).1), iC xrw], intV k] (intV (mkRows (xst.map GFrame.enc) (mkRows (Tm.encs xfot) k).2).2) := by
  simp only [GMachine.wf] at hw
  have hc3 := mkRows_cnt (Tm.encs xfot) k
  have hc5 := mkRows_cnt (xst.map GFrame.enc) (mkRows (Tm.encs xfot) k).2
  refine satM_of_code 9000 tbOk mixed Tryz.func41 rfl rfl rfl (by decide +kernel) (by decide +kernel) (Nat.le_of_ble_eq_true rfl) rfl rfl rfl ?_
  simp -implicitDefEqProofs (disch := omega) only [go_sem]
  refine CallK.mut (markTerm_sat xfok xfon xfos xfot hw.1 k (by omega) (by omega)) ?_
  simp -implicitDefEqProofs (disch := omega) only [go_sem, Tm.args]
  refine CallK.mut (markFrameS_sat xst hw.2.2.1 (mkRows (Tm.encs xfot) k).2 (by omega) (by omega)) ?_
  simp -implicitDefEqProofs (disch := omega) only [go_sem, Tm.args]

end Go.Ai
