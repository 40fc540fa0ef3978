/- The row: FnMachineSteps. -/
import Derived.Test.YtphclghkljeaeaaGreatRows
import Derived.Test.YtphclghkljeaeaaGreatAiQL9
import Derived.Test.YtphclghkljeaeaaGreatAiQR
import Derived.WalkKit
import Derived.ProofKit
import Derived.OpenShut
import Derived.ShutString
import Derived.ChangeOld
import Derived.Below
import Derived.SizedLaws
import Derived.ReadAgain
set_option linter.unusedVariables false
set_option linter.unusedSimpArgs false
namespace Go.Proofs.YtphclghkljeaeaaGreat.fnMachineSteps
open Go.ChangeShapes Go.WideShapes Go.ChangeAt Go.RowKit Go.Ai
open Go.ChangeMaps (open_string shut_string)
theorem own : ownKnob Tryz.prog.godebug = none := by kernel_rfl
set_option maxRecDepth 100000 in
theorem lifted (os : Os) (started : os.Started) (H : Type) (enc : TypeId × Value → H) :
  ReturnsInHanded {} Tryz.checked os 4 .any (Rows.fnMachineStepsSpec.pre6 enc Tryz.prog Tryz.f4 Rows.fnMachineStepsRow.domain false) (Rows.fnMachineStepsSpec.post enc Tryz.prog Tryz.f4 false true false false) := by
 refine returnsInHanded_of_change_sized (C := Tryz.checked) own started (by kernel_rfl) Tryz.func4
  (ChangeSpec.witness6 (enc := enc) (C := Tryz.checked) false ⟨#[], #[.slice none 0 0], []⟩ 8 (by kernel_rfl) (by kernel_rfl) (by kernel_rfl) (by kernel_rfl)) ?_
 intro W base args ds gs before hval0 hW hcnd hsz0 _
 have hval : ∀ (j : Nat) t v, Tryz.f4.params[j]? = some t → args[j]? = some v → Value.okWide Tryz.prog W .any base t v := hval0
 have hW' := hW
 obtain ⟨p, q, hA0, hV, rfl, hfz, hnd⟩ := hW
 have hA : DataW.TrodAll enc Tryz.prog W 0 (fun _ => true) true Tryz.f4.params.toList args.toList ds p := hA0
 rw [Tryz.params4] at hA hval
 have hA1 := hA
 obtain ⟨v0, vs0, d0, ds0, p0, q0, hargs, rfl, rfl, h0, r0⟩ := trodAll_cons hA
 obtain ⟨rfl, rfl, rfl⟩ := trodAll_nil r0
 obtain rfl : args = #[v0] := by cases args; simp_all
 obtain ⟨rfl, rfl⟩ := trodVars_none hV
 obtain ⟨sa0, sl0, sc0, sv0⟩ := okWide_slice Tryz.underlying22 (hval 0 22 v0 rfl rfl)
 obtain ⟨a0, w0, e0⟩ := vY1 (v := v0) (by rw [sv0]; rfl) h0 (ec := fun (xs : List Int) => C.sl (xs.map mC0)) (wf := wfL wfU) (fun m cs x h => rdL (ec := mC0) (wf := wfU) Tryz.underlying22 (show Tryz.prog.cellsOf 5 = 1 from by kernel_rfl) (by omega) (fun m _ cs x h => ry1 Tryz.underlying5 m cs x h) h)
 refine ((kq0 a0 (fun x hx => kp1 (w0.2 x hx))).2 W (F0 W) [v0] ⟨fun b o h => h, fun b cs h => by cases h⟩ ⟨_, _, rfl, e0, rfl⟩).mono fun e W' ⟨u, F', he, bel, _, _, _, hu⟩ => ?_
 subst he
 have hu := hu.c_v
 subst hu
 exact ⟨_, rfl, _, _, _, [], _, [], hW', trodAll_mk1 (shut_bool Tryz.underlying4 _), DataW.TrodAll.respare rL1 rG1 (of_decide_eq_true (by kernel_rfl)) (vj0 bel hA1) (fun p hp => decide_eq_true (DataW.TrodAll.lt hA1 p hp)), rfl, bel.frame _, fun h => by cases h⟩
theorem wA0 {a b : Bool} (h : a = true) (k : b = true) : (a && b) = true := by rw [h, k]; rfl
theorem q0 : (Rows.fnMachineStepsRow.wf (OpenSpec.ofChange Rows.fnMachineStepsSpec)) = true := by kernel_rfl
theorem q1 : (laidOutB Tryz.pinned.checked.prog) = true := by kernel_rfl
theorem q2 : (mapsRowed Tryz.pinned.checked.prog) = true := by kernel_rfl
theorem q3 : (Tryz.f4.params.all (Tryz.pinned.checked.prog.readableRec ·)) = true := by kernel_rfl
theorem q4 : (namedTie Tryz.pinned.checked.prog Rows.fnMachineStepsRow.named Rows.fnMachineStepsSpec.vars) = true := by kernel_rfl
theorem q5 : ((Rows.fnMachineStepsRow.stops == [])) = true := by kernel_rfl
theorem q6 : ((Tryz.pinned.checked.prog.stops == [])) = true := by kernel_rfl
theorem q7 : ((Rows.fnMachineStepsRow.knobs == [])) = true := by kernel_rfl
theorem q8 : ((Tryz.pinned.checked.prog.stopKnobs == [])) = true := by kernel_rfl
theorem q9 : ((Rows.fnMachineStepsRow.inPlace == Tryz.pinned.checked.prog.inPlace 4)) = true := by kernel_rfl
theorem q10 : ((Rows.fnMachineStepsRow.unfollowed == Tryz.pinned.checked.prog.unfollowed 4)) = true := by kernel_rfl
theorem q11 : ((Rows.fnMachineStepsRow.recurses == Tryz.pinned.checked.prog.recurses 4)) = true := by kernel_rfl
theorem q12 : ((Rows.fnMachineStepsRow.named == Tryz.pinned.checked.prog.varsNamed 4)) = true := by kernel_rfl
theorem q13 : ((Rows.fnMachineStepsRow.maps == (Tryz.f4.params.toList ++ Rows.fnMachineStepsSpec.plain.varTypes Tryz.pinned.checked.prog).any (Tryz.pinned.checked.prog.mapsRec ·))) = true := by kernel_rfl
theorem q14 : ((Rows.fnMachineStepsRow.ifaces == (Tryz.f4.params.toList ++ Rows.fnMachineStepsSpec.plain.varTypes Tryz.pinned.checked.prog).any (Tryz.pinned.checked.prog.ifacesRec ·))) = true := by kernel_rfl
theorem q15 : ((Rows.fnMachineStepsRow.mapsOut == Tryz.pinned.checked.prog.mapsAmong Tryz.f4.resultTypes.toList)) = true := by kernel_rfl
theorem q16 : ((Rows.fnMachineStepsRow.loops == (Tryz.f4.params.toList ++ Rows.fnMachineStepsSpec.plain.varTypes Tryz.pinned.checked.prog).any (Tryz.pinned.checked.prog.loopsFrom ·))) = true := by kernel_rfl
theorem q17 : ((Rows.fnMachineStepsRow.wideKeys == (Tryz.f4.params.toList ++ Rows.fnMachineStepsSpec.plain.varTypes Tryz.pinned.checked.prog ++ Tryz.f4.resultTypes.toList).any (Tryz.pinned.checked.prog.wideKeysFrom ·))) = true := by kernel_rfl
theorem q18 : (Rows.fnMachineStepsSpec.vars.all (Tryz.pinned.checked.prog.varReadable ·)) = true := by kernel_rfl
theorem q19 : (Tryz.f4.resultTypes.all (fun t => Tryz.pinned.checked.prog.readableRec t && decide (t < Tryz.pinned.checked.prog.types.size))) = true := by kernel_rfl
theorem q20 : ((Rows.fnMachineStepsRow.ifacesOut == Tryz.f4.resultTypes.toList.any (Tryz.pinned.checked.prog.ifacesRec ·))) = true := by kernel_rfl
theorem q21 : ((Rows.fnMachineStepsRow.loopsOut == Tryz.f4.resultTypes.toList.any (Tryz.pinned.checked.prog.loopsFrom ·))) = true := by kernel_rfl
theorem q22 : ((Rows.fnMachineStepsRow.plainKeys == Tryz.pinned.checked.prog.plainKeys)) = true := by kernel_rfl
theorem q23 : (Rows.fnMachineStepsRow.shortTexts.isNone) = true := by kernel_rfl
theorem q24 : (Tryz.pinned.checked.prog.stopsHeard) = true := by kernel_rfl
theorem q25 : (Tryz.pinned.checked.prog.mayEnter) = true := by kernel_rfl
theorem q26 : ((Rows.fnMachineStepsRow.lifted == Tryz.pinned.checked.prog.liftsFinal)) = true := by kernel_rfl
theorem q27 : ((Tryz.pinned.checked.prog.make == some Rows.fnMachineStepsRow.make)) = true := by kernel_rfl
theorem q28 : ((Rows.fnMachineStepsRow.kinds == (if Rows.fnMachineStepsRow.domain.isEmpty then [] else Tryz.f4.params.toList.map fun t => match Tryz.pinned.checked.prog.underlying t with | some (.int k) => some k | _ => none))) = true := by kernel_rfl
theorem q29 : ((Rows.fnMachineStepsRow.pinned == Rows.fnMachineStepsRow.pinnedBy)) = true := by kernel_rfl
theorem q30 : ((Rows.fnMachineStepsRow.veiled == (Tryz.f4.params.toList ++ Rows.fnMachineStepsSpec.plain.varTypes Tryz.pinned.checked.prog ++ Tryz.f4.resultTypes.toList).any (Tryz.pinned.checked.prog.veiledRec ·))) = true := by kernel_rfl
theorem q31 : (Rows.fnMachineStepsRow.veiledFits Tryz.pinned.checked.prog Tryz.f4.params.toList (Tryz.f4.params.toList ++ Rows.fnMachineStepsSpec.plain.varTypes Tryz.pinned.checked.prog ++ Tryz.f4.resultTypes.toList)) = true := by kernel_rfl
set_option maxRecDepth 100000 in
theorem pY1 : joinedFacts Tryz.pinned.checked.prog 4 Tryz.f4 Rows.fnMachineStepsSpec Rows.fnMachineStepsRow = true := wA0 (wA0 (wA0 (wA0 (wA0 (wA0 (wA0 (wA0 (wA0 (wA0 (wA0 (wA0 (wA0 (wA0 (wA0 (wA0 (wA0 (wA0 (wA0 (wA0 (wA0 (wA0 (wA0 (wA0 (wA0 (wA0 (wA0 (wA0 (wA0 (wA0 (wA0 (q0) q1) q2) q3) q4) q5) q6) q7) q8) q9) q10) q11) q12) q13) q14) q15) q16) q17) q18) q19) q20) q21) q22) q23) q24) q25) q26) q27) q28) q29) q30) q31
theorem named : Tryz.pinned.checked.prog.funcNamed Rows.fnMachineStepsRow.func = some 4 := by kernel_rfl
theorem rJ1 : Tryz.f4.isInstance Tryz.pinned.checked.prog Rows.fnMachineStepsRow.origin Rows.fnMachineStepsRow.targs := of_decide_eq_true (by kernel_rfl)
theorem wrap : Tryz.f4.isWrapper Tryz.pinned.checked.prog Rows.fnMachineStepsRow.wrapper Rows.fnMachineStepsRow.mainSum := by
 unfold Func.isWrapper; first | (rw [if_pos (by decide +kernel)]; kernel_rfl) | (rw [if_neg (by decide +kernel)]; exact ⟨rfl, rfl⟩)
theorem rx1 : Rows.fnMachineStepsRow.holds Tryz.pinned (OpenSpec.ofChange Rows.fnMachineStepsSpec) :=
 OpenClaim.holds_of_wide 4 Tryz.f4 rfl rfl rfl rfl rfl rfl rfl ⟨rfl, rfl, rfl, rfl, rfl⟩ rfl rfl rfl rfl rfl named Tryz.func4 pY1 rJ1 wrap
  (fun os started H enc _ => lifted os started H enc)
theorem proved : Rows.FnMachineStepsSaid := rx1
end Go.Proofs.YtphclghkljeaeaaGreat.fnMachineSteps
namespace Go.Proofs.YtphclghkljeaeaaGreat
theorem fnMachineSteps_holds : Rows.FnMachineStepsSaid := fnMachineSteps.proved
end Go.Proofs.YtphclghkljeaeaaGreat
