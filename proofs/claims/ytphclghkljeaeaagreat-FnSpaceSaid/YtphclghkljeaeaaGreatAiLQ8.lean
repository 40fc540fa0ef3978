/- The row: FnSpace. -/
import Derived.Test.YtphclghkljeaeaaGreatRows
import Derived.Test.YtphclghkljeaeaaGreatAiQL8
import Derived.Test.YtphclghkljeaeaaGreatAiQR
import Derived.WalkKit
import Derived.ProofKit
import Derived.OpenShut
import Derived.ShutString
import Derived.ChangeOld
import Derived.Below
import Derived.SizedLaws
import Derived.ReadAgain
set_option linter.unusedVariables false
set_option linter.unusedSimpArgs false
namespace Go.Proofs.YtphclghkljeaeaaGreat.fnSpace
open Go.ChangeShapes Go.WideShapes Go.ChangeAt Go.RowKit Go.Ai
open Go.ChangeMaps (open_string shut_string)
theorem own : ownKnob Tryz.prog.godebug = none := by kernel_rfl
set_option maxRecDepth 100000 in
theorem lifted (os : Os) (started : os.Started) (H : Type) (enc : TypeId × Value → H) :
  ReturnsInHanded {} Tryz.checked os 3 .any (Rows.fnSpaceSpec.pre6 enc Tryz.prog Tryz.f3 Rows.fnSpaceRow.domain false) (Rows.fnSpaceSpec.post enc Tryz.prog Tryz.f3 false true false false) := by
 refine returnsInHanded_of_change_sized (C := Tryz.checked) own started (by kernel_rfl) Tryz.func3
  (ChangeSpec.witness6 (enc := enc) (C := Tryz.checked) false ⟨#[], #[.slice none 0 0], []⟩ 8 (by kernel_rfl) (by kernel_rfl) (by kernel_rfl) (by kernel_rfl)) ?_
 intro W base args ds gs before hval0 hW hcnd hsz0 _
 have hval : ∀ (j : Nat) t v, Tryz.f3.params[j]? = some t → args[j]? = some v → Value.okWide Tryz.prog W .any base t v := hval0
 have hW' := hW
 obtain ⟨p, q, hA0, hV, rfl, hfz, hnd⟩ := hW
 have hA : DataW.TrodAll enc Tryz.prog W 0 (fun _ => true) true Tryz.f3.params.toList args.toList ds p := hA0
 rw [Tryz.params3] at hA hval
 have hA1 := hA
 obtain ⟨v0, vs0, d0, ds0, p0, q0, hargs, rfl, rfl, h0, r0⟩ := trodAll_cons hA
 obtain ⟨rfl, rfl, rfl⟩ := trodAll_nil r0
 obtain rfl : args = #[v0] := by cases args; simp_all
 obtain ⟨rfl, rfl⟩ := trodVars_none hV
 obtain ⟨sa0, sl0, sc0, sv0⟩ := okWide_slice Tryz.underlying22 (hval 0 22 v0 rfl rfl)
 obtain ⟨a0, w0, e0⟩ := pV1 (v := v0) (by rw [sv0]; rfl) h0 (ec := fun (xs : List Int) => C.sl (xs.map gh0)) (wf := wfL wfU) (fun m cs x h => rdL (ec := gh0) (wf := wfU) Tryz.underlying22 (show Tryz.prog.cellsOf 5 = 1 from by kernel_rfl) (by omega) (fun m _ cs x h => ze2 Tryz.underlying5 m cs x h) h)
 refine ((mD0 a0 (fun x hx => xl1 (w0.2 x hx))).2 W (F0 W) [v0] ⟨fun b o h => h, fun b cs h => by cases h⟩ ⟨_, _, rfl, e0, rfl⟩).mono fun e W' ⟨u, F', he, bel, _, _, _, hu⟩ => ?_
 subst he
 have hu := hu.c_v
 subst hu
 exact ⟨_, rfl, _, _, _, [], _, [], hW', trodAll_mk1 (shut_bool Tryz.underlying4 _), DataW.TrodAll.respare tl1 full (of_decide_eq_true (by kernel_rfl)) (vh0 bel hA1) (fun p hp => decide_eq_true (DataW.TrodAll.lt hA1 p hp)), rfl, bel.frame _, fun h => by cases h⟩
theorem qp0 {a b : Bool} (h : a = true) (k : b = true) : (a && b) = true := by rw [h, k]; rfl
theorem q0 : (Rows.fnSpaceRow.wf (OpenSpec.ofChange Rows.fnSpaceSpec)) = true := by kernel_rfl
theorem q1 : (laidOutB Tryz.pinned.checked.prog) = true := by kernel_rfl
theorem q2 : (mapsRowed Tryz.pinned.checked.prog) = true := by kernel_rfl
theorem q3 : (Tryz.f3.params.all (Tryz.pinned.checked.prog.readableRec ·)) = true := by kernel_rfl
theorem q4 : (namedTie Tryz.pinned.checked.prog Rows.fnSpaceRow.named Rows.fnSpaceSpec.vars) = true := by kernel_rfl
theorem q5 : ((Rows.fnSpaceRow.stops == [])) = true := by kernel_rfl
theorem q6 : ((Tryz.pinned.checked.prog.stops == [])) = true := by kernel_rfl
theorem q7 : ((Rows.fnSpaceRow.knobs == [])) = true := by kernel_rfl
theorem q8 : ((Tryz.pinned.checked.prog.stopKnobs == [])) = true := by kernel_rfl
theorem q9 : ((Rows.fnSpaceRow.inPlace == Tryz.pinned.checked.prog.inPlace 3)) = true := by kernel_rfl
theorem q10 : ((Rows.fnSpaceRow.unfollowed == Tryz.pinned.checked.prog.unfollowed 3)) = true := by kernel_rfl
theorem q11 : ((Rows.fnSpaceRow.recurses == Tryz.pinned.checked.prog.recurses 3)) = true := by kernel_rfl
theorem q12 : ((Rows.fnSpaceRow.named == Tryz.pinned.checked.prog.varsNamed 3)) = true := by kernel_rfl
theorem q13 : ((Rows.fnSpaceRow.maps == (Tryz.f3.params.toList ++ Rows.fnSpaceSpec.plain.varTypes Tryz.pinned.checked.prog).any (Tryz.pinned.checked.prog.mapsRec ·))) = true := by kernel_rfl
theorem q14 : ((Rows.fnSpaceRow.ifaces == (Tryz.f3.params.toList ++ Rows.fnSpaceSpec.plain.varTypes Tryz.pinned.checked.prog).any (Tryz.pinned.checked.prog.ifacesRec ·))) = true := by kernel_rfl
theorem q15 : ((Rows.fnSpaceRow.mapsOut == Tryz.pinned.checked.prog.mapsAmong Tryz.f3.resultTypes.toList)) = true := by kernel_rfl
theorem q16 : ((Rows.fnSpaceRow.loops == (Tryz.f3.params.toList ++ Rows.fnSpaceSpec.plain.varTypes Tryz.pinned.checked.prog).any (Tryz.pinned.checked.prog.loopsFrom ·))) = true := by kernel_rfl
theorem q17 : ((Rows.fnSpaceRow.wideKeys == (Tryz.f3.params.toList ++ Rows.fnSpaceSpec.plain.varTypes Tryz.pinned.checked.prog ++ Tryz.f3.resultTypes.toList).any (Tryz.pinned.checked.prog.wideKeysFrom ·))) = true := by kernel_rfl
theorem q18 : (Rows.fnSpaceSpec.vars.all (Tryz.pinned.checked.prog.varReadable ·)) = true := by kernel_rfl
theorem q19 : (Tryz.f3.resultTypes.all (fun t => Tryz.pinned.checked.prog.readableRec t && decide (t < Tryz.pinned.checked.prog.types.size))) = true := by kernel_rfl
theorem q20 : ((Rows.fnSpaceRow.ifacesOut == Tryz.f3.resultTypes.toList.any (Tryz.pinned.checked.prog.ifacesRec ·))) = true := by kernel_rfl
theorem q21 : ((Rows.fnSpaceRow.loopsOut == Tryz.f3.resultTypes.toList.any (Tryz.pinned.checked.prog.loopsFrom ·))) = true := by kernel_rfl
theorem q22 : ((Rows.fnSpaceRow.plainKeys == Tryz.pinned.checked.prog.plainKeys)) = true := by kernel_rfl
theorem q23 : (Rows.fnSpaceRow.shortTexts.isNone) = true := by kernel_rfl
theorem q24 : (Tryz.pinned.checked.prog.stopsHeard) = true := by kernel_rfl
theorem q25 : (Tryz.pinned.checked.prog.mayEnter) = true := by kernel_rfl
theorem q26 : ((Rows.fnSpaceRow.lifted == Tryz.pinned.checked.prog.liftsFinal)) = true := by kernel_rfl
theorem q27 : ((Tryz.pinned.checked.prog.make == some Rows.fnSpaceRow.make)) = true := by kernel_rfl
theorem q28 : ((Rows.fnSpaceRow.kinds == (if Rows.fnSpaceRow.domain.isEmpty then [] else Tryz.f3.params.toList.map fun t => match Tryz.pinned.checked.prog.underlying t with | some (.int k) => some k | _ => none))) = true := by kernel_rfl
theorem q29 : ((Rows.fnSpaceRow.pinned == Rows.fnSpaceRow.pinnedBy)) = true := by kernel_rfl
theorem q30 : ((Rows.fnSpaceRow.veiled == (Tryz.f3.params.toList ++ Rows.fnSpaceSpec.plain.varTypes Tryz.pinned.checked.prog ++ Tryz.f3.resultTypes.toList).any (Tryz.pinned.checked.prog.veiledRec ·))) = true := by kernel_rfl
theorem q31 : (Rows.fnSpaceRow.veiledFits Tryz.pinned.checked.prog Tryz.f3.params.toList (Tryz.f3.params.toList ++ Rows.fnSpaceSpec.plain.varTypes Tryz.pinned.checked.prog ++ Tryz.f3.resultTypes.toList)) = true := by kernel_rfl
set_option maxRecDepth 100000 in
theorem bq1 : joinedFacts Tryz.pinned.checked.prog 3 Tryz.f3 Rows.fnSpaceSpec Rows.fnSpaceRow = true := qp0 (qp0 (qp0 (qp0 (qp0 (qp0 (qp0 (qp0 (qp0 (qp0 (qp0 (qp0 (qp0 (qp0 (qp0 (qp0 (qp0 (qp0 (qp0 (qp0 (qp0 (qp0 (qp0 (qp0 (qp0 (qp0 (qp0 (qp0 (qp0 (qp0 (qp0 (q0) q1) q2) q3) q4) q5) q6) q7) q8) q9) q10) q11) q12) q13) q14) q15) q16) q17) q18) q19) q20) q21) q22) q23) q24) q25) q26) q27) q28) q29) q30) q31
theorem named : Tryz.pinned.checked.prog.funcNamed Rows.fnSpaceRow.func = some 3 := by kernel_rfl
theorem tj1 : Tryz.f3.isInstance Tryz.pinned.checked.prog Rows.fnSpaceRow.origin Rows.fnSpaceRow.targs := of_decide_eq_true (by kernel_rfl)
theorem wrap : Tryz.f3.isWrapper Tryz.pinned.checked.prog Rows.fnSpaceRow.wrapper Rows.fnSpaceRow.mainSum := by
 unfold Func.isWrapper; first | (rw [if_pos (by decide +kernel)]; kernel_rfl) | (rw [if_neg (by decide +kernel)]; exact ⟨rfl, rfl⟩)
theorem zc2 : Rows.fnSpaceRow.holds Tryz.pinned (OpenSpec.ofChange Rows.fnSpaceSpec) :=
 OpenClaim.holds_of_wide 3 Tryz.f3 rfl rfl rfl rfl rfl rfl rfl ⟨rfl, rfl, rfl, rfl, rfl⟩ rfl rfl rfl rfl rfl named Tryz.func3 bq1 tj1 wrap
  (fun os started H enc _ => lifted os started H enc)
theorem proved : Rows.FnSpaceSaid := zc2
end Go.Proofs.YtphclghkljeaeaaGreat.fnSpace
namespace Go.Proofs.YtphclghkljeaeaaGreat
theorem fnSpace_holds : Rows.FnSpaceSaid := fnSpace.proved
end Go.Proofs.YtphclghkljeaeaaGreat
