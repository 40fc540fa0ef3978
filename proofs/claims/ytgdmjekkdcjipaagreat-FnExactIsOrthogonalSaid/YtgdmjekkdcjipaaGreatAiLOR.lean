/- The row: FnExactIsOrthogonal. -/
import Derived.Test.YtgdmjekkdcjipaaGreatRows
import Derived.Test.YtgdmjekkdcjipaaGreatAiUNG
import Derived.Test.YtgdmjekkdcjipaaGreatAiDR
import Derived.WalkKit
import Derived.ProofKit
import Derived.OpenShut
import Derived.ShutString
import Derived.ChangeOld
import Derived.Below
import Derived.SizedLaws
import Derived.ReadAgain
set_option linter.unusedVariables false
set_option linter.unusedSimpArgs false
namespace Go.Proofs.YtgdmjekkdcjipaaGreat.fnExactIsOrthogonal
open Go.ChangeShapes Go.WideShapes Go.ChangeAt Go.RowKit Go.Ai
open Go.ChangeMaps (open_string shut_string)
theorem own : ownKnob Tryz.prog.godebug = none := by kernel_rfl
set_option maxRecDepth 100000 in
theorem lifted (os : Os) (started : os.Started) (H : Type) (enc : TypeId × Value → H) :
  ReturnsInHanded {} Tryz.checked os 5 .any (Rows.fnExactIsOrthogonalSpec.pre6 enc Tryz.prog Tryz.f5 Rows.fnExactIsOrthogonalRow.domain false) (Rows.fnExactIsOrthogonalSpec.post enc Tryz.prog Tryz.f5 false true false false) := by
 refine returnsInHanded_of_change_sized (C := Tryz.checked) own started (by kernel_rfl) Tryz.func5
  (ChangeSpec.witness6 (enc := enc) (C := Tryz.checked) false ⟨#[], #[.agg #[.slice none 0 0, .slice none 0 0, .slice none 0 0, .slice none 0 0]], []⟩ 8 (by kernel_rfl) (by kernel_rfl) (by kernel_rfl) (by kernel_rfl)) ?_
 intro W base args ds gs before hval0 hW hcnd hsz0 _
 have hval : ∀ (j : Nat) t v, Tryz.f5.params[j]? = some t → args[j]? = some v → Value.okWide Tryz.prog W .any base t v := hval0
 have hW' := hW
 obtain ⟨p, q, hA0, hV, rfl, hfz, hnd⟩ := hW
 have hA : DataW.TrodAll enc Tryz.prog W 0 (fun _ => true) true Tryz.f5.params.toList args.toList ds p := hA0
 rw [Tryz.params5] at hA hval
 have hA1 := hA
 obtain ⟨v0, vs0, d0, ds0, p0, q0, hargs, rfl, rfl, h0, r0⟩ := trodAll_cons hA
 obtain ⟨rfl, rfl, rfl⟩ := trodAll_nil r0
 obtain rfl : args = #[v0] := by cases args; simp_all
 obtain ⟨rfl, rfl⟩ := trodVars_none hV
 obtain ⟨a0, w0, e0⟩ := rn0 Tryz.underlying62 (hval 0 62 v0 rfl rfl) h0 (ec := GDefinition.enc) (wf := GDefinition.wf) (fun m cs x h => rdN (cM0 m cs x h))
 refine ((kB0 a0 w0).2 W (F0 W) [v0] ⟨fun b o h => h, fun b cs h => by cases h⟩ ⟨_, _, rfl, e0, rfl⟩).mono fun e W' ⟨u, F', he, bel, _, _, _, hu⟩ => ?_
 subst he
 have hu := hu.c_v
 subst hu
 exact ⟨_, rfl, _, _, _, [], _, [], hW', trodAll_mk1 (shut_bool Tryz.underlying4 _), DataW.TrodAll.respare dy1 dw1 (of_decide_eq_true (by kernel_rfl)) (vA0 bel hA1) (fun p hp => decide_eq_true (DataW.TrodAll.lt hA1 p hp)), rfl, bel.frame _, fun h => by cases h⟩
theorem qQ0 {a b : Bool} (h : a = true) (k : b = true) : (a && b) = true := by rw [h, k]; rfl
theorem q0 : (Rows.fnExactIsOrthogonalRow.wf (OpenSpec.ofChange Rows.fnExactIsOrthogonalSpec)) = true := by kernel_rfl
theorem q1 : (laidOutB Tryz.pinned.checked.prog) = true := by kernel_rfl
theorem q2 : (mapsRowed Tryz.pinned.checked.prog) = true := by kernel_rfl
theorem q3 : (Tryz.f5.params.all (Tryz.pinned.checked.prog.readableRec ·)) = true := by kernel_rfl
theorem q4 : (namedTie Tryz.pinned.checked.prog Rows.fnExactIsOrthogonalRow.named Rows.fnExactIsOrthogonalSpec.vars) = true := by kernel_rfl
theorem q5 : ((Rows.fnExactIsOrthogonalRow.stops == [])) = true := by kernel_rfl
theorem q6 : ((Tryz.pinned.checked.prog.stops == [])) = true := by kernel_rfl
theorem q7 : ((Rows.fnExactIsOrthogonalRow.knobs == [])) = true := by kernel_rfl
theorem q8 : ((Tryz.pinned.checked.prog.stopKnobs == [])) = true := by kernel_rfl
theorem q9 : ((Rows.fnExactIsOrthogonalRow.inPlace == Tryz.pinned.checked.prog.inPlace 5)) = true := by kernel_rfl
theorem q10 : ((Rows.fnExactIsOrthogonalRow.unfollowed == Tryz.pinned.checked.prog.unfollowed 5)) = true := by kernel_rfl
theorem q11 : ((Rows.fnExactIsOrthogonalRow.recurses == Tryz.pinned.checked.prog.recurses 5)) = true := by kernel_rfl
theorem q12 : ((Rows.fnExactIsOrthogonalRow.named == Tryz.pinned.checked.prog.varsNamed 5)) = true := by kernel_rfl
theorem q13 : ((Rows.fnExactIsOrthogonalRow.maps == (Tryz.f5.params.toList ++ Rows.fnExactIsOrthogonalSpec.plain.varTypes Tryz.pinned.checked.prog).any (Tryz.pinned.checked.prog.mapsRec ·))) = true := by kernel_rfl
theorem q14 : ((Rows.fnExactIsOrthogonalRow.ifaces == (Tryz.f5.params.toList ++ Rows.fnExactIsOrthogonalSpec.plain.varTypes Tryz.pinned.checked.prog).any (Tryz.pinned.checked.prog.ifacesRec ·))) = true := by kernel_rfl
theorem q15 : ((Rows.fnExactIsOrthogonalRow.mapsOut == Tryz.pinned.checked.prog.mapsAmong Tryz.f5.resultTypes.toList)) = true := by kernel_rfl
theorem q16 : ((Rows.fnExactIsOrthogonalRow.loops == (Tryz.f5.params.toList ++ Rows.fnExactIsOrthogonalSpec.plain.varTypes Tryz.pinned.checked.prog).any (Tryz.pinned.checked.prog.loopsFrom ·))) = true := by kernel_rfl
theorem q17 : ((Rows.fnExactIsOrthogonalRow.wideKeys == (Tryz.f5.params.toList ++ Rows.fnExactIsOrthogonalSpec.plain.varTypes Tryz.pinned.checked.prog ++ Tryz.f5.resultTypes.toList).any (Tryz.pinned.checked.prog.wideKeysFrom ·))) = true := by kernel_rfl
theorem q18 : (Rows.fnExactIsOrthogonalSpec.vars.all (Tryz.pinned.checked.prog.varReadable ·)) = true := by kernel_rfl
theorem q19 : (Tryz.f5.resultTypes.all (fun t => Tryz.pinned.checked.prog.readableRec t && decide (t < Tryz.pinned.checked.prog.types.size))) = true := by kernel_rfl
theorem q20 : ((Rows.fnExactIsOrthogonalRow.ifacesOut == Tryz.f5.resultTypes.toList.any (Tryz.pinned.checked.prog.ifacesRec ·))) = true := by kernel_rfl
theorem q21 : ((Rows.fnExactIsOrthogonalRow.loopsOut == Tryz.f5.resultTypes.toList.any (Tryz.pinned.checked.prog.loopsFrom ·))) = true := by kernel_rfl
theorem q22 : ((Rows.fnExactIsOrthogonalRow.plainKeys == Tryz.pinned.checked.prog.plainKeys)) = true := by kernel_rfl
theorem q23 : (Rows.fnExactIsOrthogonalRow.shortTexts.isNone) = true := by kernel_rfl
theorem q24 : (Tryz.pinned.checked.prog.stopsHeard) = true := by kernel_rfl
theorem q25 : (Tryz.pinned.checked.prog.mayEnter) = true := by kernel_rfl
theorem q26 : ((Rows.fnExactIsOrthogonalRow.lifted == Tryz.pinned.checked.prog.liftsFinal)) = true := by kernel_rfl
theorem q27 : ((Tryz.pinned.checked.prog.make == some Rows.fnExactIsOrthogonalRow.make)) = true := by kernel_rfl
theorem q28 : ((Rows.fnExactIsOrthogonalRow.kinds == (if Rows.fnExactIsOrthogonalRow.domain.isEmpty then [] else Tryz.f5.params.toList.map fun t => match Tryz.pinned.checked.prog.underlying t with | some (.int k) => some k | _ => none))) = true := by kernel_rfl
theorem q29 : ((Rows.fnExactIsOrthogonalRow.pinned == Rows.fnExactIsOrthogonalRow.pinnedBy)) = true := by kernel_rfl
theorem q30 : ((Rows.fnExactIsOrthogonalRow.veiled == (Tryz.f5.params.toList ++ Rows.fnExactIsOrthogonalSpec.plain.varTypes Tryz.pinned.checked.prog ++ Tryz.f5.resultTypes.toList).any (Tryz.pinned.checked.prog.veiledRec ·))) = true := by kernel_rfl
theorem q31 : (Rows.fnExactIsOrthogonalRow.veiledFits Tryz.pinned.checked.prog Tryz.f5.params.toList (Tryz.f5.params.toList ++ Rows.fnExactIsOrthogonalSpec.plain.varTypes Tryz.pinned.checked.prog ++ Tryz.f5.resultTypes.toList)) = true := by kernel_rfl
set_option maxRecDepth 100000 in
theorem vb1 : joinedFacts Tryz.pinned.checked.prog 5 Tryz.f5 Rows.fnExactIsOrthogonalSpec Rows.fnExactIsOrthogonalRow = true := qQ0 (qQ0 (qQ0 (qQ0 (qQ0 (qQ0 (qQ0 (qQ0 (qQ0 (qQ0 (qQ0 (qQ0 (qQ0 (qQ0 (qQ0 (qQ0 (qQ0 (qQ0 (qQ0 (qQ0 (qQ0 (qQ0 (qQ0 (qQ0 (qQ0 (qQ0 (qQ0 (qQ0 (qQ0 (qQ0 (qQ0 (q0) q1) q2) q3) q4) q5) q6) q7) q8) q9) q10) q11) q12) q13) q14) q15) q16) q17) q18) q19) q20) q21) q22) q23) q24) q25) q26) q27) q28) q29) q30) q31
theorem named : Tryz.pinned.checked.prog.funcNamed Rows.fnExactIsOrthogonalRow.func = some 5 := by kernel_rfl
theorem dx1 : Tryz.f5.isInstance Tryz.pinned.checked.prog Rows.fnExactIsOrthogonalRow.origin Rows.fnExactIsOrthogonalRow.targs := of_decide_eq_true (by kernel_rfl)
theorem wrap : Tryz.f5.isWrapper Tryz.pinned.checked.prog Rows.fnExactIsOrthogonalRow.wrapper Rows.fnExactIsOrthogonalRow.mainSum := by
 unfold Func.isWrapper; first | (rw [if_pos (by decide +kernel)]; kernel_rfl) | (rw [if_neg (by decide +kernel)]; exact ⟨rfl, rfl⟩)
theorem lD1 : Rows.fnExactIsOrthogonalRow.holds Tryz.pinned (OpenSpec.ofChange Rows.fnExactIsOrthogonalSpec) :=
 OpenClaim.holds_of_wide 5 Tryz.f5 rfl rfl rfl rfl rfl rfl rfl ⟨rfl, rfl, rfl, rfl, rfl⟩ rfl rfl rfl rfl rfl named Tryz.func5 vb1 dx1 wrap
  (fun os started H enc _ => lifted os started H enc)
theorem proved : Rows.FnExactIsOrthogonalSaid := lD1
end Go.Proofs.YtgdmjekkdcjipaaGreat.fnExactIsOrthogonal
namespace Go.Proofs.YtgdmjekkdcjipaaGreat
theorem fnExactIsOrthogonal_holds : Rows.FnExactIsOrthogonalSaid := fnExactIsOrthogonal.proved
end Go.Proofs.YtgdmjekkdcjipaaGreat
