/- The row: FnConfluent. -/
import Derived.Test.YtphclghkljeaeaaGreatRows
import Derived.Test.YtphclghkljeaeaaGreatAiQL6
import Derived.Test.YtphclghkljeaeaaGreatAiQR
import Derived.WalkKit
import Derived.ProofKit
import Derived.OpenShut
import Derived.ShutString
import Derived.ChangeOld
import Derived.Below
import Derived.SizedLaws
import Derived.ReadAgain
set_option linter.unusedVariables false
set_option linter.unusedSimpArgs false
namespace Go.Proofs.YtphclghkljeaeaaGreat.fnConfluent
open Go.ChangeShapes Go.WideShapes Go.ChangeAt Go.RowKit Go.Ai
open Go.ChangeMaps (open_string shut_string)
theorem own : ownKnob Tryz.prog.godebug = none := by kernel_rfl
set_option maxRecDepth 100000 in
theorem lifted (os : Os) (started : os.Started) (H : Type) (enc : TypeId × Value → H) :
  ReturnsInHanded {} Tryz.checked os 6 .any (Rows.fnConfluentSpec.pre6 enc Tryz.prog Tryz.f6 Rows.fnConfluentRow.domain false) (Rows.fnConfluentSpec.post enc Tryz.prog Tryz.f6 false true false false) := by
 refine returnsInHanded_of_change_sized (C := Tryz.checked) own started (by kernel_rfl) Tryz.func6
  (ChangeSpec.witness6 (enc := enc) (C := Tryz.checked) false ⟨#[], #[.slice none 0 0], []⟩ 8 (by kernel_rfl) (by kernel_rfl) (by kernel_rfl) (by kernel_rfl)) ?_
 intro W base args ds gs before hval0 hW hcnd hsz0 _
 have hval : ∀ (j : Nat) t v, Tryz.f6.params[j]? = some t → args[j]? = some v → Value.okWide Tryz.prog W .any base t v := hval0
 have hW' := hW
 obtain ⟨p, q, hA0, hV, rfl, hfz, hnd⟩ := hW
 have hA : DataW.TrodAll enc Tryz.prog W 0 (fun _ => true) true Tryz.f6.params.toList args.toList ds p := hA0
 rw [Tryz.params6] at hA hval
 have hA1 := hA
 obtain ⟨v0, vs0, d0, ds0, p0, q0, hargs, rfl, rfl, h0, r0⟩ := trodAll_cons hA
 obtain ⟨rfl, rfl, rfl⟩ := trodAll_nil r0
 obtain rfl : args = #[v0] := by cases args; simp_all
 obtain ⟨rfl, rfl⟩ := trodVars_none hV
 obtain ⟨sa0, sl0, sc0, sv0⟩ := okWide_slice Tryz.underlying22 (hval 0 22 v0 rfl rfl)
 obtain ⟨a0, w0, e0⟩ := pp1 (v := v0) (by rw [sv0]; rfl) h0 (ec := fun (xs : List Int) => C.sl (xs.map xJ0)) (wf := wfL wfU) (fun m cs x h => rdL (ec := xJ0) (wf := wfU) Tryz.underlying22 (show Tryz.prog.cellsOf 5 = 1 from by kernel_rfl) (by omega) (fun m _ cs x h => zF2 Tryz.underlying5 m cs x h) h)
 refine ((ph0 a0 (fun x hx => pD1 (w0.2 x hx))).2 W (F0 W) [v0] ⟨fun b o h => h, fun b cs h => by cases h⟩ ⟨_, _, rfl, e0, rfl⟩).mono fun e W' ⟨u, F', he, bel, _, _, _, hu⟩ => ?_
 subst he
 have hu := hu.c_v
 subst hu
 exact ⟨_, rfl, _, _, _, [], _, [], hW', trodAll_mk1 (shut_bool Tryz.underlying4 _), DataW.TrodAll.respare tI1 full (of_decide_eq_true (by kernel_rfl)) (xB0 bel hA1) (fun p hp => decide_eq_true (DataW.TrodAll.lt hA1 p hp)), rfl, bel.frame _, fun h => by cases h⟩
theorem qx0 {a b : Bool} (h : a = true) (k : b = true) : (a && b) = true := by rw [h, k]; rfl
theorem q0 : (Rows.fnConfluentRow.wf (OpenSpec.ofChange Rows.fnConfluentSpec)) = true := by kernel_rfl
theorem q1 : (laidOutB Tryz.pinned.checked.prog) = true := by kernel_rfl
theorem q2 : (mapsRowed Tryz.pinned.checked.prog) = true := by kernel_rfl
theorem q3 : (Tryz.f6.params.all (Tryz.pinned.checked.prog.readableRec ·)) = true := by kernel_rfl
theorem q4 : (namedTie Tryz.pinned.checked.prog Rows.fnConfluentRow.named Rows.fnConfluentSpec.vars) = true := by kernel_rfl
theorem q5 : ((Rows.fnConfluentRow.stops == [])) = true := by kernel_rfl
theorem q6 : ((Tryz.pinned.checked.prog.stops == [])) = true := by kernel_rfl
theorem q7 : ((Rows.fnConfluentRow.knobs == [])) = true := by kernel_rfl
theorem q8 : ((Tryz.pinned.checked.prog.stopKnobs == [])) = true := by kernel_rfl
theorem q9 : ((Rows.fnConfluentRow.inPlace == Tryz.pinned.checked.prog.inPlace 6)) = true := by kernel_rfl
theorem q10 : ((Rows.fnConfluentRow.unfollowed == Tryz.pinned.checked.prog.unfollowed 6)) = true := by kernel_rfl
theorem q11 : ((Rows.fnConfluentRow.recurses == Tryz.pinned.checked.prog.recurses 6)) = true := by kernel_rfl
theorem q12 : ((Rows.fnConfluentRow.named == Tryz.pinned.checked.prog.varsNamed 6)) = true := by kernel_rfl
theorem q13 : ((Rows.fnConfluentRow.maps == (Tryz.f6.params.toList ++ Rows.fnConfluentSpec.plain.varTypes Tryz.pinned.checked.prog).any (Tryz.pinned.checked.prog.mapsRec ·))) = true := by kernel_rfl
theorem q14 : ((Rows.fnConfluentRow.ifaces == (Tryz.f6.params.toList ++ Rows.fnConfluentSpec.plain.varTypes Tryz.pinned.checked.prog).any (Tryz.pinned.checked.prog.ifacesRec ·))) = true := by kernel_rfl
theorem q15 : ((Rows.fnConfluentRow.mapsOut == Tryz.pinned.checked.prog.mapsAmong Tryz.f6.resultTypes.toList)) = true := by kernel_rfl
theorem q16 : ((Rows.fnConfluentRow.loops == (Tryz.f6.params.toList ++ Rows.fnConfluentSpec.plain.varTypes Tryz.pinned.checked.prog).any (Tryz.pinned.checked.prog.loopsFrom ·))) = true := by kernel_rfl
theorem q17 : ((Rows.fnConfluentRow.wideKeys == (Tryz.f6.params.toList ++ Rows.fnConfluentSpec.plain.varTypes Tryz.pinned.checked.prog ++ Tryz.f6.resultTypes.toList).any (Tryz.pinned.checked.prog.wideKeysFrom ·))) = true := by kernel_rfl
theorem q18 : (Rows.fnConfluentSpec.vars.all (Tryz.pinned.checked.prog.varReadable ·)) = true := by kernel_rfl
theorem q19 : (Tryz.f6.resultTypes.all (fun t => Tryz.pinned.checked.prog.readableRec t && decide (t < Tryz.pinned.checked.prog.types.size))) = true := by kernel_rfl
theorem q20 : ((Rows.fnConfluentRow.ifacesOut == Tryz.f6.resultTypes.toList.any (Tryz.pinned.checked.prog.ifacesRec ·))) = true := by kernel_rfl
theorem q21 : ((Rows.fnConfluentRow.loopsOut == Tryz.f6.resultTypes.toList.any (Tryz.pinned.checked.prog.loopsFrom ·))) = true := by kernel_rfl
theorem q22 : ((Rows.fnConfluentRow.plainKeys == Tryz.pinned.checked.prog.plainKeys)) = true := by kernel_rfl
theorem q23 : (Rows.fnConfluentRow.shortTexts.isNone) = true := by kernel_rfl
theorem q24 : (Tryz.pinned.checked.prog.stopsHeard) = true := by kernel_rfl
theorem q25 : (Tryz.pinned.checked.prog.mayEnter) = true := by kernel_rfl
theorem q26 : ((Rows.fnConfluentRow.lifted == Tryz.pinned.checked.prog.liftsFinal)) = true := by kernel_rfl
theorem q27 : ((Tryz.pinned.checked.prog.make == some Rows.fnConfluentRow.make)) = true := by kernel_rfl
theorem q28 : ((Rows.fnConfluentRow.kinds == (if Rows.fnConfluentRow.domain.isEmpty then [] else Tryz.f6.params.toList.map fun t => match Tryz.pinned.checked.prog.underlying t with | some (.int k) => some k | _ => none))) = true := by kernel_rfl
theorem q29 : ((Rows.fnConfluentRow.pinned == Rows.fnConfluentRow.pinnedBy)) = true := by kernel_rfl
theorem q30 : ((Rows.fnConfluentRow.veiled == (Tryz.f6.params.toList ++ Rows.fnConfluentSpec.plain.varTypes Tryz.pinned.checked.prog ++ Tryz.f6.resultTypes.toList).any (Tryz.pinned.checked.prog.veiledRec ·))) = true := by kernel_rfl
theorem q31 : (Rows.fnConfluentRow.veiledFits Tryz.pinned.checked.prog Tryz.f6.params.toList (Tryz.f6.params.toList ++ Rows.fnConfluentSpec.plain.varTypes Tryz.pinned.checked.prog ++ Tryz.f6.resultTypes.toList)) = true := by kernel_rfl
set_option maxRecDepth 100000 in
theorem by1 : joinedFacts Tryz.pinned.checked.prog 6 Tryz.f6 Rows.fnConfluentSpec Rows.fnConfluentRow = true := qx0 (qx0 (qx0 (qx0 (qx0 (qx0 (qx0 (qx0 (qx0 (qx0 (qx0 (qx0 (qx0 (qx0 (qx0 (qx0 (qx0 (qx0 (qx0 (qx0 (qx0 (qx0 (qx0 (qx0 (qx0 (qx0 (qx0 (qx0 (qx0 (qx0 (qx0 (q0) q1) q2) q3) q4) q5) q6) q7) q8) q9) q10) q11) q12) q13) q14) q15) q16) q17) q18) q19) q20) q21) q22) q23) q24) q25) q26) q27) q28) q29) q30) q31
theorem named : Tryz.pinned.checked.prog.funcNamed Rows.fnConfluentRow.func = some 6 := by kernel_rfl
theorem tG1 : Tryz.f6.isInstance Tryz.pinned.checked.prog Rows.fnConfluentRow.origin Rows.fnConfluentRow.targs := of_decide_eq_true (by kernel_rfl)
theorem wrap : Tryz.f6.isWrapper Tryz.pinned.checked.prog Rows.fnConfluentRow.wrapper Rows.fnConfluentRow.mainSum := by
 unfold Func.isWrapper; first | (rw [if_pos (by decide +kernel)]; kernel_rfl) | (rw [if_neg (by decide +kernel)]; exact ⟨rfl, rfl⟩)
theorem zE2 : Rows.fnConfluentRow.holds Tryz.pinned (OpenSpec.ofChange Rows.fnConfluentSpec) :=
 OpenClaim.holds_of_wide 6 Tryz.f6 rfl rfl rfl rfl rfl rfl rfl ⟨rfl, rfl, rfl, rfl, rfl⟩ rfl rfl rfl rfl rfl named Tryz.func6 by1 tG1 wrap
  (fun os started H enc _ => lifted os started H enc)
theorem proved : Rows.FnConfluentSaid := zE2
end Go.Proofs.YtphclghkljeaeaaGreat.fnConfluent
namespace Go.Proofs.YtphclghkljeaeaaGreat
theorem fnConfluent_holds : Rows.FnConfluentSaid := fnConfluent.proved
end Go.Proofs.YtphclghkljeaeaaGreat
