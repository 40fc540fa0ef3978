/- The row: FnExactReplayTrace. -/
import Derived.Test.YtofbieojmaobfaaGreatRows
import Derived.Test.YtofbieojmaobfaaGreatAiRT3
import Derived.Test.YtofbieojmaobfaaGreatAiRTR
import Derived.WalkKit
import Derived.ProofKit
import Derived.OpenShut
import Derived.ShutString
import Derived.ChangeOld
import Derived.Below
import Derived.SizedLaws
import Derived.ReadAgain
set_option linter.unusedVariables false
set_option linter.unusedSimpArgs false
namespace Go.Proofs.YtofbieojmaobfaaGreat.fnExactReplayTrace
open Go.ChangeShapes Go.WideShapes Go.ChangeAt Go.RowKit Go.Ai
open Go.ChangeMaps (open_string shut_string)
theorem own : ownKnob Tryz.prog.godebug = none := by kernel_rfl
set_option maxRecDepth 100000 in
theorem lifted (os : Os) (started : os.Started) (H : Type) (enc : TypeId × Value → H) :
  ReturnsInHanded {} Tryz.checked os 5 .any (Rows.fnExactReplayTraceSpec.pre6 enc Tryz.prog Tryz.f5 Rows.fnExactReplayTraceRow.domain false) (Rows.fnExactReplayTraceSpec.post enc Tryz.prog Tryz.f5 false true false false) := by
 refine returnsInHanded_of_change_sized (C := Tryz.checked) own started (by kernel_rfl) Tryz.func5
  (ChangeSpec.witness6 (enc := enc) (C := Tryz.checked) false ⟨#[], #[.agg #[.slice none 0 0, .slice none 0 0, .slice none 0 0, .slice none 0 0], .agg #[.int .i64 0, .int .i64 0, .string ⟨#[]⟩, .slice none 0 0], .slice none 0 0], []⟩ 8 (by kernel_rfl) (by kernel_rfl) (by kernel_rfl) (by kernel_rfl)) ?_
 intro W base args ds gs before hval0 hW hcnd hsz0 _
 have hval : ∀ (j : Nat) t v, Tryz.f5.params[j]? = some t → args[j]? = some v → Value.okWide Tryz.prog W .any base t v := hval0
 have hW' := hW
 obtain ⟨p, q, hA0, hV, rfl, hfz, hnd⟩ := hW
 have hA : DataW.TrodAll enc Tryz.prog W 0 (fun _ => true) true Tryz.f5.params.toList args.toList ds p := hA0
 rw [Tryz.params5] at hA hval
 have hA1 := hA
 obtain ⟨v0, vs0, d0, ds0, p0, q0, hargs, rfl, rfl, h0, r0⟩ := trodAll_cons hA
 obtain ⟨v1, vs1, d1, ds1, p1, q1, rfl, rfl, rfl, h1, r1⟩ := trodAll_cons r0
 obtain ⟨v2, vs2, d2, ds2, p2, q2, rfl, rfl, rfl, h2, r2⟩ := trodAll_cons r1
 obtain ⟨rfl, rfl, rfl⟩ := trodAll_nil r2
 obtain rfl : args = #[v0, v1, v2] := by cases args; simp_all
 obtain ⟨rfl, rfl⟩ := trodVars_none hV
 obtain ⟨a0, w0, e0⟩ := arg_struct Tryz.underlying29 (hval 0 29 v0 rfl rfl) h0 (ec := GDefinition.enc) (wf := GDefinition.wf) (fun m cs x h => rdN (rd_Definition m cs x h))
 obtain ⟨a1, w1, e1⟩ := arg_struct Tryz.underlying60 (hval 1 60 v1 rfl rfl) h1 (ec := Tm.enc) (wf := Tm.wf) (fun m cs x h => rdN (rd_tm m cs x h))
 obtain ⟨sa2, sl2, sc2, sv2⟩ := okWide_slice Tryz.underlying61 (hval 2 61 v2 rfl rfl)
 obtain ⟨a2, w2, e2⟩ := arg_one (v := v2) (by rw [sv2]; rfl) h2 (ec := fun (xs : List GRedex) => C.sl (xs.map GRedex.enc)) (wf := wfL GRedex.wf) (fun m cs x h => rdL (ec := GRedex.enc) (wf := GRedex.wf) Tryz.underlying61 (show Tryz.prog.cellsOf 116 = 2 from by kernel_rfl) (by omega) (fun m _ cs x h => rd_Redex m cs x h) h)
 refine ((lawReplayTrace_sat a0 a1 a2 w0 w1 w2).2 W (F0 W) [v0, v1, v2] ⟨fun b o h => h, fun b cs h => by cases h⟩ ⟨_, _, rfl, e0, _, _, rfl, e1, _, _, rfl, e2, rfl⟩).mono fun e W' ⟨u, F', he, bel, _, _, _, hu⟩ => ?_
 subst he
 have hu := hu.c_v
 subst hu
 exact ⟨_, rfl, _, _, _, [], _, [], hW', trodAll_mk1 (shut_bool Tryz.underlying4 _), DataW.TrodAll.respare kids full (of_decide_eq_true (by kernel_rfl)) (trodAll_below bel hA1) (fun p hp => decide_eq_true (DataW.TrodAll.lt hA1 p hp)), rfl, bel.frame _, fun h => by cases h⟩
theorem and_t {a b : Bool} (h : a = true) (k : b = true) : (a && b) = true := by rw [h, k]; rfl
theorem q0 : (Rows.fnExactReplayTraceRow.wf (OpenSpec.ofChange Rows.fnExactReplayTraceSpec)) = true := by kernel_rfl
theorem q1 : (laidOutB Tryz.pinned.checked.prog) = true := by kernel_rfl
theorem q2 : (mapsRowed Tryz.pinned.checked.prog) = true := by kernel_rfl
theorem q3 : (Tryz.f5.params.all (Tryz.pinned.checked.prog.readableRec ·)) = true := by kernel_rfl
theorem q4 : (namedTie Tryz.pinned.checked.prog Rows.fnExactReplayTraceRow.named Rows.fnExactReplayTraceSpec.vars) = true := by kernel_rfl
theorem q5 : ((Rows.fnExactReplayTraceRow.stops == [])) = true := by kernel_rfl
theorem q6 : ((Tryz.pinned.checked.prog.stops == [])) = true := by kernel_rfl
theorem q7 : ((Rows.fnExactReplayTraceRow.knobs == [])) = true := by kernel_rfl
theorem q8 : ((Tryz.pinned.checked.prog.stopKnobs == [])) = true := by kernel_rfl
theorem q9 : ((Rows.fnExactReplayTraceRow.inPlace == Tryz.pinned.checked.prog.inPlace 5)) = true := by kernel_rfl
theorem q10 : ((Rows.fnExactReplayTraceRow.unfollowed == Tryz.pinned.checked.prog.unfollowed 5)) = true := by kernel_rfl
theorem q11 : ((Rows.fnExactReplayTraceRow.recurses == Tryz.pinned.checked.prog.recurses 5)) = true := by kernel_rfl
theorem q12 : ((Rows.fnExactReplayTraceRow.named == Tryz.pinned.checked.prog.varsNamed 5)) = true := by kernel_rfl
theorem q13 : ((Rows.fnExactReplayTraceRow.maps == (Tryz.f5.params.toList ++ Rows.fnExactReplayTraceSpec.plain.varTypes Tryz.pinned.checked.prog).any (Tryz.pinned.checked.prog.mapsRec ·))) = true := by kernel_rfl
theorem q14 : ((Rows.fnExactReplayTraceRow.ifaces == (Tryz.f5.params.toList ++ Rows.fnExactReplayTraceSpec.plain.varTypes Tryz.pinned.checked.prog).any (Tryz.pinned.checked.prog.ifacesRec ·))) = true := by kernel_rfl
theorem q15 : ((Rows.fnExactReplayTraceRow.mapsOut == Tryz.pinned.checked.prog.mapsAmong Tryz.f5.resultTypes.toList)) = true := by kernel_rfl
theorem q16 : ((Rows.fnExactReplayTraceRow.loops == (Tryz.f5.params.toList ++ Rows.fnExactReplayTraceSpec.plain.varTypes Tryz.pinned.checked.prog).any (Tryz.pinned.checked.prog.loopsFrom ·))) = true := by kernel_rfl
theorem q17 : ((Rows.fnExactReplayTraceRow.wideKeys == (Tryz.f5.params.toList ++ Rows.fnExactReplayTraceSpec.plain.varTypes Tryz.pinned.checked.prog ++ Tryz.f5.resultTypes.toList).any (Tryz.pinned.checked.prog.wideKeysFrom ·))) = true := by kernel_rfl
theorem q18 : (Rows.fnExactReplayTraceSpec.vars.all (Tryz.pinned.checked.prog.varReadable ·)) = true := by kernel_rfl
theorem q19 : (Tryz.f5.resultTypes.all (fun t => Tryz.pinned.checked.prog.readableRec t && decide (t < Tryz.pinned.checked.prog.types.size))) = true := by kernel_rfl
theorem q20 : ((Rows.fnExactReplayTraceRow.ifacesOut == Tryz.f5.resultTypes.toList.any (Tryz.pinned.checked.prog.ifacesRec ·))) = true := by kernel_rfl
theorem q21 : ((Rows.fnExactReplayTraceRow.loopsOut == Tryz.f5.resultTypes.toList.any (Tryz.pinned.checked.prog.loopsFrom ·))) = true := by kernel_rfl
theorem q22 : ((Rows.fnExactReplayTraceRow.plainKeys == Tryz.pinned.checked.prog.plainKeys)) = true := by kernel_rfl
theorem q23 : (Rows.fnExactReplayTraceRow.shortTexts.isNone) = true := by kernel_rfl
theorem q24 : (Tryz.pinned.checked.prog.stopsHeard) = true := by kernel_rfl
theorem q25 : (Tryz.pinned.checked.prog.mayEnter) = true := by kernel_rfl
theorem q26 : ((Rows.fnExactReplayTraceRow.lifted == Tryz.pinned.checked.prog.liftsFinal)) = true := by kernel_rfl
theorem q27 : ((Tryz.pinned.checked.prog.make == some Rows.fnExactReplayTraceRow.make)) = true := by kernel_rfl
theorem q28 : ((Rows.fnExactReplayTraceRow.kinds == (if Rows.fnExactReplayTraceRow.domain.isEmpty then [] else Tryz.f5.params.toList.map fun t => match Tryz.pinned.checked.prog.underlying t with | some (.int k) => some k | _ => none))) = true := by kernel_rfl
theorem q29 : ((Rows.fnExactReplayTraceRow.pinned == Rows.fnExactReplayTraceRow.pinnedBy)) = true := by kernel_rfl
theorem q30 : ((Rows.fnExactReplayTraceRow.veiled == (Tryz.f5.params.toList ++ Rows.fnExactReplayTraceSpec.plain.varTypes Tryz.pinned.checked.prog ++ Tryz.f5.resultTypes.toList).any (Tryz.pinned.checked.prog.veiledRec ·))) = true := by kernel_rfl
theorem q31 : (Rows.fnExactReplayTraceRow.veiledFits Tryz.pinned.checked.prog Tryz.f5.params.toList (Tryz.f5.params.toList ++ Rows.fnExactReplayTraceSpec.plain.varTypes Tryz.pinned.checked.prog ++ Tryz.f5.resultTypes.toList)) = true := by kernel_rfl
set_option maxRecDepth 100000 in
theorem closed : joinedFacts Tryz.pinned.checked.prog 5 Tryz.f5 Rows.fnExactReplayTraceSpec Rows.fnExactReplayTraceRow = true := and_t (and_t (and_t (and_t (and_t (and_t (and_t (and_t (and_t (and_t (and_t (and_t (and_t (and_t (and_t (and_t (and_t (and_t (and_t (and_t (and_t (and_t (and_t (and_t (and_t (and_t (and_t (and_t (and_t (and_t (and_t (q0) q1) q2) q3) q4) q5) q6) q7) q8) q9) q10) q11) q12) q13) q14) q15) q16) q17) q18) q19) q20) q21) q22) q23) q24) q25) q26) q27) q28) q29) q30) q31
theorem named : Tryz.pinned.checked.prog.funcNamed Rows.fnExactReplayTraceRow.func = some 5 := by kernel_rfl
theorem inst : Tryz.f5.isInstance Tryz.pinned.checked.prog Rows.fnExactReplayTraceRow.origin Rows.fnExactReplayTraceRow.targs := of_decide_eq_true (by kernel_rfl)
theorem wrap : Tryz.f5.isWrapper Tryz.pinned.checked.prog Rows.fnExactReplayTraceRow.wrapper Rows.fnExactReplayTraceRow.mainSum := by
 unfold Func.isWrapper; first | (rw [if_pos (by decide +kernel)]; kernel_rfl) | (rw [if_neg (by decide +kernel)]; exact ⟨rfl, rfl⟩)
theorem over : Rows.fnExactReplayTraceRow.holds Tryz.pinned (OpenSpec.ofChange Rows.fnExactReplayTraceSpec) :=
 OpenClaim.holds_of_wide 5 Tryz.f5 rfl rfl rfl rfl rfl rfl rfl ⟨rfl, rfl, rfl, rfl, rfl⟩ rfl rfl rfl rfl rfl named Tryz.func5 closed inst wrap
  (fun os started H enc _ => lifted os started H enc)
theorem proved : Rows.FnExactReplayTraceSaid := over
end Go.Proofs.YtofbieojmaobfaaGreat.fnExactReplayTrace
namespace Go.Proofs.YtofbieojmaobfaaGreat
theorem fnExactReplayTrace_holds : Rows.FnExactReplayTraceSaid := fnExactReplayTrace.proved
end Go.Proofs.YtofbieojmaobfaaGreat
