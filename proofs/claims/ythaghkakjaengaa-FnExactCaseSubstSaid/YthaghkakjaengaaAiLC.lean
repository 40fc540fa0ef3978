/- The row: FnExactCaseSubst. -/
import Derived.Test.YthaghkakjaengaaRows
import Derived.Test.YthaghkakjaengaaAiN3
import Derived.Test.YthaghkakjaengaaAiR1
import Derived.WalkKit
import Derived.ProofKit
import Derived.OpenShut
import Derived.ShutString
import Derived.ChangeOld
import Derived.Below
import Derived.SizedLaws
import Derived.ReadAgain
namespace Go.Proofs.Ythaghkakjaengaa.fnExactCaseSubst
open Go.ChangeShapes Go.WideShapes Go.ChangeAt Go.RowKit Go.Ai
open Go.ChangeMaps (open_string shut_string)
theorem own : ownKnob Try.prog.godebug = none := by kernel_rfl
set_option maxRecDepth 100000 in
theorem lifted (os : Os) (started : os.Started) (H : Type) (enc : TypeId × Value → H) :
    ReturnsInHanded {} Try.checked os 9 .any (Rows.fnExactCaseSubstSpec.pre6 enc Try.prog Try.f9 Rows.fnExactCaseSubstRow.domain false) (Rows.fnExactCaseSubstSpec.post enc Try.prog Try.f9 false true false false) := by
  refine returnsInHanded_of_change_sized (C := Try.checked) own started (by kernel_rfl) Try.func9
    (ChangeSpec.witness6 (enc := enc) (C := Try.checked) false ⟨#[], #[.slice none 0 0, .int .i64 0], []⟩ 8 (by kernel_rfl) (by kernel_rfl) (by kernel_rfl) (by kernel_rfl)) ?_
  intro W base args ds gs before hval0 hW hcnd hsz0 _
  have hval : ∀ (j : Nat) t v, Try.f9.params[j]? = some t → args[j]? = some v → Value.okWide Try.prog W .any base t v := hval0
  have hW' := hW
  obtain ⟨p, q, hA0, hV, rfl, hfz, hnd⟩ := hW
  have hA : DataW.TrodAll enc Try.prog W 0 (fun _ => true) true Try.f9.params.toList args.toList ds p := hA0
  rw [Try.params9] at hA hval
  have hA1 := hA
  obtain ⟨v0, vs0, d0, ds0, p0, q0, hargs, rfl, rfl, h0, r0⟩ := trodAll_cons hA
  obtain ⟨v1, vs1, d1, ds1, p1, q1, rfl, rfl, rfl, h1, r1⟩ := trodAll_cons r0
  obtain ⟨rfl, rfl, rfl⟩ := trodAll_nil r1
  obtain rfl : args = #[v0, v1] := by cases args; simp_all
  obtain ⟨rfl, rfl⟩ := trodVars_none hV
  obtain ⟨sa0, sl0, sc0, sv0⟩ := okWide_slice Try.underlying53 (hval 0 53 v0 rfl rfl)
  obtain ⟨a0, w0, e0⟩ := arg_one (v := v0) (by rw [sv0]; rfl) h0 (ec := fun (xs : List ByteArray) => C.sl (xs.map encS)) (wf := wfL wfS) (fun m cs x h => rdL (ec := encS) (wf := wfS) Try.underlying53 (show Try.prog.cellsOf 9 = 1 from by kernel_rfl) (by omega) (fun m _ cs x h => rdS3 Try.underlying9 m cs x h) h)
  obtain ⟨sn1, sv1⟩ := okWide_int Try.underlying3 (hval 1 3 v1 rfl rfl)
  obtain ⟨a1, w1, e1⟩ := arg_one (v := v1) (by rw [sv1]; rfl) h1 (ec := fun (n : Int) => C.v (.int .i64 n)) (wf := wfI) (fun m cs x h => rdI Try.underlying3 m cs x h)
  refine ((lawCaseSubst_sat a0 a1 w0 w1).2 W (F0 W) [v0, v1] (fun b o h => h) ⟨_, _, rfl, e0, _, _, rfl, e1, rfl⟩).mono fun e W' ⟨u, F', he, bel, _, _, _, hu⟩ => ?_
  subst he
  have hu := hu.c_v
  subst hu
  exact ⟨_, rfl, _, _, _, [], _, [], hW', trodAll_mk1 (shut_bool Try.underlying4 _), DataW.TrodAll.respare kids full (of_decide_eq_true (by kernel_rfl)) (trodAll_below bel hA1) (fun p hp => decide_eq_true (DataW.TrodAll.lt hA1 p hp)), rfl, bel.frame _, fun h => by cases h⟩
theorem over : Rows.fnExactCaseSubstRow.holds Try.pinned (OpenSpec.ofChange Rows.fnExactCaseSubstSpec) :=
  OpenClaim.holds_of_wide 9 Try.f9 rfl rfl rfl rfl rfl rfl rfl ⟨rfl, rfl, rfl, rfl, rfl⟩ rfl rfl rfl rfl rfl (by kernel_rfl) Try.func9 (by kernel_rfl)
    (of_decide_eq_true (by kernel_rfl)) (by unfold Func.isWrapper; first | (rw [if_pos (by decide +kernel)]; kernel_rfl) | (rw [if_neg (by decide +kernel)]; exact ⟨rfl, rfl⟩))
    (fun os started H enc _ => lifted os started H enc)
theorem proved : Rows.FnExactCaseSubstSaid := over
end Go.Proofs.Ythaghkakjaengaa.fnExactCaseSubst
namespace Go.Proofs.Ythaghkakjaengaa
theorem fnExactCaseSubst_holds : Rows.FnExactCaseSubstSaid := fnExactCaseSubst.proved
end Go.Proofs.Ythaghkakjaengaa
