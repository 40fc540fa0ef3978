/- The row: FnExactAllCases. -/
import Derived.Test.YtdjleacnjijbjaaRows
import Derived.Test.YtdjleacnjijbjaaAiN5
import Derived.Test.YtdjleacnjijbjaaAiDR
import Derived.WalkKit
import Derived.ProofKit
import Derived.OpenShut
import Derived.ShutString
import Derived.ChangeOld
import Derived.Below
import Derived.SizedLaws
import Derived.ReadAgain
namespace Go.Proofs.Ytdjleacnjijbjaa.fnExactAllCases
open Go.ChangeShapes Go.WideShapes Go.ChangeAt Go.RowKit Go.Ai
open Go.ChangeMaps (open_string shut_string)
theorem own : ownKnob Try.prog.godebug = none := by kernel_rfl
set_option maxRecDepth 100000 in
theorem lifted (os : Os) (started : os.Started) (H : Type) (enc : TypeId × Value → H) :
    ReturnsInHanded {} Try.checked os 8 .any (Rows.fnExactAllCasesSpec.pre6 enc Try.prog Try.f8 Rows.fnExactAllCasesRow.domain false) (Rows.fnExactAllCasesSpec.post enc Try.prog Try.f8 false true false false) := by
  refine returnsInHanded_of_change_sized (C := Try.checked) own started (by kernel_rfl) Try.func8
    (ChangeSpec.witness6 (enc := enc) (C := Try.checked) false ⟨#[], #[.slice none 0 0, .slice none 0 0], []⟩ 8 (by kernel_rfl) (by kernel_rfl) (by kernel_rfl) (by kernel_rfl)) ?_
  intro W base args ds gs before hval0 hW hcnd hsz0 _
  have hval : ∀ (j : Nat) t v, Try.f8.params[j]? = some t → args[j]? = some v → Value.okWide Try.prog W .any base t v := hval0
  have hW' := hW
  obtain ⟨p, q, hA0, hV, rfl, hfz, hnd⟩ := hW
  have hA : DataW.TrodAll enc Try.prog W 0 (fun _ => true) true Try.f8.params.toList args.toList ds p := hA0
  rw [Try.params8] at hA hval
  have hA1 := hA
  obtain ⟨v0, vs0, d0, ds0, p0, q0, hargs, rfl, rfl, h0, r0⟩ := trodAll_cons hA
  obtain ⟨v1, vs1, d1, ds1, p1, q1, rfl, rfl, rfl, h1, r1⟩ := trodAll_cons r0
  obtain ⟨rfl, rfl, rfl⟩ := trodAll_nil r1
  obtain rfl : args = #[v0, v1] := by cases args; simp_all
  obtain ⟨rfl, rfl⟩ := trodVars_none hV
  obtain ⟨sa0, sl0, sc0, sv0⟩ := okWide_slice Try.underlying40 (hval 0 40 v0 rfl rfl)
  obtain ⟨a0, w0, e0⟩ := arg_one (v := v0) (by rw [sv0]; rfl) h0 (ec := fun (xs : List ByteArray) => C.sl (xs.map encS)) (wf := wfL wfS) (fun m cs x h => rdL (ec := encS) (wf := wfS) Try.underlying40 (show Try.prog.cellsOf 9 = 1 from by kernel_rfl) (by omega) (fun m _ cs x h => rdS3 Try.underlying9 m cs x h) h)
  obtain ⟨sa1, sl1, sc1, sv1⟩ := okWide_slice Try.underlying85 (hval 1 85 v1 rfl rfl)
  obtain ⟨a1, w1, e1⟩ := arg_one (v := v1) (by rw [sv1]; rfl) h1 (ec := fun (xs : List GGuard) => C.sl (xs.map GGuard.enc)) (wf := wfL GGuard.wf) (fun m cs x h => rdL (ec := GGuard.enc) (wf := GGuard.wf) Try.underlying85 (show Try.prog.cellsOf 152 = 9 from by kernel_rfl) (by omega) (fun m _ cs x h => rd_Guard m cs x h) h)
  refine ((lawAllCases_sat a0 a1 w0 w1).2 W (F0 W) [v0, v1] (fun b o h => h) ⟨_, _, rfl, e0, _, _, rfl, e1, rfl⟩).mono fun e W' ⟨u, F', he, bel, _, _, _, hu⟩ => ?_
  subst he
  have hu := hu.c_v
  subst hu
  exact ⟨_, rfl, _, _, _, [], _, [], hW', trodAll_mk1 (shut_bool Try.underlying4 _), DataW.TrodAll.respare kids full (of_decide_eq_true (by kernel_rfl)) (trodAll_below bel hA1) (fun p hp => decide_eq_true (DataW.TrodAll.lt hA1 p hp)), rfl, bel.frame _, fun h => by cases h⟩
theorem over : Rows.fnExactAllCasesRow.holds Try.pinned (OpenSpec.ofChange Rows.fnExactAllCasesSpec) :=
  OpenClaim.holds_of_wide 8 Try.f8 rfl rfl rfl rfl rfl rfl rfl ⟨rfl, rfl, rfl, rfl, rfl⟩ rfl rfl rfl rfl rfl (by kernel_rfl) Try.func8 (by kernel_rfl)
    (of_decide_eq_true (by kernel_rfl)) (by unfold Func.isWrapper; first | (rw [if_pos (by decide +kernel)]; kernel_rfl) | (rw [if_neg (by decide +kernel)]; exact ⟨rfl, rfl⟩))
    (fun os started H enc _ => lifted os started H enc)
theorem proved : Rows.FnExactAllCasesSaid := over
end Go.Proofs.Ytdjleacnjijbjaa.fnExactAllCases
namespace Go.Proofs.Ytdjleacnjijbjaa
theorem fnExactAllCases_holds : Rows.FnExactAllCasesSaid := fnExactAllCases.proved
end Go.Proofs.Ytdjleacnjijbjaa
