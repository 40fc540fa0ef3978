/- The row: FnExactIsStrictPosition. -/
import Derived.Test.YtdjleacnjijbjaaRows
import Derived.Test.YtdjleacnjijbjaaAiE3
import Derived.Test.YtdjleacnjijbjaaAiDR
import Derived.WalkKit
import Derived.ProofKit
import Derived.OpenShut
import Derived.ShutString
import Derived.ChangeOld
import Derived.Below
import Derived.SizedLaws
import Derived.ReadAgain
namespace Go.Proofs.Ytdjleacnjijbjaa.fnExactIsStrictPosition
open Go.ChangeShapes Go.WideShapes Go.ChangeAt Go.RowKit Go.Ai
open Go.ChangeMaps (open_string shut_string)
theorem own : ownKnob Try.prog.godebug = none := by kernel_rfl
set_option maxRecDepth 100000 in
theorem lifted (os : Os) (started : os.Started) (H : Type) (enc : TypeId × Value → H) :
    ReturnsInHanded {} Try.checked os 6 .any (Rows.fnExactIsStrictPositionSpec.pre6 enc Try.prog Try.f6 Rows.fnExactIsStrictPositionRow.domain false) (Rows.fnExactIsStrictPositionSpec.post enc Try.prog Try.f6 false true false false) := by
  refine returnsInHanded_of_change_sized (C := Try.checked) own started (by kernel_rfl) Try.func6
    (ChangeSpec.witness6 (enc := enc) (C := Try.checked) false ⟨#[], #[.agg #[.slice none 0 0, .slice none 0 0, .slice none 0 0, .slice none 0 0], .agg #[.int .i64 0, .int .i64 0, .string ⟨#[]⟩, .slice none 0 0], .slice none 0 0], []⟩ 8 (by kernel_rfl) (by kernel_rfl) (by kernel_rfl) (by kernel_rfl)) ?_
  intro W base args ds gs before hval0 hW hcnd hsz0 _
  have hval : ∀ (j : Nat) t v, Try.f6.params[j]? = some t → args[j]? = some v → Value.okWide Try.prog W .any base t v := hval0
  have hW' := hW
  obtain ⟨p, q, hA0, hV, rfl, hfz, hnd⟩ := hW
  have hA : DataW.TrodAll enc Try.prog W 0 (fun _ => true) true Try.f6.params.toList args.toList ds p := hA0
  rw [Try.params6] at hA hval
  have hA1 := hA
  obtain ⟨v0, vs0, d0, ds0, p0, q0, hargs, rfl, rfl, h0, r0⟩ := trodAll_cons hA
  obtain ⟨v1, vs1, d1, ds1, p1, q1, rfl, rfl, rfl, h1, r1⟩ := trodAll_cons r0
  obtain ⟨v2, vs2, d2, ds2, p2, q2, rfl, rfl, rfl, h2, r2⟩ := trodAll_cons r1
  obtain ⟨rfl, rfl, rfl⟩ := trodAll_nil r2
  obtain rfl : args = #[v0, v1, v2] := by cases args; simp_all
  obtain ⟨rfl, rfl⟩ := trodVars_none hV
  obtain ⟨a0, w0, e0⟩ := arg_struct Try.underlying69 (hval 0 69 v0 rfl rfl) h0 (ec := GDefinition.enc) (wf := GDefinition.wf) (fun m cs x h => rdN (rd_Definition m cs x h))
  obtain ⟨a1, w1, e1⟩ := arg_struct Try.underlying42 (hval 1 42 v1 rfl rfl) h1 (ec := Tm.enc) (wf := Tm.wf) (fun m cs x h => rdN (rd_tm m cs x h))
  obtain ⟨sa2, sl2, sc2, sv2⟩ := okWide_slice Try.underlying43 (hval 2 43 v2 rfl rfl)
  obtain ⟨a2, w2, e2⟩ := arg_one (v := v2) (by rw [sv2]; rfl) h2 (ec := fun (xs : List Int) => C.sl (xs.map encI)) (wf := wfL wfI) (fun m cs x h => rdL (ec := encI) (wf := wfI) Try.underlying43 (show Try.prog.cellsOf 3 = 1 from by kernel_rfl) (by omega) (fun m _ cs x h => rdI3 Try.underlying3 m cs x h) h)
  refine ((lawIsSP_sat a0 a1 a2 w0 w1 w2).2 W (F0 W) [v0, v1, v2] (fun b o h => h) ⟨_, _, rfl, e0, _, _, rfl, e1, _, _, rfl, e2, rfl⟩).mono fun e W' ⟨u, F', he, bel, _, _, _, hu⟩ => ?_
  subst he
  have hu := hu.c_v
  subst hu
  exact ⟨_, rfl, _, _, _, [], _, [], hW', trodAll_mk1 (shut_bool Try.underlying4 _), DataW.TrodAll.respare kids full (of_decide_eq_true (by kernel_rfl)) (trodAll_below bel hA1) (fun p hp => decide_eq_true (DataW.TrodAll.lt hA1 p hp)), rfl, bel.frame _, fun h => by cases h⟩
theorem over : Rows.fnExactIsStrictPositionRow.holds Try.pinned (OpenSpec.ofChange Rows.fnExactIsStrictPositionSpec) :=
  OpenClaim.holds_of_wide 6 Try.f6 rfl rfl rfl rfl rfl rfl rfl ⟨rfl, rfl, rfl, rfl, rfl⟩ rfl rfl rfl rfl rfl (by kernel_rfl) Try.func6 (by kernel_rfl)
    (of_decide_eq_true (by kernel_rfl)) (by unfold Func.isWrapper; first | (rw [if_pos (by decide +kernel)]; kernel_rfl) | (rw [if_neg (by decide +kernel)]; exact ⟨rfl, rfl⟩))
    (fun os started H enc _ => lifted os started H enc)
theorem proved : Rows.FnExactIsStrictPositionSaid := over
end Go.Proofs.Ytdjleacnjijbjaa.fnExactIsStrictPosition
namespace Go.Proofs.Ytdjleacnjijbjaa
theorem fnExactIsStrictPosition_holds : Rows.FnExactIsStrictPositionSaid := fnExactIsStrictPosition.proved
end Go.Proofs.Ytdjleacnjijbjaa
