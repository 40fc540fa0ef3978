/- The row: FnExactIsSymbolic. -/
import Derived.Test.YtdjhdjffbmgmnaaGreatRows
import Derived.Test.YtdjhdjffbmgmnaaGreatAiU12
import Derived.Test.YtdjhdjffbmgmnaaGreatAiDR
import Derived.Test.YtdjhdjffbmgmnaaGreatAiR5
import Derived.WalkKit
import Derived.ProofKit
import Derived.OpenShut
import Derived.ShutString
import Derived.ChangeOld
import Derived.Below
import Derived.SizedLaws
import Derived.ReadAgain
namespace Go.Proofs.YtdjhdjffbmgmnaaGreat.fnExactIsSymbolic
open Go.ChangeShapes Go.WideShapes Go.ChangeAt Go.RowKit Go.Ai
open Go.ChangeMaps (open_string shut_string)
theorem own : ownKnob Tryz.prog.godebug = none := by kernel_rfl
set_option maxRecDepth 100000 in
theorem lifted (os : Os) (started : os.Started) (H : Type) (enc : TypeId × Value → H) :
    ReturnsInHanded {} Tryz.checked os 6 .any (Rows.fnExactIsSymbolicSpec.pre6 enc Tryz.prog Tryz.f6 Rows.fnExactIsSymbolicRow.domain false) (Rows.fnExactIsSymbolicSpec.post enc Tryz.prog Tryz.f6 false true false false) := by
  refine returnsInHanded_of_change_sized (C := Tryz.checked) own started (by kernel_rfl) Tryz.func6
    (ChangeSpec.witness6 (enc := enc) (C := Tryz.checked) false ⟨#[], #[.agg #[.slice none 0 0, .slice none 0 0, .slice none 0 0, .slice none 0 0], .agg #[.slice none 0 0, .int .i64 0, .int .i64 0, .string ⟨#[]⟩, .slice none 0 0, .slice none 0 0]], []⟩ 8 (by kernel_rfl) (by kernel_rfl) (by kernel_rfl) (by kernel_rfl)) ?_
  intro W base args ds gs before hval0 hW hcnd hsz0 _
  have hval : ∀ (j : Nat) t v, Tryz.f6.params[j]? = some t → args[j]? = some v → Value.okWide Tryz.prog W .any base t v := hval0
  have hW' := hW
  obtain ⟨p, q, hA0, hV, rfl, hfz, hnd⟩ := hW
  have hA : DataW.TrodAll enc Tryz.prog W 0 (fun _ => true) true Tryz.f6.params.toList args.toList ds p := hA0
  rw [Tryz.params6] at hA hval
  have hA1 := hA
  obtain ⟨v0, vs0, d0, ds0, p0, q0, hargs, rfl, rfl, h0, r0⟩ := trodAll_cons hA
  obtain ⟨v1, vs1, d1, ds1, p1, q1, rfl, rfl, rfl, h1, r1⟩ := trodAll_cons r0
  obtain ⟨rfl, rfl, rfl⟩ := trodAll_nil r1
  obtain rfl : args = #[v0, v1] := by cases args; simp_all
  obtain ⟨rfl, rfl⟩ := trodVars_none hV
  obtain ⟨a0, w0, e0⟩ := arg_struct Tryz.underlying59 (hval 0 59 v0 rfl rfl) h0 (ec := GDefinition.enc) (wf := GDefinition.wf) (fun m cs x h => rdN (rd_Definition m cs x h))
  obtain ⟨a1, w1, e1⟩ := arg_struct Tryz.underlying72 (hval 1 72 v1 rfl rfl) h1 (ec := GSymbolic.enc) (wf := GSymbolic.wf) (fun m cs x h => rdN (rd_Symbolic m cs x h))
  refine ((lawIsSymbolic_sat a0 a1 w0 w1).2 W (F0 W) [v0, v1] (fun b o h => h) ⟨_, _, rfl, e0, _, _, rfl, e1, rfl⟩).mono fun e W' ⟨u, F', he, bel, _, _, _, hu⟩ => ?_
  subst he
  have hu := hu.c_v
  subst hu
  exact ⟨_, rfl, _, _, _, [], _, [], hW', trodAll_mk1 (shut_bool Tryz.underlying4 _), DataW.TrodAll.respare kids full (of_decide_eq_true (by kernel_rfl)) (trodAll_below bel hA1) (fun p hp => decide_eq_true (DataW.TrodAll.lt hA1 p hp)), rfl, bel.frame _, fun h => by cases h⟩
theorem over : Rows.fnExactIsSymbolicRow.holds Tryz.pinned (OpenSpec.ofChange Rows.fnExactIsSymbolicSpec) :=
  OpenClaim.holds_of_wide 6 Tryz.f6 rfl rfl rfl rfl rfl rfl rfl ⟨rfl, rfl, rfl, rfl, rfl⟩ rfl rfl rfl rfl rfl (by kernel_rfl) Tryz.func6 (by kernel_rfl)
    (of_decide_eq_true (by kernel_rfl)) (by unfold Func.isWrapper; first | (rw [if_pos (by decide +kernel)]; kernel_rfl) | (rw [if_neg (by decide +kernel)]; exact ⟨rfl, rfl⟩))
    (fun os started H enc _ => lifted os started H enc)
theorem proved : Rows.FnExactIsSymbolicSaid := over
end Go.Proofs.YtdjhdjffbmgmnaaGreat.fnExactIsSymbolic
namespace Go.Proofs.YtdjhdjffbmgmnaaGreat
theorem fnExactIsSymbolic_holds : Rows.FnExactIsSymbolicSaid := fnExactIsSymbolic.proved
end Go.Proofs.YtdjhdjffbmgmnaaGreat
