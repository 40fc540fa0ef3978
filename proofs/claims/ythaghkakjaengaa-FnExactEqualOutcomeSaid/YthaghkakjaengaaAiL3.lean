/- The row: FnExactEqualOutcome. -/
import Derived.Test.YthaghkakjaengaaRows
import Derived.Test.YthaghkakjaengaaAiC2
import Derived.WalkKit
import Derived.ProofKit
import Derived.OpenShut
import Derived.ShutString
import Derived.ChangeOld
import Derived.Below
import Derived.SizedLaws
import Derived.ReadAgain
namespace Go.Ai
set_option linter.unusedVariables false
set_option linter.unusedSimpArgs false
open Go.Proofs Go.RowKit Go.ChangeShapes
set_option maxRecDepth 100000
theorem cells3 : Try.prog.cellsOf 3 = 1 := by kernel_rfl
theorem cells9 : Try.prog.cellsOf 9 = 1 := by kernel_rfl
theorem cells29 : Try.prog.cellsOf 29 = 1 := by kernel_rfl
theorem cells31 : Try.prog.cellsOf 31 = 4 := by kernel_rfl
theorem cells33 : Try.prog.cellsOf 33 = 6 := by kernel_rfl
theorem kids : Kids Try.prog (· < Try.prog.types.size) := kids_rows (by kernel_rfl) (by kernel_rfl)
theorem full : ∀ t e, t < Try.prog.types.size → Try.prog.underlying t = some (.slice e) → 0 < Try.prog.cellsOf e := slices_full_of Try.prog (by kernel_rfl)
section
variable {H : Type} {enc : TypeId × Value → H} {w : World}
theorem rd_tm : ∀ (fuel : Nat) (cs : List Value) (x : DataW H × List MemPlace), trodA enc Try.prog w fuel 31 cs = some x → ∃ t : Tm, t.wf ∧ t.enc.length = 4 ∧ RdL w t.enc cs := by
  intro fuel
  induction fuel using Nat.strongRecOn with
  | _ fuel ih =>
    intro cs x h
    obtain ⟨xs, m, hm, _, hlen, hxl, hf⟩ := DataW.trod_struct Try.underlying31 h
    rw [cells31] at hlen
    obtain ⟨y0, h0⟩ := field_of hxl hf 0 _ rfl (off := 0) rfl rfl cells3
    obtain ⟨y1, h1⟩ := field_of hxl hf 1 _ rfl (off := 1) rfl rfl cells3
    obtain ⟨y2, h2⟩ := field_of hxl hf 2 _ rfl (off := 2) rfl rfl cells9
    obtain ⟨y3, h3⟩ := field_of hxl hf 3 _ rfl (off := 3) rfl rfl cells29
    obtain ⟨k, wk, r0⟩ := rd_int Try.underlying3 h0
    obtain ⟨n, wn, r1⟩ := rd_int Try.underlying3 h1
    obtain ⟨s, ws, r2⟩ := rd_string Try.underlying9 h2
    obtain ⟨ts, wts, lts, r3⟩ := rd_slice (ec := Tm.enc) (wf := Tm.wf) Try.underlying29 cells31 (by omega) (fun m' hm' cs x h => by
      obtain ⟨t, a, b, c⟩ := ih m' (by omega) cs x h
      exact ⟨t, a, b, c⟩) h3
    refine ⟨.mk k n s ts, ⟨wk, wn, ws, lts, (wfs_iff ts).2 wts⟩, rfl, ?_⟩
    have := RdL.next (cs := cs) (o := 0) r0 (RdL.next r1 (RdL.next r2 (RdL.last r3 hlen)))
    simpa [Tm.enc, encs_map] using this
theorem rd_oc : ∀ (fuel : Nat) (cs : List Value) (x : DataW H × List MemPlace), trodA enc Try.prog w fuel 33 cs = some x → ∃ o : Oc, o.t.wf ∧ RdL w o.enc cs := by
  intro fuel cs x h
  obtain ⟨xs, m, hm, _, hlen, hxl, hf⟩ := DataW.trod_struct Try.underlying33 h
  rw [cells33] at hlen
  obtain ⟨y0, h0⟩ := field_of hxl hf 0 _ rfl (off := 0) rfl rfl cells3
  obtain ⟨y1, h1⟩ := field_of hxl hf 1 _ rfl (off := 1) rfl rfl cells31
  obtain ⟨y2, h2⟩ := field_of hxl hf 2 _ rfl (off := 5) rfl rfl cells3
  obtain ⟨st, _, r0⟩ := rd_int Try.underlying3 h0
  obtain ⟨t, wt, _, r1⟩ := rd_tm _ _ _ h1
  obtain ⟨sp, _, r2⟩ := rd_int Try.underlying3 h2
  refine ⟨⟨st, t, sp⟩, wt, ?_⟩
  have := RdL.next (cs := cs) (o := 0) r0 (RdL.next r1 (RdL.last r2 hlen))
  simpa [Oc.enc] using this
end
end Go.Ai
namespace Go.Proofs.Ythaghkakjaengaa.fnExactEqualOutcome
open Go.ChangeShapes Go.WideShapes Go.ChangeAt Go.RowKit Go.Ai
open Go.ChangeMaps (open_string shut_string)
theorem own : ownKnob Try.prog.godebug = none := by kernel_rfl
set_option maxRecDepth 100000 in
theorem lifted (os : Os) (started : os.Started) (H : Type) (enc : TypeId × Value → H) :
    ReturnsInHanded {} Try.checked os 5 .any (Rows.fnExactEqualOutcomeSpec.pre6 enc Try.prog Try.f5 Rows.fnExactEqualOutcomeRow.domain false) (Rows.fnExactEqualOutcomeSpec.post enc Try.prog Try.f5 false true false false) := by
  refine returnsInHanded_of_change_sized (C := Try.checked) own started (by kernel_rfl) Try.func5
    (ChangeSpec.witness6 (enc := enc) (C := Try.checked) false ⟨#[], #[.agg #[.int .i64 0, .int .i64 0, .int .i64 0, .string ⟨#[]⟩, .slice none 0 0, .int .i64 0], .agg #[.int .i64 0, .int .i64 0, .int .i64 0, .string ⟨#[]⟩, .slice none 0 0, .int .i64 0]], []⟩ 8 (by kernel_rfl) (by kernel_rfl) (by kernel_rfl) (by kernel_rfl)) ?_
  intro W base args ds gs before hval0 hW hcnd hsz0 _
  have hval : ∀ (j : Nat) t v, Try.f5.params[j]? = some t → args[j]? = some v → Value.okWide Try.prog W .any base t v := hval0
  have hW' := hW
  obtain ⟨p, q, hA0, hV, rfl, hfz, hnd⟩ := hW
  have hA : DataW.TrodAll enc Try.prog W 0 (fun _ => true) true Try.f5.params.toList args.toList ds p := hA0
  rw [Try.params5] at hA hval
  have hA1 := hA
  obtain ⟨v0, vs0, d0, ds0, p0, q0, hargs, rfl, rfl, h0, r0⟩ := trodAll_cons hA
  obtain ⟨v1, vs1, d1, ds1, p1, q1, rfl, rfl, rfl, h1, r1⟩ := trodAll_cons r0
  obtain ⟨rfl, rfl, rfl⟩ := trodAll_nil r1
  obtain rfl : args = #[v0, v1] := by cases args; simp_all
  obtain ⟨rfl, rfl⟩ := trodVars_none hV
  obtain ⟨a0, w0, e0⟩ := arg_struct Try.underlying33 (hval 0 33 v0 rfl rfl) h0 (ec := Oc.enc) (wf := fun o => o.t.wf) rd_oc
  obtain ⟨a1, w1, e1⟩ := arg_struct Try.underlying33 (hval 1 33 v1 rfl rfl) h1 (ec := Oc.enc) (wf := fun o => o.t.wf) rd_oc
  refine ((law_sat a0 a1 w0 w1).2 W (F0 W) [v0, v1] (fun b o h => h) ⟨_, _, rfl, e0, _, _, rfl, e1, rfl⟩).mono fun e W' ⟨u, F', he, bel, _, _, _, hu⟩ => ?_
  subst he
  have hu := hu.c_v
  subst hu
  exact ⟨_, rfl, _, _, _, [], _, [], hW', trodAll_mk1 (shut_bool Try.underlying4 _), DataW.TrodAll.respare kids full (of_decide_eq_true (by kernel_rfl)) (trodAll_below bel hA1) (fun p hp => decide_eq_true (DataW.TrodAll.lt hA1 p hp)), rfl, bel.frame _, fun h => by cases h⟩
theorem over : Rows.fnExactEqualOutcomeRow.holds Try.pinned (OpenSpec.ofChange Rows.fnExactEqualOutcomeSpec) :=
  OpenClaim.holds_of_wide 5 Try.f5 rfl rfl rfl rfl rfl rfl rfl ⟨rfl, rfl, rfl, rfl, rfl⟩ rfl rfl rfl rfl rfl (by kernel_rfl) Try.func5 (by kernel_rfl)
    (of_decide_eq_true (by kernel_rfl)) (by unfold Func.isWrapper; first | (rw [if_pos (by decide +kernel)]; kernel_rfl) | (rw [if_neg (by decide +kernel)]; exact ⟨rfl, rfl⟩))
    (fun os started H enc _ => lifted os started H enc)
theorem proved : Rows.FnExactEqualOutcomeSaid := over
end Go.Proofs.Ythaghkakjaengaa.fnExactEqualOutcome
namespace Go.Proofs.Ythaghkakjaengaa
/-- The row, under a short name, for the claim. -/
theorem fnExactEqualOutcome_holds : Rows.FnExactEqualOutcomeSaid := fnExactEqualOutcome.proved
end Go.Proofs.Ythaghkakjaengaa
