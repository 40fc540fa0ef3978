/- The row: FnExactSelectRules. -/
import Derived.Test.YtkcfegkfbijedaaDoorRows
import Derived.Test.YtkcfegkfbijedaaDoorAiT6
import Derived.Test.YtkcfegkfbijedaaDoorAiTRR
import Derived.Test.YtkcfegkfbijedaaDoorCards
import Derived.Test.YtkcfegkfbijedaaDoorTie
import Derived.Deep.DeepHandedRow
import Derived.Deep.DeepWitnessRowRef
import Derived.Lib.LaidIn
import Derived.Lib.LaidTab
import Derived.Stop.LaidErr
import Derived.SevenTiedAt
import Derived.WalkKit
import Derived.ProofKit
import Derived.OpenShut
import Derived.ShutString
import Derived.ChangeOld
import Derived.Below
import Derived.SizedLaws
import Derived.ReadAgain
namespace Go.Proofs.YtkcfegkfbijedaaDoor.fnExactSelectRules
open Go.ChangeShapes Go.WideShapes Go.ChangeAt Go.RowKit Go.Ai
open Go.ChangeMaps (open_string shut_string)
theorem own : ownKnob Tryd.prog.godebug = none := by kernel_rfl
def tabV {H : Type} : DataW H → Array Value
  | .agg xs => (xs.map fun | .lit (.int k z) => Value.int k z | _ => default).toArray
  | _ => #[]
/-- THE WITNESS: the settled world, the tables laid. -/
noncomputable def laidWorld (os : Os) : World :=
  let w0 := World.holding Tryd.prog os ⟨#[], #[], []⟩
  let put (h : Array Obj) (g : Nat) (cs : Array Value) : Array Obj := h.modify g fun
    | .cells _ t frozen => .cells cs t frozen
    | o => o
  { w0 with heap := put (put (put w0.heap 1 (tabV (H := Unit) Rows.laid_math_bits_deBruijn32tab)) 2 (tabV (H := Unit) Rows.laid_math_bits_deBruijn64tab)) 0 (tabV (H := Unit) Rows.laid_internal_strconv_uint64pow10) }
theorem laid_met (os : Os) (args : Array Value) : laidMet Tryd.prog Rows.fnExactSelectRulesRow.laid ((laidWorld os).forCall (fun _ _ => 0) ⟨#[], args, []⟩).memory :=
  (LaidIn.of_run [1, 2, 0] 8 (by kernel_rfl) (by kernel_rfl) (by kernel_rfl) (by kernel_rfl)).met
theorem witness_row (os : Os) {H : Type} (enc : TypeId × Value → H) :
    (OpenSpec.ofChange Rows.fnExactSelectRulesSpec).preRow enc Tryd.prog Tryd.f4 Rows.fnExactSelectRulesRow.domain false Rows.fnExactSelectRulesRow.laid ((laidWorld os).forCall (fun _ _ => 0) ⟨#[], #[.agg #[.slice none 0 0], .agg #[.int .i64 0, .int .i64 0, .string ⟨#[]⟩, .slice none 0 0]], []⟩).memory #[.agg #[.slice none 0 0], .agg #[.int .i64 0, .int .i64 0, .string ⟨#[]⟩, .slice none 0 0]] :=
  OpenSpec.preRow_of_B rfl 8 (by kernel_rfl) (by kernel_rfl) (laid_met os _)
theorem pow_tab {W : World} (h : laidMet Tryd.prog Rows.fnExactSelectRulesRow.laid W) : TblOk W (F0 W) := by
  have h2 : laidMet Tryd.prog [("internal/strconv.uint64pow10", Lib.tabData .u64 Lib.pow10Tab)] W := (laidMet.tail (laidMet.tail h))
  have hg : Tryd.prog.globalNamed "internal/strconv.uint64pow10" = some 0 := by kernel_rfl
  have ht := Lib.tabIs_of_head (t := 114) (e := 106) (n := 20) hg (by kernel_rfl) (by kernel_rfl) (by kernel_rfl) (by kernel_rfl) (by kernel_rfl) h2
  unfold Lib.TabIs World.var? at ht
  rw [hg] at ht
  simp only [Option.bind_some] at ht
  intro b cs hb
  obtain ⟨rfl, rfl⟩ := Prod.mk.inj (List.mem_singleton.1 hb)
  split at ht
  · rename_i cs e fr hh
    obtain rfl := Option.some.inj ht
    exact ⟨⟨0, (Array.getElem?_eq_some_iff.1 hh).1⟩, e, fr, by rw [hh]; simp [Lib.pow10Tab]⟩
  · cases ht
set_option maxRecDepth 100000 in
theorem lifted (os : Os) (started : os.Started) (H : Type) (enc : TypeId × Value → H) :
    ReturnsInHanded {} Tryd.checked os 4 .any ((OpenSpec.ofChange Rows.fnExactSelectRulesSpec).preRow enc Tryd.prog Tryd.f4 Rows.fnExactSelectRulesRow.domain false Rows.fnExactSelectRulesRow.laid) (Rows.fnExactSelectRulesSpec.post enc Tryd.prog Tryd.f4 false true false false) := by
  refine returnsInHanded_of_row (C := Tryd.checked) (s := OpenSpec.ofChange Rows.fnExactSelectRulesSpec) (F := fun _ _ _ => 0) own started (by kernel_rfl) Tryd.func4
    (witness_row_atRef (enc := enc) (C := Tryd.checked) false (laidWorld os) #[.agg #[.slice none 0 0], .agg #[.int .i64 0, .int .i64 0, .string ⟨#[]⟩, .slice none 0 0]] rfl (by kernel_rfl) (by kernel_rfl) (by kernel_rfl) (witness_row os enc)) ?_
  intro W base args ds gs before hval0 hW hcnd _ _ hL _ _
  have hval : ∀ (j : Nat) t v, Tryd.f4.params[j]? = some t → args[j]? = some v → Value.okWide Tryd.prog W .any base t v := hval0
  have hW' := hW
  obtain ⟨p, q, hA0, hV, rfl, hfz, hnd⟩ := hW
  have hA : DataW.TrodAll enc Tryd.prog W 0 (fun _ => true) true Tryd.f4.params.toList args.toList ds p := hA0
  rw [Tryd.params4] at hA hval
  have hA1 := hA
  obtain ⟨v0, vs0, d0, ds0, p0, q0, hargs, rfl, rfl, h0, r0⟩ := trodAll_cons hA
  obtain ⟨v1, vs1, d1, ds1, p1, q1, rfl, rfl, rfl, h1, r1⟩ := trodAll_cons r0
  obtain ⟨rfl, rfl, rfl⟩ := trodAll_nil r1
  obtain rfl : args = #[v0, v1] := by cases args; simp_all
  obtain ⟨rfl, rfl⟩ := trodVars_none hV
  obtain ⟨a0, w0, e0⟩ := arg_struct Tryd.underlying38 (hval 0 38 v0 rfl rfl) h0 (ec := GTree.enc) (wf := GTree.wf) (fun m cs x h => rdN (rd_Tree m cs x h))
  obtain ⟨a1, w1, e1⟩ := arg_struct Tryd.underlying24 (hval 1 24 v1 rfl rfl) h1 (ec := Tm.enc) (wf := Tm.wf) (fun m cs x h => rdN (rd_tm m cs x h))
  refine ((lawSelectRules_sat a0 a1 w0 w1).2 W (F0 W) [v0, v1] ⟨fun b o h => h, pow_tab hL⟩ ⟨_, _, rfl, e0, _, _, rfl, e1, rfl⟩).mono fun e W' ⟨u, F', he, bel, _, _, _, hu⟩ => ?_
  subst he
  have hu := hu.c_v
  subst hu
  exact ⟨_, rfl, _, _, _, [], _, [], hW', trodAll_mk1 (shut_bool Tryd.underlying4 _), DataW.TrodAll.respare kids full (of_decide_eq_true (by kernel_rfl)) (trodAll_below bel hA1) (fun p hp => decide_eq_true (DataW.TrodAll.lt hA1 p hp)), rfl, bel.frame _, fun h => by cases h⟩
theorem and_t {a b : Bool} (h : a = true) (k : b = true) : (a && b) = true := by rw [h, k]; rfl
theorem q0 : (Rows.fnExactSelectRulesRow.wf (OpenSpec.ofChange Rows.fnExactSelectRulesSpec)) = true := by kernel_rfl
theorem q1 : (laidOutB Tryd.pinned.checked.prog) = true := by kernel_rfl
theorem q2 : (mapsRowed Tryd.pinned.checked.prog) = true := by kernel_rfl
theorem q3 : (Tryd.f4.params.all (Tryd.pinned.checked.prog.readableRec ·)) = true := by kernel_rfl
theorem q4 : (namedTie Tryd.pinned.checked.prog Rows.fnExactSelectRulesRow.named Rows.fnExactSelectRulesSpec.vars) = true := by kernel_rfl
theorem q5 : ((Rows.fnExactSelectRulesRow.stops == [])) = true := by kernel_rfl
theorem q6 : ((Tryd.pinned.checked.prog.stops == [])) = true := by kernel_rfl
theorem q7 : ((Rows.fnExactSelectRulesRow.knobs == [])) = true := by kernel_rfl
theorem q8 : ((Tryd.pinned.checked.prog.stopKnobs == [])) = true := by kernel_rfl
theorem q9 : ((Rows.fnExactSelectRulesRow.inPlace == Tryd.pinned.checked.prog.inPlace 4)) = true := by kernel_rfl
theorem q10 : ((Rows.fnExactSelectRulesRow.unfollowed == Tryd.pinned.checked.prog.unfollowed 4)) = true := by kernel_rfl
theorem q11 : ((Rows.fnExactSelectRulesRow.recurses == Tryd.pinned.checked.prog.recurses 4)) = true := by kernel_rfl
theorem q12 : ((Rows.fnExactSelectRulesRow.named == Tryd.pinned.checked.prog.varsNamed 4)) = true := by kernel_rfl
theorem q13 : ((Rows.fnExactSelectRulesRow.maps == (Tryd.f4.params.toList ++ Rows.fnExactSelectRulesSpec.plain.varTypes Tryd.pinned.checked.prog).any (Tryd.pinned.checked.prog.mapsRec ·))) = true := by kernel_rfl
theorem q14 : ((Rows.fnExactSelectRulesRow.ifaces == (Tryd.f4.params.toList ++ Rows.fnExactSelectRulesSpec.plain.varTypes Tryd.pinned.checked.prog).any (Tryd.pinned.checked.prog.ifacesRec ·))) = true := by kernel_rfl
theorem q15 : ((Rows.fnExactSelectRulesRow.mapsOut == Tryd.pinned.checked.prog.mapsAmong Tryd.f4.resultTypes.toList)) = true := by kernel_rfl
theorem q16 : ((Rows.fnExactSelectRulesRow.loops == (Tryd.f4.params.toList ++ Rows.fnExactSelectRulesSpec.plain.varTypes Tryd.pinned.checked.prog).any (Tryd.pinned.checked.prog.loopsFrom ·))) = true := by kernel_rfl
theorem q17 : ((Rows.fnExactSelectRulesRow.wideKeys == (Tryd.f4.params.toList ++ Rows.fnExactSelectRulesSpec.plain.varTypes Tryd.pinned.checked.prog ++ Tryd.f4.resultTypes.toList).any (Tryd.pinned.checked.prog.wideKeysFrom ·))) = true := by kernel_rfl
theorem q18 : (Rows.fnExactSelectRulesSpec.vars.all (Tryd.pinned.checked.prog.varReadable ·)) = true := by kernel_rfl
theorem q19 : (Tryd.f4.resultTypes.all (fun t => Tryd.pinned.checked.prog.readableRec t && decide (t < Tryd.pinned.checked.prog.types.size))) = true := by kernel_rfl
theorem q20 : ((Rows.fnExactSelectRulesRow.ifacesOut == Tryd.f4.resultTypes.toList.any (Tryd.pinned.checked.prog.ifacesRec ·))) = true := by kernel_rfl
theorem q21 : ((Rows.fnExactSelectRulesRow.loopsOut == Tryd.f4.resultTypes.toList.any (Tryd.pinned.checked.prog.loopsFrom ·))) = true := by kernel_rfl
theorem q22 : ((Rows.fnExactSelectRulesRow.plainKeys == Tryd.pinned.checked.prog.plainKeys)) = true := by kernel_rfl
theorem q23 : (Rows.fnExactSelectRulesRow.shortTexts.isNone) = true := by kernel_rfl
theorem q24 : (Tryd.pinned.checked.prog.stopsHeard) = true := by kernel_rfl
theorem q25 : (Tryd.pinned.checked.prog.mayEnter) = true := by kernel_rfl
theorem q26 : ((Rows.fnExactSelectRulesRow.lifted == Tryd.pinned.checked.prog.liftsFinal)) = true := by kernel_rfl
theorem q27 : ((Tryd.pinned.checked.prog.make == some Rows.fnExactSelectRulesRow.make)) = true := by kernel_rfl
theorem q28 : ((Rows.fnExactSelectRulesRow.kinds == (if Rows.fnExactSelectRulesRow.domain.isEmpty then [] else Tryd.f4.params.toList.map fun t => match Tryd.pinned.checked.prog.underlying t with | some (.int k) => some k | _ => none))) = true := by kernel_rfl
theorem q29 : ((Rows.fnExactSelectRulesRow.pinned == Rows.fnExactSelectRulesRow.pinnedBy)) = true := by kernel_rfl
theorem q30 : ((Rows.fnExactSelectRulesRow.veiled == (Tryd.f4.params.toList ++ Rows.fnExactSelectRulesSpec.plain.varTypes Tryd.pinned.checked.prog ++ Tryd.f4.resultTypes.toList).any (Tryd.pinned.checked.prog.veiledRec ·))) = true := by kernel_rfl
theorem q31 : (Rows.fnExactSelectRulesRow.veiledFits Tryd.pinned.checked.prog Tryd.f4.params.toList (Tryd.f4.params.toList ++ Rows.fnExactSelectRulesSpec.plain.varTypes Tryd.pinned.checked.prog ++ Tryd.f4.resultTypes.toList)) = true := by kernel_rfl
set_option maxRecDepth 100000 in
theorem closed : joinedFacts Tryd.pinned.checked.prog 4 Tryd.f4 Rows.fnExactSelectRulesSpec Rows.fnExactSelectRulesRow = true := and_t (and_t (and_t (and_t (and_t (and_t (and_t (and_t (and_t (and_t (and_t (and_t (and_t (and_t (and_t (and_t (and_t (and_t (and_t (and_t (and_t (and_t (and_t (and_t (and_t (and_t (and_t (and_t (and_t (and_t (and_t (q0) q1) q2) q3) q4) q5) q6) q7) q8) q9) q10) q11) q12) q13) q14) q15) q16) q17) q18) q19) q20) q21) q22) q23) q24) q25) q26) q27) q28) q29) q30) q31
theorem named : Tryd.pinned.checked.prog.funcNamed Rows.fnExactSelectRulesRow.func = some 4 := by kernel_rfl
theorem inst : Tryd.f4.isInstance Tryd.pinned.checked.prog Rows.fnExactSelectRulesRow.origin Rows.fnExactSelectRulesRow.targs := of_decide_eq_true (by kernel_rfl)
theorem wrap : Tryd.f4.isWrapper Tryd.pinned.checked.prog Rows.fnExactSelectRulesRow.wrapper Rows.fnExactSelectRulesRow.mainSum := by
  unfold Func.isWrapper; first | (rw [if_pos (by decide +kernel)]; kernel_rfl) | (rw [if_neg (by decide +kernel)]; exact ⟨rfl, rfl⟩)
theorem over : Rows.fnExactSelectRulesRow.holds Tryd.pinned (OpenSpec.ofChange Rows.fnExactSelectRulesSpec) :=
  OpenClaim.holds_of_wide 4 Tryd.f4 rfl rfl rfl rfl rfl rfl rfl ⟨rfl, rfl, rfl, rfl, rfl⟩ rfl rfl rfl rfl rfl named Tryd.func4 closed inst wrap
    (fun os started H enc _ => by rw [OpenClaim.pre_eq_preRow]; exact lifted os started H enc)
theorem card : Rows.FnExactSelectRulesCardSaid :=
  Claim7.holds_tied_plain_at .later [] [.data, .data, .data] true (true, "3da0f47545ea828f8a5bebe099cf36b5c976a98df9e9d69387c02be39252ec91") false over (fun _ h => by cases h) (by kernel_rfl) (fun _ h => by cases h) fnExactSelectRules_row_tie rfl ⟨rfl, rfl⟩ (by kernel_rfl) rfl
    (fun f fn hf hfn => by
      obtain rfl : f = 4 := (Option.some.inj (named.symm.trans hf)).symm
      obtain rfl : fn = Tryd.f4 := (Option.some.inj (Tryd.func4.symm.trans hfn)).symm
      have hall : Tryd.f4.params.all (fun t => !Tryd.prog.wantsStandIn t) = true := by kernel_rfl
      refine ⟨by kernel_rfl, fun j t ht => ?_⟩
      have := (Array.all_eq_true_iff_forall_mem.1 hall) t (Array.mem_of_getElem? ht)
      show Tryd.prog.wantsStandIn t = false
      simpa using this)
    (by kernel_rfl)
end Go.Proofs.YtkcfegkfbijedaaDoor.fnExactSelectRules
namespace Go.Proofs.YtkcfegkfbijedaaDoor
theorem fnExactSelectRules_holds : Rows.FnExactSelectRulesCardSaid := fnExactSelectRules.card
end Go.Proofs.YtkcfegkfbijedaaDoor
