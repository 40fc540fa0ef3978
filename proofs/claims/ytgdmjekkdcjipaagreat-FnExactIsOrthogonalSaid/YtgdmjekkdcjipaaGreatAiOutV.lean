/- A contract whose result is a new row, from code with drawn regions. -/
import Derived.Test.YtgdmjekkdcjipaaGreatAiDynE
import Derived.Test.YtgdmjekkdcjipaaGreatAiRow2
set_option linter.unusedVariables false
set_option linter.unusedSimpArgs false
namespace Go.Ai
open Go.RowKit
set_option maxRecDepth 100000
variable {P : Program} {tab : Tab}
theorem yn0 (Δ : List (Nat × List Pr × List Nat)) (ds : List AV) {r : AV} (hds : zy0 ds = r) (hne : ds ≠ []) (hT : zU0 P tab) (hm : P.follows .mixedOrders = true) {f : FuncId} {fn : Func} {c : Code} {args : List AV} {e : TypeId} {sz : Nat} {rows : List (List AC)} {rs : List ResultVar} {n : Nat} (hf : P.funcs[f]? = some fn) (hb : fn.body = some c) (hr : fn.results.toList = rs) (hn : fn.ntmps = n) (hname : fn.name ≠ "runtime.NumGoroutine")
  (hok : zl0 Δ c = true) (hlen : args.length ≤ n) (hsz : 0 < sz) (hcl : clR rows) (hnd : noD rows = true) (hod : okOVs ds = true)
  (h : qC0 P tab Δ c (kk1 tab rs e sz rows ds) (mk n (qN0 0 args) [])) : SatO P f args e sz rows r := by
 subst hr hn hds
 have hj : cE0 (zy0 ds) = true := by
  match ds, hne, hod with
  | [d], _, hod => simpa only [zy0, okOVs, Bool.and_true] using hod
  | d :: d' :: ds, _, hod => simpa only [zy0, cE0] using hod
 refine ⟨⟨fn, hf, hname, by rw [hb]; simp⟩, hsz, hcl, hnd, hj, fun w F us hF hrep => ?_⟩
 refine calls_of_wp hf hb (wp_mono (ze0 Δ hT hm c _ _ hok h w ⟨[], []⟩ F _ w ⟨F, g0, kY0 hF hlen hrep⟩) ?_)
 rintro ex a' w' ⟨s', hq, F1, g1, hs'⟩
 have main : gU0 tab fn.results.toList e sz rows ds s' → ∃ v, (results fn a'.tmps).run P w' = .ok v w' ∧ ∃ v1 F' v0 S, Ending.returned v = .returned v1 ∧ RepAV w' F' (lbO e sz rows) (gA v0 S) (zy0 ds) v1 ∧ RepLB w' F' noLk (gA v0 S) 0 (.arr e sz rows false) ∧ S.Nodup ∧
   (∀ b, b ∈ S → w.heap.size ≤ b ∧ b < w'.heap.size ∧ ∀ o, ¬ F' b o) ∧ (∀ b o, F b o → F' b o) ∧ (∀ b o, F' b o → F b o ∨ w.heap.size ≤ b) ∧ (∀ b o, F' b o → b < w'.heap.size) ∧ Below w.heap.size w w' := by
  intro hq
  unfold gU0 at hq
  split at hq
  case h_2 => exact hq.elim
  rename_i p vs ho
  obtain ⟨⟨hp, hrel⟩, hrow⟩ := hq
  obtain ⟨us', hrun, hargs⟩ := qR0 hT hs' rfl ho hp
  have below : Below w.heap.size w w' := ⟨hs'.os, hs'.tape, hs'.output, hs'.size, fun k hk => hs'.block k hk (fun h => by cases h)⟩
  have hf1 : ∀ b o, F1 b o → F b o ∨ w.heap.size ≤ b := fun b o hb => (hs'.f1 b o hb).imp id (fun hq => hq.elim id (fun hq => by cases hq))
  cases hl : sn0 vs with
  | some l =>
   rw [hl] at hrow hrel
   simp only at hrow
   obtain ⟨k1, k2⟩ := jP0 (S := g1.ds l) (v0 := g1.hd l) (l := some l) (lb := s'.lb) (g := g1) (e := e) (sz := sz) (rows := rows) ⟨hrow, rfl⟩ hrel hargs
   have hun : ∀ b, b ∈ g1.ds l → ∀ o, ¬ F1 b o := (hs'.so l _ hrow).2 rfl hnd
   exact ⟨_, hrun, _, F1, g1.hd l, g1.ds l, rfl, (kg0 hne k1 k2).2, wn0 (g := g1) (l := l) hcl rfl rfl (hs'.lb l _ hrow), hs'.nd l _ hrow, fun b hb => ⟨((hs'.nw l _ hrow b hb).1).resolve_right (fun hq => by cases hq), (hs'.nw l _ hrow b hb).2, hun b hb⟩, hs'.f0, hf1, hs'.f2, below⟩
  | none =>
   rw [hl] at hrow hrel
   simp only at hrow
   subst hrow
   obtain ⟨k1, k2⟩ := jP0 (S := []) (v0 := .slice none 0 0) (l := none) (lb := s'.lb) (g := g1) (e := e) (sz := sz) (rows := []) ⟨rfl, rfl⟩ hrel hargs
   exact ⟨_, hrun, _, F1, .slice none 0 0, [], rfl, (kg0 hne k1 k2).2, ⟨hsz, by simp, [], [], ⟨by simp, .inl ⟨rfl, rfl⟩⟩, ⟨rfl, rfl⟩, rfl⟩, by simp, (fun b hb => by cases hb), hs'.f0, hf1, hs'.f2, below⟩
 cases ex with
 | normal => exact ⟨hs'.df, main hq⟩
 | ret => exact ⟨hs'.df, main hq⟩
 | _ => exact hq.elim
end Go.Ai
