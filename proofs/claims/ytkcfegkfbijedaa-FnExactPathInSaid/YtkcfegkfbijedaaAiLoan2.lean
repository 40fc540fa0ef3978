/- Contracts with an owned result, or a row that is given and taken, of code in which drawn regions write. -/
import Derived.Test.YtkcfegkfbijedaaAiGive2
namespace Go.Ai
set_option linter.unusedVariables false
set_option linter.unusedSimpArgs false
open Go.RowKit

variable {P : Program} {tab : Tab}

theorem satF_of_codeD (Δ : List (Nat × List Pr)) (ds : List AV) {r : AV} (hds : joinR ds = r) (htup : ∀ vs, r = .tup vs → ds = vs) (hT : TabOk P tab) (hm : P.follows .mixedOrders = true) {f : FuncId} {fn : Func} {c : Code} {args : List AV} {rs : List ResultVar} {n : Nat} (hf : P.funcs[f]? = some fn) (hb : fn.body = some c) (hr : fn.results.toList = rs) (hn : fn.ntmps = n) (hname : fn.name ≠ "runtime.NumGoroutine")
    (hok : okCodeD Δ c = true) (hlen : args.length ≤ n) (h : codeD P tab Δ c (retFA tab rs ds) (mk n (enumA 0 args) [])) : SatF P f args r := by
  subst hr hn
  refine ⟨⟨fn, hf, hname, by rw [hb]; simp⟩, fun w F us hF hrep => ?_⟩
  refine calls_of_wp hf hb (wp_mono (codeD_sound Δ hT hm c _ _ hok h w ⟨[], []⟩ F _ w ⟨F, g0, entry_sim hF hlen hrep⟩) ?_)
  rintro e a' w' ⟨s', hq, F1, g1, hs'⟩
  have main : retFS tab fn.results.toList ds s' → ∃ v, (results fn a'.tmps).run P w' = .ok v w' ∧ ∃ v' S, Ending.returned v = .returned v' ∧ Below w.heap.size w w' ∧ OwnR w' r v' S ∧ S.Nodup ∧ ∀ b, b ∈ S → w.heap.size ≤ b ∧ b < w'.heap.size := by
    intro hq
    unfold retFS at hq
    split at hq
    case h_2 => exact hq.elim
    rename_i p vs ho
    obtain ⟨hp, hret⟩ := hq
    obtain ⟨us', hrun, hargs⟩ := results_run hT hs' rfl ho hp
    obtain ⟨Z, hZ⟩ : ∃ Z : List Nat, ∀ b, b ∈ Z ↔ w.heap.size ≤ b ∧ b < w'.heap.size := ⟨(List.range w'.heap.size).filter (fun b => decide (w.heap.size ≤ b)), fun b => by simp [and_comm]⟩
    have hlast : Last w' F1 Z s'.lb [] vs us' := ⟨g1, hs'.bare, by simp, fun l B hl b hb => ⟨by simp, (hZ b).2 ⟨(hs'.nw l B hl b hb).1.resolve_right (fun hq => by cases hq), (hs'.nw l B hl b hb).2⟩⟩, by simp, hargs⟩
    obtain ⟨lb', S, _, hL, hown⟩ := retVs_sound (fun _ _ h => h) hret hlast
    rw [List.nil_append] at hL
    obtain ⟨_, _, k1, _, k2, _⟩ := hL.ex
    exact ⟨_, hrun, _, S, rfl, ⟨hs'.os, hs'.tape, hs'.output, hs'.size, fun k hk => hs'.block k hk (fun h => by cases h)⟩, ownR_of_Rs hds htup hown, k1, fun b hb => (hZ b).1 (k2 b hb)⟩
  cases e with
  | normal => exact ⟨hs'.df, main hq⟩
  | ret => exact ⟨hs'.df, main hq⟩
  | _ => exact hq.elim
theorem satA_of_codeD (Δ : List (Nat × List Pr)) (hT : TabOk P tab) (hm : P.follows .mixedOrders = true) {f : FuncId} {fn : Func} {c : Code} {pre post : List AV} {e : TypeId} {sz : Nat} {rows rows' : List (List AC)} {rest : List AV} {rs : List ResultVar} {n : Nat} (hf : P.funcs[f]? = some fn) (hb : fn.body = some c) (hr : fn.results.toList = rs) (hn : fn.ntmps = n) (hname : fn.name ≠ "runtime.NumGoroutine")
    (hok : okCodeD Δ c = true) (hlen : pre.length + post.length + 1 ≤ n) (hsz : 0 < sz) (hpl : rest.all plainR1 = true) (hcl : clR rows) (hcl' : clR rows') (hnd : noD rows = true) (hnd' : noD rows' = true)
    (h : codeD P tab Δ c (retAA tab rs e sz rows' rest) (mk n (enumA 0 (pre ++ .one (.own 9001 rows.length) :: post)) [(9001, .arr e sz rows false)])) : SatA P f pre post e sz rows rows' rest := by
  subst hr hn
  refine ⟨⟨fn, hf, hname, by rw [hb]; simp⟩, hsz, hpl, hcl, hcl', hnd, hnd', fun w F us1 v0 us2 S hF h1 h2 hrow hS hSf => ?_⟩
  have one : ∀ l B, lookB [(9001, LB.arr e sz rows false)] l = some B → l = 9001 ∧ B = .arr e sz rows false := by
    intro l B hl
    simp only [lookB] at hl
    split at hl
    · exact ⟨‹_›, (Option.some.inj hl).symm⟩
    · cases hl
  have K0 : ∀ {lb : Lk} {g : Gh}, Keeps noLk g0 lb g := fun {lb} {g} => ⟨fun l B hl => by simp [noLk] at hl⟩
  have hone : v0.oneCell' = true := by
    obtain ⟨_, _, xs, _, hown, _⟩ := hrow
    rcases hown.2 with ⟨e1, _⟩ | ⟨_, _, _, e1, _⟩ <;> (have e1 : v0 = _ := e1; rw [e1]; rfl)
  have hhd : RepAV w F (lookB [(9001, LB.arr e sz rows false)]) (gA v0 S) (.one (.own 9001 rows.length)) v0 := by
    simp only [RepAV, RepAC]
    exact ⟨hone, _, by simp [lookB]; rfl, by simp [okOwnB, gA]⟩
  have hA : RepAVs w F (lookB [(9001, LB.arr e sz rows false)]) (gA v0 S) (pre ++ .one (.own 9001 rows.length) :: post) (us1 ++ v0 :: us2) :=
    RepAVs.appendL (RepAVs.mono (Stays.refl _ _) K0 _ _ h1) ⟨v0, us2, rfl, hhd, RepAVs.mono (Stays.refl _ _) K0 _ _ h2⟩
  have hal := RepAVs.len _ _ hA
  have hds : ∀ b, b ∈ blkOf v0 → b ∈ S := by
    obtain ⟨_, _, _, _, _, _, hd⟩ := hrow
    intro b hb
    have : S = blkOf v0 ++ _ := hd
    rw [this]; simp [hb]
  have hsim : Sim w ⟨S, []⟩ F F (gA v0 S) (mk fn.ntmps (enumA 0 (pre ++ .one (.own 9001 rows.length) :: post)) [(9001, .arr e sz rows false)] []) { tmps := (us1 ++ v0 :: us2).toArray ++ Array.replicate (fn.ntmps - (us1 ++ v0 :: us2).toArray.size) undef, defers := [] } w := {
    sz := by
      simp only [mk_n, Array.size_append, List.size_toArray, Array.size_replicate]
      rw [List.length_append, List.length_cons] at hal
      omega
    df := rfl
    sl := fun i => by
      have e : (us1 ++ v0 :: us2).toArray ++ Array.replicate (fn.ntmps - (us1 ++ v0 :: us2).toArray.size) undef = ((us1 ++ v0 :: us2) ++ List.replicate (fn.ntmps - (us1 ++ v0 :: us2).length) undef).toArray := by simp
      simp only [mk_sl, mk_lb, e, getD_toArray]
      rcases enumA_rep (pre ++ .one (.own 9001 rows.length) :: post) (us1 ++ v0 :: us2) 0 i (List.replicate (fn.ntmps - (us1 ++ v0 :: us2).length) undef) hA with h | ⟨_, _, h⟩
      · rw [h]; simp only [RepAV]
      · exact h
    gh := rfl
    lb := fun l B hl => by
      obtain ⟨rfl, rfl⟩ := one l B hl
      exact clR_row (g := gA v0 S) (l := 0) hcl rfl rfl hrow
    so := fun l B hl => by
      obtain ⟨rfl, rfl⟩ := one l B hl
      simp only [SoftOk]
      exact ⟨fun b hb o _ => (hSf b (hds b hb)).2 o, fun _ _ b hb o => (hSf b hb).2 o⟩
    nd := fun l B hl => hS
    dj := fun l l' B B' hne hl hl' => by
      obtain ⟨rfl, _⟩ := one l B hl
      obtain ⟨rfl, _⟩ := one l' B' hl'
      exact absurd rfl hne
    nw := fun l B hl b hb => ⟨.inr hb, (hSf b hb).1⟩
    f0 := fun _ _ h => h
    f1 := fun _ _ h => .inl h
    f2 := hF.lt
    tb := hF.tb.start (fun b hb => (hSf b hb).2)
    os := rfl
    tape := rfl
    output := rfl
    size := Nat.le_refl _
    block := fun _ _ _ => rfl }
  refine calls_of_wp hf hb (wp_mono (codeD_sound Δ hT hm c _ _ hok h w ⟨S, []⟩ F _ w ⟨F, gA v0 S, hsim⟩) ?_)
  rintro ex a' w' ⟨s', hq, F1, g2, hs'⟩
  have main : retAS tab fn.results.toList e sz rows' rest s' → ∃ v, (results fn a'.tmps).run P w' = .ok v w' ∧ ∃ v1 vs F' S', Ending.returned v = .returned (accV v1 vs) ∧ RepAVs w' F' noLk g0 rest vs ∧ RepLB w' F' noLk (gA v1 S') 0 (.arr e sz rows' false) ∧ S'.Nodup ∧
      (∀ b, b ∈ S' → (b ∈ S ∨ w.heap.size ≤ b) ∧ b < w'.heap.size ∧ ∀ o, ¬ F' b o) ∧ (∀ b o, F b o → F' b o) ∧ (∀ b o, F' b o → F b o ∨ w.heap.size ≤ b ∨ b ∈ S) ∧ (∀ b o, F' b o → b < w'.heap.size) ∧
      w'.os = w.os ∧ w'.tape = w.tape ∧ w'.output = w.output ∧ w.heap.size ≤ w'.heap.size ∧ ∀ k, k < w.heap.size → k ∉ S → w'.heap[k]? = w.heap[k]? := by
    intro hq
    unfold retAS at hq
    have jn : ∀ (u : Value) (us : List Value), joinU (u :: us) = accV u us := fun u us => by cases us <;> rfl
    split at hq
    · rename_i p l k vs ho
      obtain ⟨hp, rfl, hk, hl⟩ := hq
      obtain ⟨us, hrun, hargs⟩ := results_run hT hs' rfl ho hp
      simp only [RepAVs, RepAV] at hargs
      obtain ⟨u, us', rfl, hu, hrest⟩ := hargs
      simp only [RepAC] at hu
      obtain ⟨_, B, hB, hq⟩ := hu
      rw [hl] at hB
      obtain rfl := Option.some.inj hB
      have hux : u = g2.hd l := hq.2 hk
      have hun : ∀ b, b ∈ g2.ds l → ∀ o, ¬ F1 b o := (hs'.so l _ hl).2 rfl hnd'
      refine ⟨_, hrun, u, us', F1, g2.ds l, by rw [jn], plainRs_rep hpl hrest, clR_row (g := g2) (l := l) hcl' hux rfl (hs'.lb l _ hl), hs'.nd l _ hl, fun b hb => ⟨((hs'.nw l _ hl b hb).1).symm, (hs'.nw l _ hl b hb).2, hun b hb⟩, hs'.f0, hs'.f1, hs'.f2, hs'.os, hs'.tape, hs'.output, hs'.size, fun k hk hk' => hs'.block k hk hk'⟩
    · rename_i p vs ho
      obtain ⟨hp, rfl, rfl⟩ := hq
      obtain ⟨us, hrun, hargs⟩ := results_run hT hs' rfl ho hp
      simp only [RepAVs, RepAV] at hargs
      obtain ⟨u, us', rfl, hu, hrest⟩ := hargs
      simp only [RepAC] at hu
      subst hu
      exact ⟨_, hrun, _, us', F1, [], by rw [jn], plainRs_rep hpl hrest, ⟨hsz, by simp, [], [], ⟨by simp, .inl ⟨rfl, rfl⟩⟩, ⟨rfl, rfl⟩, rfl⟩, by simp, (fun b hb => by cases hb), hs'.f0, hs'.f1, hs'.f2, hs'.os, hs'.tape, hs'.output, hs'.size, fun k hk hk' => hs'.block k hk hk'⟩
    · exact hq.elim
  cases ex with
  | normal => exact ⟨hs'.df, main hq⟩
  | ret => exact ⟨hs'.df, main hq⟩
  | _ => exact hq.elim

end Go.Ai
/- Contracts of functions that are lent a block, and of functions that make one, from their code. -/
namespace Go.Ai
set_option linter.unusedVariables false
set_option linter.unusedSimpArgs false
open Go.RowKit

variable {P : Program} {tab : Tab}

def a0Of : LB → AV
  | .var _ => .one (.ptr 9001 0)
  | .arr _ _ rows _ => .one (.own 9001 rows.length)
  | _ => .any
def retPS (tab : Tab) (rs : List ResultVar) (r : AV) (B' : LB) (s : St) : Prop :=
  match resVs tab s rs with
  | some (p, vs) => p ∧ okAVs s.lb vs ∧ joinR (vAVs s.lb vs) = r ∧ 9001 ∉ vs.flatMap AV.owns ∧ s.lb 9001 = some B' ∧ s.gh = [a0Of B']
  | none => False
def retPA (tab : Tab) (rs : List ResultVar) (r : AV) (B' : LB) : Exit → St → Prop
  | .normal, s => retPS tab rs r B' s
  | .ret, s => retPS tab rs r B' s
  | _, _ => False
def retNS (tab : Tab) (rs : List ResultVar) (cells : List AC) (s : St) : Prop :=
  match resVs tab s rs with
  | some (p, [.one (.ptr l off)]) => p ∧ off = 0 ∧ s.lb l = some (.var cells)
  | _ => False
def retNA (tab : Tab) (rs : List ResultVar) (cells : List AC) : Exit → St → Prop
  | .normal, s => retNS tab rs cells s
  | .ret, s => retNS tab rs cells s
  | _, _ => False
theorem retPA_normal {rs : List ResultVar} {r : AV} {B' : LB} {s : St} : retPA tab rs r B' .normal s = retPS tab rs r B' s := rfl
theorem retPA_ret {rs : List ResultVar} {r : AV} {B' : LB} {s : St} : retPA tab rs r B' .ret s = retPS tab rs r B' s := rfl
theorem retNA_normal {rs : List ResultVar} {cells : List AC} {s : St} : retNA tab rs cells .normal s = retNS tab rs cells s := rfl
theorem retNA_ret {rs : List ResultVar} {cells : List AC} {s : St} : retNA tab rs cells .ret s = retNS tab rs cells s := rfl
attribute [go_sem] retPA_normal retPA_ret retNA_normal retNA_ret retPS retNS othersK loanL a0Of

theorem frzs_gh : ∀ (ls : List Nat) (s : St), (s.frzs ls).gh = s.gh
  | [], _ => rfl
  | l :: ls, s => frzs_gh ls (s.frz l)
theorem satP_of_awp (hT : TabOk P tab) {f : FuncId} {fn : Func} {c : Code} {pre post : List AV} {B B' : LB} {r : AV} {rs : List ResultVar} {n : Nat} (hf : P.funcs[f]? = some fn) (hb : fn.body = some c) (hr : fn.results.toList = rs) (hn : fn.ntmps = n) (hname : fn.name ≠ "runtime.NumGoroutine")
    (hlen : pre.length + post.length + 1 ≤ n) (hB : okL B) (hB' : okL B') (hlike : likeL B B')
    (h : AWP P c (retPA tab rs r B') (mk n (enumA 0 (pre ++ a0Of B :: post)) [(9001, B)] [a0Of B])) : SatP P f pre post B B' r := by
  subst hr hn
  refine ⟨⟨fn, hf, hname, by rw [hb]; simp⟩, hB, hB', hlike, fun w F us1 b0 v0 us2 S hF h1 h2 hrow hS hSf => ?_⟩
  have one : ∀ l B1, lookB [(9001, B)] l = some B1 → l = 9001 ∧ B1 = B := by
    intro l B1 hl
    simp only [lookB] at hl
    split at hl
    · exact ⟨‹_›, (Option.some.inj hl).symm⟩
    · cases hl
  have K0 : ∀ {lb : Lk} {g : Gh}, Keeps noLk g0 lb g := fun {lb} {g} => ⟨fun l B hl => by simp [noLk] at hl⟩
  have hhd : RepAV w F (lookB [(9001, B)]) (gV b0 v0 S) (a0Of B) (loanV B b0 v0) := by
    cases B with
    | var cells =>
      simp only [a0Of, RepAV, RepAC, loanV]
      exact ⟨rfl, _, by simp [lookB]; rfl, by simp [okPtrB, gV]⟩
    | arr e sz rows fz =>
      have hone : v0.oneCell' = true := by
        obtain ⟨_, _, xs, _, hown, _⟩ := hrow
        rcases hown.2 with ⟨e1, _⟩ | ⟨_, _, _, e1, _⟩ <;> (have e1 : v0 = _ := e1; rw [e1]; rfl)
      simp only [a0Of, RepAV, RepAC, loanV]
      exact ⟨hone, _, by simp [lookB]; rfl, by simp [okOwnB, gV]⟩
    | tok x => exact hB.elim
    | dead => exact hB.elim
  have hA : RepAVs w F (lookB [(9001, B)]) (gV b0 v0 S) (pre ++ a0Of B :: post) (us1 ++ loanV B b0 v0 :: us2) :=
    RepAVs.appendL (RepAVs.mono (Stays.refl _ _) K0 _ _ h1) ⟨loanV B b0 v0, us2, rfl, hhd, RepAVs.mono (Stays.refl _ _) K0 _ _ h2⟩
  have hal := RepAVs.len _ _ hA
  generalize hu0 : loanV B b0 v0 = u0 at hhd hA hal
  have hrow0 : RepLB w F (lookB [(9001, B)]) (gV b0 v0 S) 9001 B := clL_rep (g := gV b0 v0 S) (l := 0) hB rfl rfl rfl hrow
  have hsim : Sim w ⟨S, [u0]⟩ F F (gV b0 v0 S) (mk fn.ntmps (enumA 0 (pre ++ a0Of B :: post)) [(9001, B)] [a0Of B]) { tmps := (us1 ++ u0 :: us2).toArray ++ Array.replicate (fn.ntmps - (us1 ++ u0 :: us2).toArray.size) undef, defers := [] } w := {
    sz := by
      simp only [mk_n, Array.size_append, List.size_toArray, Array.size_replicate]
      rw [List.length_append, List.length_cons] at hal
      omega
    df := rfl
    sl := fun i => by
      have e : (us1 ++ u0 :: us2).toArray ++ Array.replicate (fn.ntmps - (us1 ++ u0 :: us2).toArray.size) undef = ((us1 ++ u0 :: us2) ++ List.replicate (fn.ntmps - (us1 ++ u0 :: us2).length) undef).toArray := by simp
      simp only [mk_sl, mk_lb, e, getD_toArray]
      rcases enumA_rep (pre ++ a0Of B :: post) (us1 ++ u0 :: us2) 0 i (List.replicate (fn.ntmps - (us1 ++ u0 :: us2).length) undef) hA with h | ⟨_, _, h⟩
      · rw [h]; simp only [RepAV]
      · exact h
    gh := ⟨u0, [], rfl, hhd, rfl⟩
    lb := fun l B1 hl => by
      obtain ⟨rfl, rfl⟩ := one l B1 hl
      exact hrow0
    so := fun l B1 hl => by
      obtain ⟨rfl, rfl⟩ := one l B1 hl
      exact okL_soft hrow0 (fun b hb o => (hSf b hb).2 o)
    nd := fun l B1 hl => hS
    dj := fun l l' B1 B2 hne hl hl' => by
      obtain ⟨rfl, _⟩ := one l B1 hl
      obtain ⟨rfl, _⟩ := one l' B2 hl'
      exact absurd rfl hne
    nw := fun l B1 hl b hb => ⟨.inr hb, (hSf b hb).1⟩
    f0 := fun _ _ h => h
    f1 := fun _ _ h => .inl h
    f2 := hF.lt
    tb := hF.tb.start (fun b hb => (hSf b hb).2)
    os := rfl
    tape := rfl
    output := rfl
    size := Nat.le_refl _
    block := fun _ _ _ => rfl }
  refine calls_of_wp hf hb (wp_mono (h w ⟨S, [u0]⟩ F _ w ⟨F, gV b0 v0 S, hsim⟩) ?_)
  rintro ex a' w' ⟨s', hq, F1, g2, hs'⟩
  have main : retPS tab fn.results.toList r B' s' → ∃ v, (results fn a'.tmps).run P w' = .ok v w' ∧ ∃ v1 F' S', Ending.returned v = .returned v1 ∧ RepAV w' F' noLk g0 r v1 ∧ RepLB w' F' noLk (gV b0 v0 S') 0 B' ∧ S'.Nodup ∧
      (∀ b, b ∈ S' → (b ∈ S ∨ w.heap.size ≤ b) ∧ b < w'.heap.size ∧ ∀ o, ¬ F' b o) ∧ (∀ b o, F b o → F' b o) ∧ (∀ b o, F' b o → F b o ∨ w.heap.size ≤ b ∨ b ∈ S) ∧ (∀ b o, F' b o → b < w'.heap.size) ∧
      w'.os = w.os ∧ w'.tape = w.tape ∧ w'.output = w.output ∧ w.heap.size ≤ w'.heap.size ∧ ∀ k, k < w.heap.size → k ∉ S → w'.heap[k]? = w.heap[k]? := by
    intro hq
    unfold retPS at hq
    split at hq
    case h_2 => exact hq.elim
    rename_i p vs ho
    obtain ⟨hp, hv1, hjr, hno, hl9, hghe⟩ := hq
    obtain ⟨us, hrun, hargs⟩ := results_run hT hs' rfl ho hp
    obtain ⟨F2, hs2, u1, p1⟩ := hs'.freezes (vs.flatMap AV.owns)
    have hargs1 := RepAVs.mono (w := w') (w' := w') ⟨u1, fun _ _ _ => rfl⟩ (Keeps.refl s'.lb g2) _ _ hargs
    have hv := viewAVs_sound' hs' u1 _ _ _ (viewAVs_ok hv1) hargs1 (fun l hl => p1 l hl)
    have hl2 : (s'.frzs (vs.flatMap AV.owns)).lb 9001 = some B' := by rw [frzs_other _ _ _ hno]; exact hl9
    have hrl := hs2.lb 9001 B' hl2
    have hun := okL_un hB' hrl (hs2.so 9001 B' hl2)
    have hgh := hs2.gh
    rw [frzs_gh, hghe] at hgh
    simp only [RepAVs] at hgh
    obtain ⟨u, us', he, hgu, _⟩ := hgh
    obtain ⟨rfl, _⟩ := List.cons.inj he
    have hrow' : RepLB w' F2 noLk (gV b0 v0 (g2.ds 9001)) 0 B' := by
      cases B with
      | var cells =>
        cases B' <;> simp only [likeL] at hlike
        simp only [a0Of, RepAV, RepAC] at hgu
        obtain ⟨_, B1, hB1, hq⟩ := hgu
        rw [hl2] at hB1
        obtain rfl := Option.some.inj hB1
        simp only [okPtrB] at hq
        rw [← hu0] at hq
        simp only [loanV, Value.pointer.injEq, Option.some.injEq, Addr.mk.injEq, and_true] at hq
        obtain ⟨cs, e, k1, k2, k3⟩ := hrl
        exact ⟨cs, e, by simp only [gV]; rw [hq]; exact k1, clA_acs hB' k2, by simp only [gV]; rw [hq]; exact k3⟩
      | arr e sz rows fz =>
        cases B' <;> simp only [likeL] at hlike
        obtain ⟨rfl, rfl, hle, rfl⟩ := hlike
        simp only [a0Of, RepAV, RepAC] at hgu
        obtain ⟨_, B1, hB1, hq⟩ := hgu
        rw [hl2] at hB1
        obtain rfl := Option.some.inj hB1
        have hq := hq.2 rfl
        rw [← hu0] at hq
        exact clR_row (g := g2) (l := 9001) hB'.2.2.1 (by simp only [gV]; exact hq) (by simp only [gV]) hrl
      | tok x => exact hB.elim
      | dead => exact hB.elim
    refine ⟨_, hrun, _, F2, g2.ds 9001, rfl, ?_, hrow', hs2.nd 9001 B' hl2, fun b hb => ⟨((hs2.nw 9001 B' hl2 b hb).1).symm, (hs2.nw 9001 B' hl2 b hb).2, hun b hb⟩, hs2.f0, hs2.f1, hs2.f2, hs2.os, hs2.tape, hs2.output, hs2.size, fun k hk hk' => hs2.block k hk hk'⟩
    subst hjr
    clear hrun
    generalize hds : vAVs s'.lb vs = ds at hv ⊢
    cases ds with
    | nil =>
      simp only [RepAVs] at hv
      subst hv
      simp only [joinR, RepAV, RepAVs]
      exact ⟨[], rfl, rfl⟩
    | cons d ds =>
      simp only [RepAVs] at hv
      obtain ⟨u, us', rfl, k1, k2⟩ := hv
      cases ds with
      | nil => simp only [RepAVs] at k2; subst k2; exact k1
      | cons d' ds =>
        simp only [RepAVs] at k2
        obtain ⟨u', us', rfl, k3, k4⟩ := k2
        simp only [joinR, RepAV, RepAVs]
        exact ⟨u :: u' :: us', rfl, u, u' :: us', rfl, k1, u', us', rfl, k3, k4⟩
  cases ex with
  | normal => exact ⟨hs'.df, main hq⟩
  | ret => exact ⟨hs'.df, main hq⟩
  | _ => exact hq.elim
theorem satP_of_code (hT : TabOk P tab) (hm : P.follows .mixedOrders = true) {f : FuncId} {fn : Func} {c : Code} {pre post : List AV} {B B' : LB} {r : AV} {rs : List ResultVar} {n : Nat} (hf : P.funcs[f]? = some fn) (hb : fn.body = some c) (hr : fn.results.toList = rs) (hn : fn.ntmps = n) (hname : fn.name ≠ "runtime.NumGoroutine")
    (hok : okCode c = true) (hlen : pre.length + post.length + 1 ≤ n) (hB : okL B) (hB' : okL B') (hlike : likeL B B')
    (h : codeK P tab c (retPA tab rs r B') (mk n (enumA 0 (pre ++ a0Of B :: post)) [(9001, B)] [a0Of B])) : SatP P f pre post B B' r :=
  satP_of_awp hT hf hb hr hn hname hlen hB hB' hlike (codeK_sound hT hm c _ _ hok h)
theorem satP_of_codeD (Δ : List (Nat × List Pr)) (hT : TabOk P tab) (hm : P.follows .mixedOrders = true) {f : FuncId} {fn : Func} {c : Code} {pre post : List AV} {B B' : LB} {r : AV} {rs : List ResultVar} {n : Nat} (hf : P.funcs[f]? = some fn) (hb : fn.body = some c) (hr : fn.results.toList = rs) (hn : fn.ntmps = n) (hname : fn.name ≠ "runtime.NumGoroutine")
    (hok : okCodeD Δ c = true) (hlen : pre.length + post.length + 1 ≤ n) (hB : okL B) (hB' : okL B') (hlike : likeL B B')
    (h : codeD P tab Δ c (retPA tab rs r B') (mk n (enumA 0 (pre ++ a0Of B :: post)) [(9001, B)] [a0Of B])) : SatP P f pre post B B' r :=
  satP_of_awp hT hf hb hr hn hname hlen hB hB' hlike (codeD_sound Δ hT hm c _ _ hok h)
theorem satN_of_code (hT : TabOk P tab) (hm : P.follows .mixedOrders = true) {f : FuncId} {fn : Func} {c : Code} {args : List AV} {cells : List AC} {rs : List ResultVar} {n : Nat} (hf : P.funcs[f]? = some fn) (hb : fn.body = some c) (hr : fn.results.toList = rs) (hn : fn.ntmps = n) (hname : fn.name ≠ "runtime.NumGoroutine")
    (hok : okCode c = true) (hlen : args.length ≤ n) (hcl : ∀ a, a ∈ cells → clA a = true) (h : codeK P tab c (retNA tab rs cells) (mk n (enumA 0 args) [])) : SatN P f args cells := by
  subst hr hn
  refine ⟨⟨fn, hf, hname, by rw [hb]; simp⟩, hcl, fun w F us hF hrep => ?_⟩
  refine calls_of_wp hf hb (wp_mono (codeK_sound hT hm c _ _ hok h w ⟨[], []⟩ F _ w ⟨F, g0, entry_sim hF hlen hrep⟩) ?_)
  rintro e a' w' ⟨s', hq, F1, g1, hs'⟩
  have main : retNS tab fn.results.toList cells s' → ∃ v, (results fn a'.tmps).run P w' = .ok v w' ∧ ∃ b F', Ending.returned v = .returned (.pointer (some ⟨b, 0, none⟩)) ∧ RepLB w' F' noLk (gV b undef [b]) 0 (.var cells) ∧ Below w.heap.size w w' ∧ w.heap.size ≤ b ∧ b < w'.heap.size ∧ (∀ o, ¬ F' b o) ∧
      (∀ b o, F b o → F' b o) ∧ (∀ b o, F' b o → F b o ∨ w.heap.size ≤ b) ∧ (∀ b o, F' b o → b < w'.heap.size) := by
    intro hq
    unfold retNS at hq
    split at hq
    case h_2 => exact hq.elim
    rename_i p l off ho
    obtain ⟨hp, rfl, hl⟩ := hq
    obtain ⟨us', hrun, hargs⟩ := results_run hT hs' rfl ho hp
    simp only [RepAVs, RepAV, RepAC] at hargs
    obtain ⟨u, _, rfl, ⟨_, B, hB, hq⟩, rfl⟩ := hargs
    rw [hl] at hB
    obtain rfl := Option.some.inj hB
    simp only [okPtrB] at hq
    subst hq
    obtain ⟨cs, e, k1, k2, k3⟩ := hs'.lb l _ hl
    have hso := hs'.so l _ hl
    simp only [SoftOk] at hso
    have hnw := hs'.nw l _ hl (g1.bl l) (by rw [k3]; simp)
    exact ⟨_, hrun, g1.bl l, F1, rfl, ⟨cs, e, k1, clA_acs hcl k2, rfl⟩, ⟨hs'.os, hs'.tape, hs'.output, hs'.size, fun k hk => hs'.block k hk (fun h => by cases h)⟩, hnw.1.resolve_right (fun hq => by cases hq), hnw.2, hso, hs'.f0, fun b o hb => (hs'.f1 b o hb).imp id (fun hq => hq.elim id (fun hq => by cases hq)), hs'.f2⟩
  cases e with
  | normal => exact ⟨hs'.df, main hq⟩
  | ret => exact ⟨hs'.df, main hq⟩
  | _ => exact hq.elim
end Go.Ai
