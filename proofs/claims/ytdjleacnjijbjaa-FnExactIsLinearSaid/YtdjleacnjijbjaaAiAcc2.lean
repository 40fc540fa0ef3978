/- A contract of a function that is given a row and gives it back grown, from its code. -/
import Derived.Test.YtdjleacnjijbjaaAiClose
import Derived.Test.YtdjleacnjijbjaaAiEval
namespace Go.Ai
set_option linter.unusedVariables false
set_option linter.unusedSimpArgs false
open Go.RowKit

variable {P : Program} {tab : Tab}

def retAS (tab : Tab) (rs : List ResultVar) (e : TypeId) (sz : Nat) (rows' : List (List AC)) (rest : List AV) (s : St) : Prop :=
  match resVs tab s rs with
  | some (p, .one (.own l n) :: vs) => p ∧ vs = rest ∧ n = rows'.length ∧ s.lb l = some (.arr e sz rows' false)
  | some (p, .one .nil :: vs) => p ∧ vs = rest ∧ rows' = []
  | _ => False
def retAA (tab : Tab) (rs : List ResultVar) (e : TypeId) (sz : Nat) (rows' : List (List AC)) (rest : List AV) : Exit → St → Prop
  | .normal, s => retAS tab rs e sz rows' rest s
  | .ret, s => retAS tab rs e sz rows' rest s
  | _, _ => False
theorem retAA_normal {rs : List ResultVar} {e : TypeId} {sz : Nat} {rows' : List (List AC)} {rest : List AV} {s : St} : retAA tab rs e sz rows' rest .normal s = retAS tab rs e sz rows' rest s := rfl
theorem retAA_ret {rs : List ResultVar} {e : TypeId} {sz : Nat} {rows' : List (List AC)} {rest : List AV} {s : St} : retAA tab rs e sz rows' rest .ret s = retAS tab rs e sz rows' rest s := rfl
attribute [go_sem] retAA_normal retAA_ret retAS accR dropA

theorem RepAVs.appendL {w : World} {F : Fz} {lb : Lk} {g : Gh} : ∀ {vs ws : List AV} {us us' : List Value}, RepAVs w F lb g vs us → RepAVs w F lb g ws us' → RepAVs w F lb g (vs ++ ws) (us ++ us')
  | [], _, _, _, h, k => by simp only [RepAVs] at h; subst h; exact k
  | v :: vs, _, _, _, h, k => by
    simp only [RepAVs] at h
    obtain ⟨u, us, rfl, h1, h2⟩ := h
    exact ⟨u, _, rfl, h1, RepAVs.appendL h2 k⟩

theorem satA_of_code (hT : TabOk P tab) (hm : P.follows .mixedOrders = true) {f : FuncId} {fn : Func} {c : Code} {pre post : List AV} {e : TypeId} {sz : Nat} {rows rows' : List (List AC)} {rest : List AV} {rs : List ResultVar} {n : Nat} (hf : P.funcs[f]? = some fn) (hb : fn.body = some c) (hr : fn.results.toList = rs) (hn : fn.ntmps = n) (hname : fn.name ≠ "runtime.NumGoroutine")
    (hok : okCode c = true) (hlen : pre.length + post.length + 1 ≤ n) (hsz : 0 < sz) (hpl : rest.all plainR1 = true) (hcl : clR rows) (hcl' : clR rows') (hnd : noD rows = true) (hnd' : noD rows' = true)
    (h : codeK P tab c (retAA tab rs e sz rows' rest) (mk n (enumA 0 (pre ++ .one (.own 9001 rows.length) :: post)) [(9001, .arr e sz rows false)])) : SatA P f pre post e sz rows rows' rest := by
  subst hr hn
  refine ⟨⟨fn, hf, hname, by rw [hb]; simp⟩, hsz, hpl, hcl, hcl', hnd, hnd', fun w F us1 v0 us2 S hF h1 h2 hrow hS hSf => ?_⟩
  have one : ∀ l B, lookB [(9001, LB.arr e sz rows false)] l = some B → l = 9001 ∧ B = .arr e sz rows false := by
    intro l B hl
    simp only [lookB] at hl
    split at hl
    · exact ⟨‹_›, (Option.some.inj hl).symm⟩
    · cases hl
  have K0 : ∀ {lb : Lk} {g : Gh}, Keeps noLk g0 lb g := fun {lb} {g} => ⟨fun l B hl => by simp [noLk] at hl⟩
  have hone : v0.oneCell' = true := by
    obtain ⟨_, _, xs, _, hown, _⟩ := hrow
    rcases hown.2 with ⟨e1, _⟩ | ⟨_, _, _, e1, _⟩ <;> (have e1 : v0 = _ := e1; rw [e1]; rfl)
  have hhd : RepAV w F (lookB [(9001, LB.arr e sz rows false)]) (gA v0 S) (.one (.own 9001 rows.length)) v0 := by
    simp only [RepAV, RepAC]
    exact ⟨hone, _, by simp [lookB]; rfl, by simp [okOwnB, gA]⟩
  have hA : RepAVs w F (lookB [(9001, LB.arr e sz rows false)]) (gA v0 S) (pre ++ .one (.own 9001 rows.length) :: post) (us1 ++ v0 :: us2) :=
    RepAVs.appendL (RepAVs.mono (Stays.refl _ _) K0 _ _ h1) ⟨v0, us2, rfl, hhd, RepAVs.mono (Stays.refl _ _) K0 _ _ h2⟩
  have hal := RepAVs.len _ _ hA
  have hds : ∀ b, b ∈ blkOf v0 → b ∈ S := by
    obtain ⟨_, _, _, _, _, _, hd⟩ := hrow
    intro b hb
    have : S = blkOf v0 ++ _ := hd
    rw [this]; simp [hb]
  have hsim : Sim w ⟨S, []⟩ F F (gA v0 S) (mk fn.ntmps (enumA 0 (pre ++ .one (.own 9001 rows.length) :: post)) [(9001, .arr e sz rows false)] []) { tmps := (us1 ++ v0 :: us2).toArray ++ Array.replicate (fn.ntmps - (us1 ++ v0 :: us2).toArray.size) undef, defers := [] } w := {
    sz := by
      simp only [mk_n, Array.size_append, List.size_toArray, Array.size_replicate]
      rw [List.length_append, List.length_cons] at hal
      omega
    df := rfl
    sl := fun i => by
      have e : (us1 ++ v0 :: us2).toArray ++ Array.replicate (fn.ntmps - (us1 ++ v0 :: us2).toArray.size) undef = ((us1 ++ v0 :: us2) ++ List.replicate (fn.ntmps - (us1 ++ v0 :: us2).length) undef).toArray := by simp
      simp only [mk_sl, mk_lb, e, getD_toArray]
      rcases enumA_rep (pre ++ .one (.own 9001 rows.length) :: post) (us1 ++ v0 :: us2) 0 i (List.replicate (fn.ntmps - (us1 ++ v0 :: us2).length) undef) hA with h | ⟨_, _, h⟩
      · rw [h]; simp only [RepAV]
      · exact h
    gh := rfl
    lb := fun l B hl => by
      obtain ⟨rfl, rfl⟩ := one l B hl
      exact clR_row (g := gA v0 S) (l := 0) hcl rfl rfl hrow
    so := fun l B hl => by
      obtain ⟨rfl, rfl⟩ := one l B hl
      simp only [SoftOk]
      exact ⟨fun b hb o _ => (hSf b (hds b hb)).2 o, fun _ _ b hb o => (hSf b hb).2 o⟩
    nd := fun l B hl => hS
    dj := fun l l' B B' hne hl hl' => by
      obtain ⟨rfl, _⟩ := one l B hl
      obtain ⟨rfl, _⟩ := one l' B' hl'
      exact absurd rfl hne
    nw := fun l B hl b hb => ⟨.inr hb, (hSf b hb).1⟩
    f0 := fun _ _ h => h
    f1 := fun _ _ h => .inl h
    f2 := hF
    os := rfl
    tape := rfl
    output := rfl
    size := Nat.le_refl _
    block := fun _ _ _ => rfl }
  refine calls_of_wp hf hb (wp_mono (codeK_sound hT hm c _ _ hok h w ⟨S, []⟩ F _ w ⟨F, gA v0 S, hsim⟩) ?_)
  rintro ex a' w' ⟨s', hq, F1, g2, hs'⟩
  have main : retAS tab fn.results.toList e sz rows' rest s' → ∃ v, (results fn a'.tmps).run P w' = .ok v w' ∧ ∃ v1 vs F' S', Ending.returned v = .returned (accV v1 vs) ∧ RepAVs w' F' noLk g0 rest vs ∧ RepLB w' F' noLk (gA v1 S') 0 (.arr e sz rows' false) ∧ S'.Nodup ∧
      (∀ b, b ∈ S' → (b ∈ S ∨ w.heap.size ≤ b) ∧ b < w'.heap.size ∧ ∀ o, ¬ F' b o) ∧ (∀ b o, F b o → F' b o) ∧ (∀ b o, F' b o → F b o ∨ w.heap.size ≤ b ∨ b ∈ S) ∧ (∀ b o, F' b o → b < w'.heap.size) ∧
      w'.os = w.os ∧ w'.tape = w.tape ∧ w'.output = w.output ∧ w.heap.size ≤ w'.heap.size ∧ ∀ k, k < w.heap.size → k ∉ S → w'.heap[k]? = w.heap[k]? := by
    intro hq
    unfold retAS at hq
    have jn : ∀ (u : Value) (us : List Value), joinU (u :: us) = accV u us := fun u us => by cases us <;> rfl
    split at hq
    · rename_i p l k vs ho
      obtain ⟨hp, rfl, hk, hl⟩ := hq
      obtain ⟨us, hrun, hargs⟩ := results_run hT hs' rfl ho hp
      simp only [RepAVs, RepAV] at hargs
      obtain ⟨u, us', rfl, hu, hrest⟩ := hargs
      simp only [RepAC] at hu
      obtain ⟨_, B, hB, hq⟩ := hu
      rw [hl] at hB
      obtain rfl := Option.some.inj hB
      have hux : u = g2.hd l := hq.2 hk
      have hun : ∀ b, b ∈ g2.ds l → ∀ o, ¬ F1 b o := (hs'.so l _ hl).2 rfl hnd'
      refine ⟨_, hrun, u, us', F1, g2.ds l, by rw [jn], plainRs_rep hpl hrest, clR_row (g := g2) (l := l) hcl' hux rfl (hs'.lb l _ hl), hs'.nd l _ hl, fun b hb => ⟨((hs'.nw l _ hl b hb).1).symm, (hs'.nw l _ hl b hb).2, hun b hb⟩, hs'.f0, hs'.f1, hs'.f2, hs'.os, hs'.tape, hs'.output, hs'.size, fun k hk hk' => hs'.block k hk hk'⟩
    · rename_i p vs ho
      obtain ⟨hp, rfl, rfl⟩ := hq
      obtain ⟨us, hrun, hargs⟩ := results_run hT hs' rfl ho hp
      simp only [RepAVs, RepAV] at hargs
      obtain ⟨u, us', rfl, hu, hrest⟩ := hargs
      simp only [RepAC] at hu
      subst hu
      exact ⟨_, hrun, _, us', F1, [], by rw [jn], plainRs_rep hpl hrest, ⟨hsz, by simp, [], [], ⟨by simp, .inl ⟨rfl, rfl⟩⟩, ⟨rfl, rfl⟩, rfl⟩, by simp, (fun b hb => by cases hb), hs'.f0, hs'.f1, hs'.f2, hs'.os, hs'.tape, hs'.output, hs'.size, fun k hk hk' => hs'.block k hk hk'⟩
    · exact hq.elim
  cases ex with
  | normal => exact ⟨hs'.df, main hq⟩
  | ret => exact ⟨hs'.df, main hq⟩
  | _ => exact hq.elim

/-- A row goes on under another number; one slot that holds it is told so. -/
theorem Sim.rename {w0 : World} {M0 : Ms} {F0 F : Fz} {g : Gh} {s : St} {a : Act} {w : World} (h : Sim w0 M0 F0 F g s a w) {l T : Nat} {e : TypeId} {sz : Nat} {rows : List (List AC)} (hl : s.lb l = some (.arr e sz rows false)) (hT : s.lb T = none) (hcl : clR rows) (hn : noD rows = true) :
    ∃ g', Sim w0 M0 F0 F g' ((s.put l .dead).put T (.arr e sz rows false)) a w ∧ ∀ u, RepAC w F s.lb g (.own l rows.length) u → RepAC w F ((s.put l .dead).put T (.arr e sz rows false)).lb g' (.own T rows.length) u := by
  have hne : l ≠ T := fun e => by rw [← e, hl] at hT; cases hT
  have hun : ∀ b, b ∈ g.ds l → ∀ o, ¬ F b o := (h.so l _ hl).2 rfl hn
  have hrep := h.lb l _ hl
  have K : Keeps s.lb g ((s.put l .dead).put T (.arr e sz rows false)).lb ((g.upd l (g.bl l) (g.hd l) []).upd T (g.bl T) (g.hd l) (g.ds l)) := by
    constructor
    intro k Bk hB
    by_cases e1 : k = T
    · subst e1; rw [hT] at hB; cases hB
    · by_cases e2 : k = l
      · subst e2
        refine ⟨.dead, by simp only [St.put_lb, if_neg e1, if_true], ?_⟩
        exact ⟨fun _ _ _ => trivial, fun _ _ _ => trivial, fun _ _ _ _ _ => trivial, fun _ _ _ => trivial⟩
      · refine ⟨Bk, by simp [St.put_lb, e1, e2, hB], ?_⟩
        simp only [Gh.upd, if_neg e1, if_neg e2]
        exact ⟨fun _ _ h => h, fun _ _ h => h, fun _ _ _ _ h => h, fun _ _ h => h⟩
  refine ⟨_, h.two hne (vT := g.hd l) (Sl := []) (ST := g.ds l) hl (fun b => b ∈ g.ds l) (fun b hb => .inl hb) (fun b hb => by cases hb) (fun b hb => hb) (by simp) (h.nd l _ hl) (fun b hb => by cases hb) (Stays.refl _ _) (fun b o hb => .inl hb) K trivial ?_ trivial ?_, ?_⟩
  · exact clR_row hcl (by simp [Gh.upd]) (by simp [Gh.upd]) hrep
  · obtain ⟨_, _, _, _, _, _, hd⟩ := hrep
    simp only [SoftOk, Gh.upd, if_true]
    exact ⟨fun b hb o _ => hun b (by rw [hd]; simp [hb]) o, fun _ _ b hb o => hun b hb o⟩
  · intro u hu
    simp only [RepAC] at hu ⊢
    obtain ⟨k1, B, hB, hq⟩ := hu
    rw [hl] at hB
    obtain rfl := Option.some.inj hB
    refine ⟨k1, .arr e sz rows false, by simp only [St.put_lb, if_true], ?_⟩
    simp only [okOwnB, Gh.upd, if_true]
    exact ⟨Nat.le_refl _, fun _ => hq.2 rfl⟩
section
variable {n : Nat} {L : List (Nat × AV)} {B : List (Nat × LB)} {G : List AV} {l : Nat} {e : TypeId} {sz : Nat} {rows : List (List AC)} {k t : Nat}
theorem wk_rename (T : Nat) (hl : lookB B l = some (.arr e sz rows false)) (hk : look L t = .one (.own l k)) (hkr : k = rows.length) (ht : t < n) (hT : lookB B T = none) (hcl : clR rows) (hn : noD rows = true) :
    Wk (mk n L B G) (mk n ((t, .one (.own T k)) :: L) ((T, .arr e sz rows false) :: (l, .dead) :: B) G) :=
  fun _ _ _ a _ ⟨F, g, h⟩ => by
    subst hkr
    obtain ⟨g', h', hu⟩ := h.rename (T := T) (by rw [mk_lb]; exact hl) (by rw [mk_lb]; exact hT) hcl hn
    have hs := h.sl t
    rw [mk_sl, hk] at hs
    simp only [RepAV] at hs
    have := h'.set (d := t) (v := .one (.own T rows.length)) ht (by simp only [RepAV]; exact hu _ hs)
    rw [put_same] at this
    exact ⟨F, g', this⟩
end
end Go.Ai
