/- Owned values from tokens into rows; loops whose states are told in another way at the start of a round. -/
import Derived.Test.YtgdmjekkdcjipaaGreatAiEval
set_option linter.unusedVariables false
set_option linter.unusedSimpArgs false
namespace Go.Ai
open Go.RowKit
section
variable {w0 : World} {M0 : Ms} {F0 F F' : Fz} {g : Gh} {s : St} {a : Act} {w : World}
theorem pX0 {rows : List (List AC)} {i c : Nat} {x y : AC} (hi : i < rows.length) (hc : (rows.getD i [])[c]? = some x) (hx : isD x = false) (h : noD (rows.set i ((rows.getD i []).set c y)) = true) : noD rows = true := by
 simp only [noD, List.all_eq_true, Bool.not_eq_true'] at h ⊢
 intro r hr z hz
 obtain ⟨j, hj, rfl⟩ := List.getElem_of_mem hr
 by_cases e : j = i
 ·subst e
  have hg : rows.getD j [] = rows[j] := by rw [List.getD_eq_getElem?_getD, List.getElem?_eq_getElem hj]; rfl
  rw [hg] at hc h
  have hs := h (rows[j].set c y) (List.mem_of_getElem? (i := j) (by rw [List.getElem?_set_self (by simpa using hj)]))
  obtain ⟨k, hk, rfl⟩ := List.getElem_of_mem hz
  by_cases e2 : k = c
  ·subst e2
   rw [List.getElem?_eq_getElem hk] at hc
   obtain rfl := Option.some.inj hc
   exact hx
  ·exact hs _ (List.mem_of_getElem? (i := k) (by rw [List.getElem?_set_ne (Ne.symm e2), List.getElem?_eq_getElem hk]))
 ·exact h rows[j] (List.mem_of_getElem? (i := j) (by rw [List.getElem?_set_ne (Ne.symm e), List.getElem?_eq_getElem hj])) z hz
theorem Sim.fillCell (h : Sim w0 M0 F0 F g s a w) {l : Nat} {e : TypeId} {sz : Nat} {rows : List (List AC)} {fz : Bool} {i c T j : Nat} {x : C} {xs : List (Option C)} {dd : Bool} (hl : s.lb l = some (.arr e sz rows fz)) (hi : i < rows.length) (hc : (rows.getD i [])[c]? = some (.tk T j)) (hT : s.lb T = some (.tok xs)) (hx : xs[j]? = some (some x))
  (hd : dd = false → fz = false) :
  ∃ F' g', Sim w0 M0 F0 F' g' ((s.put l (.arr e sz (rows.set i ((rows.getD i []).set c (if dd then .d x else .m x))) fz)).put T (.tok (xs.set j none))) a w := by
 have hne : l ≠ T := fun e => by rw [← e, hl] at hT; cases hT
 obtain ⟨hsz, hrl, vs, S, hown, hcells, hds⟩ := h.lb l _ hl
 obtain ⟨u, SA, Si, SB, rfl, hcell, hput⟩ := RepCells.at hi hc hcells
 obtain ⟨hcell, rfl⟩ : RepAC w F s.lb g (.tk T j) u ∧ Si = [] := hcell
 obtain ⟨us, hhd, huj, hts⟩ := wO1 h hT hcell
 obtain ⟨u', TA, Ti, TB, k1, k2, k3, k4, _⟩ := OwnTs.get _ _ _ _ _ hts hx
 rw [huj] at k1
 obtain rfl := Option.some.inj k1
 have hndl := h.nd l _ hl
 have hndT := h.nd T _ hT
 rw [hds] at hndl
 rw [k2] at hndT
 have hdj : ∀ b, b ∈ zV0 (g.hd l) ++ (SA ++ ([] ++ SB)) → b ∉ TA ++ (Ti ++ TB) := fun b hb hb' => h.dj l T _ _ hne hl hT b (by rw [hds]; exact hb) (by rw [k2]; exact hb')
 have hsoT := h.so T _ hT
 simp only [SoftOk] at hsoT
 have hsol := h.so l _ hl
 let F' : Fz := fun b o => F b o ∨ (dd = true ∧ b ∈ Ti)
 have st : Stays w w F F' := ⟨fun _ _ hb => .inl hb, fun _ _ _ => rfl⟩
 let B' : LB := .arr e sz (rows.set i ((rows.getD i []).set c (if dd then .d x else .m x))) fz
 have K : Keeps s.lb g ((s.put l B').put T (.tok (xs.set j none))).lb ((g.upd l (g.bl l) (g.hd l) (zV0 (g.hd l) ++ (SA ++ (Ti ++ SB)))).upd T (g.bl T) (.agg us.toArray) (TA ++ ([] ++ TB))) := by
  constructor
  intro k Bk hB
  by_cases e1 : k = T
  ·subst e1
   rw [hT] at hB
   obtain rfl := Option.some.inj hB
   refine ⟨.tok (xs.set j none), by simp only [St.put_lb, if_true], ?_⟩
   simp only [Gh.upd, if_true, hhd]
   exact ⟨fun _ _ h => h, fun _ _ h => h, fun _ _ _ _ h => h, fun _ _ h => h⟩
  ·by_cases e2 : k = l
   ·subst e2
    rw [hl] at hB
    obtain rfl := Option.some.inj hB
    refine ⟨B', by simp only [St.put_lb, if_neg e1, if_true], ?_⟩
    simp only [Gh.upd, if_neg e1, if_true, zK0, zx0, List.length_set, B']
    exact ⟨fun _ _ h => h, fun _ _ h => h, fun _ _ _ _ h => h, fun _ _ h => h⟩
   ·refine ⟨Bk, by simp [St.put_lb, e1, e2, hB], ?_⟩
    simp only [Gh.upd, if_neg e1, if_neg e2]
    exact ⟨fun _ _ h => h, fun _ _ h => h, fun _ _ _ _ h => h, fun _ _ h => h⟩
 simp only [List.nodup_append] at hndl hndT
 obtain ⟨n1, ⟨n2, ⟨_, n4, _⟩, n6⟩, n7⟩ := hndl
 obtain ⟨m1, ⟨m2, m3, m4⟩, m5⟩ := hndT
 refine ⟨F', _, h.two hne (vT := .agg us.toArray) (Sl := zV0 (g.hd l) ++ (SA ++ (Ti ++ SB))) (ST := TA ++ ([] ++ TB)) hl (fun b => b ∈ g.ds l ∨ b ∈ g.ds T) (fun b hb => hb.imp id (fun hb => ⟨_, hT, hb⟩)) ?_ ?_ ?_ ?_ ?_ st ?_ K ?_ ?_ ?_ ?_⟩
 ·intro b hb
  rw [hds, k2]
  simp only [List.mem_append, List.nil_append] at hb ⊢
  rcases hb with hb | hb | hb | hb <;> simp [hb]
 ·intro b hb
  rw [k2]
  simp only [List.mem_append, List.nil_append] at hb ⊢
  rcases hb with hb | hb <;> simp [hb]
 ·simp only [List.nodup_append]
  refine ⟨n1, ⟨n2, ⟨m2, n4, fun y hy z hz e => ?_⟩, fun y hy z hz e => ?_⟩, fun y hy z hz e => ?_⟩
  ·subst e; exact hdj y (by simp [hz]) (by simp [hy])
  ·subst e
   rcases List.mem_append.1 hz with hz | hz
   ·exact hdj y (by simp [hy]) (by simp [hz])
   ·exact n6 y hy y (by simp [hz]) rfl
  ·subst e
   simp only [List.mem_append] at hz
   rcases hz with hz | hz | hz
   ·exact n7 y hy y (by simp [hz]) rfl
   ·exact hdj y (by simp [hy]) (by simp [hz])
   ·exact n7 y hy y (by simp [hz]) rfl
 ·rw [List.nil_append, List.nodup_append]
  exact ⟨m1, m3, fun y hy z hz => m5 y hy z (by simp [hz])⟩
 ·intro b hb hb'
  rw [List.nil_append] at hb'
  simp only [List.mem_append] at hb hb'
  rcases hb with hb | hb | hb | hb
  ·exact hdj b (by simp [hb]) (by simp only [List.mem_append]; rcases hb' with q | q <;> simp [q])
  ·exact hdj b (by simp [hb]) (by simp only [List.mem_append]; rcases hb' with q | q <;> simp [q])
  ·rcases hb' with q | q
   ·exact m5 b q b (by simp [hb]) rfl
   ·exact m4 b hb b q rfl
  ·exact hdj b (by simp [hb]) (by simp only [List.mem_append]; rcases hb' with q | q <;> simp [q])
 ·intro b o hb
  refine hb.imp id (fun hb => .inr ?_)
  rw [k2]; simp [hb.2]
 ·refine ⟨hsz, cT0 hrl hi, vs, SA ++ (Ti ++ SB), ?_, hput _ Ti st K ?_, by simp [Gh.upd, hne]⟩
  ·simpa [Gh.upd, hne] using hown
  ·cases dd with
   | true => exact ⟨k3, Own.rd _ _ Ti (fun b o hb => .inr ⟨rfl, hb⟩) k3⟩
   | false => exact k3
 ·exact ⟨us, by simp [Gh.upd], by simpa [Gh.upd] using k4 none [] rfl⟩
 ·simp only [SoftOk, List.length_set] at hsol ⊢
  refine ⟨fun b hb o ho hf => ?_, fun hz hn b hb o hf => ?_⟩
  ·simp [Gh.upd, hne] at hb
   rcases hf with hf | ⟨_, hf⟩
   ·exact hsol.1 b hb o ho hf
   ·exact hdj b (by simp [hb]) (by simp [hf])
  ·simp only [Gh.upd, if_neg hne, if_true] at hb
   have hn0 := pX0 hi hc rfl hn
   have hdd : dd = false := by
    cases dd with
    | false => rfl
    | true =>
     exfalso
     simp only [noD, List.all_eq_true, Bool.not_eq_true'] at hn
     have hcl := (List.getElem?_eq_some_iff.1 hc).1
     have := hn ((rows.getD i []).set c (.d x)) (List.mem_of_getElem? (i := i) (by rw [List.getElem?_set_self hi]; rfl)) (.d x) (List.mem_of_getElem? (i := c) (by rw [List.getElem?_set_self hcl]))
     cases this
   rcases hf with hf | ⟨hd', _⟩
   ·simp only [List.mem_append] at hb
    rcases hb with hb | hb | hb | hb
    ·exact hsol.2 hz hn0 b (by rw [hds]; simp [hb]) o hf
    ·exact hsol.2 hz hn0 b (by rw [hds]; simp [hb]) o hf
    ·exact hsoT b (by rw [k2]; simp [hb]) o hf
    ·exact hsol.2 hz hn0 b (by rw [hds]; simp [hb]) o hf
   ·rw [hdd] at hd'; cases hd'
 ·simp only [SoftOk, Gh.upd, if_true]
  intro b hb o hf
  rcases hf with hf | ⟨_, hf⟩
  ·refine hsoT b ?_ o hf
   rw [k2]; simp only [List.mem_append, List.nil_append] at hb ⊢; rcases hb with hb | hb <;> simp [hb]
  ·simp only [List.mem_append, List.nil_append] at hb
   rcases hb with hb | hb
   ·exact m5 b hb b (by simp [hf]) rfl
   ·exact m4 b hf b hb rfl
end
section
variable {n : Nat} {L : List (Nat × AV)} {B : List (Nat × LB)} {G : List AV} {l : Nat} {e : TypeId} {sz : Nat} {rows : List (List AC)} {fz : Bool} {i c T j : Nat} {x : C} {xs : List (Option C)}
theorem vC1 (hl : zR0 B l = some (.arr e sz rows fz)) (hi : i < rows.length) (hc : (rows.getD i [])[c]? = some (.tk T j)) (hT : zR0 B T = some (.tok xs)) (hx : xs[j]? = some (some x)) :
  Wk (mk n L B G) (mk n L ((T, .tok (xs.set j none)) :: (l, .arr e sz (rows.set i ((rows.getD i []).set c (.d x))) fz) :: B) G) :=
 fun _ _ _ _ _ ⟨F, g, h⟩ => by
  obtain ⟨F', g', h'⟩ := h.fillCell (dd := true) (by rw [qs0]; exact hl) hi hc (by rw [qs0]; exact hT) hx (fun h => by cases h)
  exact ⟨F', g', h'⟩
theorem qU0 {r : List AC} (hl : zR0 B l = some (.arr e sz (rows ++ [r]) fz)) (hc : r[c]? = some (.tk T j)) (hT : zR0 B T = some (.tok xs)) (hx : xs[j]? = some (some x)) :
  Wk (mk n L B G) (mk n L ((T, .tok (xs.set j none)) :: (l, .arr e sz (rows ++ [r.set c (.d x)]) fz) :: B) G) := by
 have hg : (rows ++ [r]).getD rows.length [] = r := by simp
 have := vC1 (n := n) (L := L) (G := G) (i := rows.length) (c := c) hl (by simp) (by rw [hg]; exact hc) hT hx
 rw [hg] at this
 simpa [List.set_append_right] using this
end
variable {P : Program} {tab : Tab}
end Go.Ai
namespace Go.Ai
open Go.RowKit
section
variable {w0 : World} {M0 : Ms} {F0 F : Fz} {g : Gh} {s : St} {a : Act} {w : World}
end
theorem xt0 (a : Act) (t : Tmp) : a.put (some t) (a.tmps.getD t undef) = a := by
 obtain ⟨tmps, defers⟩ := a
 simp only [Act.put]
 congr 1
 apply Array.ext
 ·simp
 ·intro i h1 h2
  rw [Array.getElem_setIfInBounds (by simpa using h2)]
  split
  ·rename_i hi; subst hi; simp [Array.getD, h2]
  ·rfl
section
variable {n : Nat} {L : List (Nat × AV)} {B : List (Nat × LB)} {G : List AV} {l : Nat} {e : TypeId} {sz : Nat} {rows : List (List AC)} {rows' : List (List C)} {T k t : Nat}
end
end Go.Ai
namespace Go.Ai
open Go.RowKit
variable {P : Program} {tab : Tab}
def tA0 (tab : Tab) (rs : List ResultVar) (e : TypeId) (sz : Nat) (rows' : List (List AC)) (rest : List AV) (s : St) : Prop :=
 match kG0 tab s rs with
 | some (p, .one (.own l n) :: vs) => p ∧ vs = rest ∧ n = rows'.length ∧ s.lb l = some (.arr e sz rows' false)
 | some (p, .one .nil :: vs) => p ∧ vs = rest ∧ rows' = []
 | _ => False
def yg1 (tab : Tab) (rs : List ResultVar) (e : TypeId) (sz : Nat) (rows' : List (List AC)) (rest : List AV) : Exit → St → Prop
 | .normal, s => tA0 tab rs e sz rows' rest s
 | .ret, s => tA0 tab rs e sz rows' rest s
 | _, _ => False
theorem qj1 {rs : List ResultVar} {e : TypeId} {sz : Nat} {rows' : List (List AC)} {rest : List AV} {s : St} : yg1 tab rs e sz rows' rest .ret s = tA0 tab rs e sz rows' rest s := rfl
def kh1 (tab : Tab) (rs : List ResultVar) (rest : List AV) (s : St) : Prop :=
 match kG0 tab s rs with
 | some (p, _ :: vs) => p ∧ vs = rest
 | _ => False
def lG1 (tab : Tab) (rs : List ResultVar) (rest : List AV) : Exit → St → Prop
 | .normal, s => kh1 tab rs rest s
 | .ret, s => kh1 tab rs rest s
 | _, _ => False
attribute [go_sem] qj1 tA0 wj1 ye0 kh1 vk1
theorem RepAVs.appendL {w : World} {F : Fz} {lb : Lk} {g : Gh} : ∀ {vs ws : List AV} {us us' : List Value}, RepAVs w F lb g vs us → RepAVs w F lb g ws us' → RepAVs w F lb g (vs ++ ws) (us ++ us')
 | [], _, _, _, h, k => by simp only [RepAVs] at h; subst h; exact k
 | v :: vs, _, _, _, h, k => by
  simp only [RepAVs] at h
  obtain ⟨u, us, rfl, h1, h2⟩ := h
  exact ⟨u, _, rfl, h1, RepAVs.appendL h2 k⟩
theorem pn0 (hT : zU0 P tab) {f : FuncId} {fn : Func} {c : Code} {pre post : List AV} {e : TypeId} {sz : Nat} {rows rows' : List (List AC)} {rest : List AV} {rs : List ResultVar} {n : Nat} (hf : P.funcs[f]? = some fn) (hb : fn.body = some c) (hr : fn.results.toList = rs) (hn : fn.ntmps = n) (hname : fn.name ≠ "runtime.NumGoroutine")
  (hlen : pre.length + post.length + 1 ≤ n) (hsz : 0 < sz) (hpl : rest.all yk0 = true) (hcl : clR rows) (hcl' : clR rows') (hnd : noD rows = true) (hnd' : noD rows' = true)
  (h : AWP P c (yg1 tab rs e sz rows' rest) (mk n (qN0 0 (pre ++ .one (.own 9001 rows.length) :: post)) [(9001, .arr e sz rows false)])) : ff0 P f pre post e sz rows rows' rest := by
 subst hr hn
 refine ⟨⟨fn, hf, hname, by rw [hb]; simp⟩, hsz, hpl, hcl, hcl', hnd, hnd', fun w F us1 v0 us2 S hF h1 h2 hrow hS hSf => ?_⟩
 have one : ∀ l B, zR0 [(9001, LB.arr e sz rows false)] l = some B → l = 9001 ∧ B = .arr e sz rows false := by
  intro l B hl
  simp only [zR0] at hl
  split at hl
  ·exact ⟨‹_›, (Option.some.inj hl).symm⟩
  ·cases hl
 have K0 : ∀ {lb : Lk} {g : Gh}, Keeps noLk g0 lb g := fun {lb} {g} => ⟨fun l B hl => by simp [noLk] at hl⟩
 have hone : v0.oneCell' = true := by
  obtain ⟨_, _, xs, _, hown, _⟩ := hrow
  rcases hown.2 with ⟨e1, _⟩ | ⟨_, _, _, e1, _⟩ <;> (have e1 : v0 = _ := e1; rw [e1]; rfl)
 have hhd : RepAV w F (zR0 [(9001, LB.arr e sz rows false)]) (gA v0 S) (.one (.own 9001 rows.length)) v0 := by
  simp only [RepAV, RepAC]
  exact ⟨hone, _, by simp [zR0]; rfl, by simp [zK0, gA]⟩
 have hA : RepAVs w F (zR0 [(9001, LB.arr e sz rows false)]) (gA v0 S) (pre ++ .one (.own 9001 rows.length) :: post) (us1 ++ v0 :: us2) :=
  RepAVs.appendL (RepAVs.mono (Stays.refl _ _) K0 _ _ h1) ⟨v0, us2, rfl, hhd, RepAVs.mono (Stays.refl _ _) K0 _ _ h2⟩
 have hal := RepAVs.len _ _ hA
 have hds : ∀ b, b ∈ zV0 v0 → b ∈ S := by
  obtain ⟨_, _, _, _, _, _, hd⟩ := hrow
  intro b hb
  have : S = zV0 v0 ++ _ := hd
  rw [this]; simp [hb]
 have hsim : Sim w ⟨S, []⟩ F F (gA v0 S) (mk fn.ntmps (qN0 0 (pre ++ .one (.own 9001 rows.length) :: post)) [(9001, .arr e sz rows false)] []) { tmps := (us1 ++ v0 :: us2).toArray ++ Array.replicate (fn.ntmps - (us1 ++ v0 :: us2).toArray.size) undef, defers := [] } w := {
  sz := by
   simp only [xc1, Array.size_append, List.size_toArray, Array.size_replicate]
   rw [List.length_append, List.length_cons] at hal
   omega
  df := rfl
  sl := fun i => by
   have e : (us1 ++ v0 :: us2).toArray ++ Array.replicate (fn.ntmps - (us1 ++ v0 :: us2).toArray.size) undef = ((us1 ++ v0 :: us2) ++ List.replicate (fn.ntmps - (us1 ++ v0 :: us2).length) undef).toArray := by simp
   simp only [cB0, qs0, e, jG0]
   rcases kZ0 (pre ++ .one (.own 9001 rows.length) :: post) (us1 ++ v0 :: us2) 0 i (List.replicate (fn.ntmps - (us1 ++ v0 :: us2).length) undef) hA with h | ⟨_, _, h⟩
   ·rw [h]; simp only [RepAV]
   ·exact h
  gh := rfl
  lb := fun l B hl => by
   obtain ⟨rfl, rfl⟩ := one l B hl
   exact wn0 (g := gA v0 S) (l := 0) hcl rfl rfl hrow
  so := fun l B hl => by
   obtain ⟨rfl, rfl⟩ := one l B hl
   simp only [SoftOk]
   exact ⟨fun b hb o _ => (hSf b (hds b hb)).2 o, fun _ _ b hb o => (hSf b hb).2 o⟩
  nd := fun l B hl => hS
  dj := fun l l' B B' hne hl hl' => by
   obtain ⟨rfl, _⟩ := one l B hl
   obtain ⟨rfl, _⟩ := one l' B' hl'
   exact absurd rfl hne
  nw := fun l B hl b hb => ⟨.inr hb, (hSf b hb).1⟩
  f0 := fun _ _ h => h
  f1 := fun _ _ h => .inl h
  f2 := hF.lt
  tb := hF.tb.start (fun b hb => (hSf b hb).2)
  os := rfl
  tape := rfl
  output := rfl
  size := Nat.le_refl _
  block := fun _ _ _ => rfl }
 refine calls_of_wp hf hb (wp_mono (h w ⟨S, []⟩ F _ w ⟨F, gA v0 S, hsim⟩) ?_)
 rintro ex a' w' ⟨s', hq, F1, g2, hs'⟩
 have main : tA0 tab fn.results.toList e sz rows' rest s' → ∃ v, (results fn a'.tmps).run P w' = .ok v w' ∧ ∃ v1 vs F' S', Ending.returned v = .returned (vW1 v1 vs) ∧ RepAVs w' F' noLk g0 rest vs ∧ RepLB w' F' noLk (gA v1 S') 0 (.arr e sz rows' false) ∧ S'.Nodup ∧
   (∀ b, b ∈ S' → (b ∈ S ∨ w.heap.size ≤ b) ∧ b < w'.heap.size ∧ ∀ o, ¬ F' b o) ∧ (∀ b o, F b o → F' b o) ∧ (∀ b o, F' b o → F b o ∨ w.heap.size ≤ b ∨ b ∈ S) ∧ (∀ b o, F' b o → b < w'.heap.size) ∧
   w'.os = w.os ∧ w'.tape = w.tape ∧ w'.output = w.output ∧ w.heap.size ≤ w'.heap.size ∧ ∀ k, k < w.heap.size → k ∉ S → w'.heap[k]? = w.heap[k]? := by
  intro hq
  unfold tA0 at hq
  have jn : ∀ (u : Value) (us : List Value), sU0 (u :: us) = vW1 u us := fun u us => by cases us <;> rfl
  split at hq
  ·rename_i p l k vs ho
   obtain ⟨hp, rfl, hk, hl⟩ := hq
   obtain ⟨us, hrun, hargs⟩ := qR0 hT hs' rfl ho hp
   simp only [RepAVs, RepAV] at hargs
   obtain ⟨u, us', rfl, hu, hrest⟩ := hargs
   simp only [RepAC] at hu
   obtain ⟨_, B, hB, hq⟩ := hu
   rw [hl] at hB
   obtain rfl := Option.some.inj hB
   have hux : u = g2.hd l := hq.2 hk
   have hun : ∀ b, b ∈ g2.ds l → ∀ o, ¬ F1 b o := (hs'.so l _ hl).2 rfl hnd'
   refine ⟨_, hrun, u, us', F1, g2.ds l, by rw [jn], wu0 hpl hrest, wn0 (g := g2) (l := l) hcl' hux rfl (hs'.lb l _ hl), hs'.nd l _ hl, fun b hb => ⟨((hs'.nw l _ hl b hb).1).symm, (hs'.nw l _ hl b hb).2, hun b hb⟩, hs'.f0, hs'.f1, hs'.f2, hs'.os, hs'.tape, hs'.output, hs'.size, fun k hk hk' => hs'.block k hk hk'⟩
  ·rename_i p vs ho
   obtain ⟨hp, rfl, rfl⟩ := hq
   obtain ⟨us, hrun, hargs⟩ := qR0 hT hs' rfl ho hp
   simp only [RepAVs, RepAV] at hargs
   obtain ⟨u, us', rfl, hu, hrest⟩ := hargs
   simp only [RepAC] at hu
   subst hu
   exact ⟨_, hrun, _, us', F1, [], by rw [jn], wu0 hpl hrest, ⟨hsz, by simp, [], [], ⟨by simp, .inl ⟨rfl, rfl⟩⟩, ⟨rfl, rfl⟩, rfl⟩, by simp, (fun b hb => by cases hb), hs'.f0, hs'.f1, hs'.f2, hs'.os, hs'.tape, hs'.output, hs'.size, fun k hk hk' => hs'.block k hk hk'⟩
  ·exact hq.elim
 cases ex with
 | normal => exact ⟨hs'.df, main hq⟩
 | ret => exact ⟨hs'.df, main hq⟩
 | _ => exact hq.elim
theorem jS0 (hT : zU0 P tab) (hm : P.follows .mixedOrders = true) {f : FuncId} {fn : Func} {c : Code} {pre post : List AV} {e : TypeId} {sz : Nat} {rows rows' : List (List AC)} {rest : List AV} {rs : List ResultVar} {n : Nat} (hf : P.funcs[f]? = some fn) (hb : fn.body = some c) (hr : fn.results.toList = rs) (hn : fn.ntmps = n) (hname : fn.name ≠ "runtime.NumGoroutine")
  (hok : qo0 c = true) (hlen : pre.length + post.length + 1 ≤ n) (hsz : 0 < sz) (hpl : rest.all yk0 = true) (hcl : clR rows) (hcl' : clR rows') (hnd : noD rows = true) (hnd' : noD rows' = true)
  (h : qd0 P tab c (yg1 tab rs e sz rows' rest) (mk n (qN0 0 (pre ++ .one (.own 9001 rows.length) :: post)) [(9001, .arr e sz rows false)])) : ff0 P f pre post e sz rows rows' rest :=
 pn0 hT hf hb hr hn hname hlen hsz hpl hcl hcl' hnd hnd' (zn0 hT hm c _ _ hok h)
def dp1 (P : Program) (f : FuncId) (pre post : List AV) (e : TypeId) (sz : Nat) (rows : List (List AC)) (o : Option (List (List AC))) : Prop :=
 match o with
 | some rows' => ff0 P f pre post e sz rows rows' [.one (.c (.v (.bool true)))]
 | none => dU1 P f pre post e sz rows [.one (.c (.v (.bool false)))]
def mj1 (e : TypeId) (sz : Nat) (o : Option (List (List AC))) (s : St) (v : AV) (vs : List AV) : Prop :=
 match o with
 | some rows' => vs = [.one (.c (.v (.bool true)))] ∧ match v with
  | .one (.own l n) => n = rows'.length ∧ s.lb l = some (.arr e sz rows' false)
  | .one .nil => rows' = []
  | _ => False
 | none => vs = [.one (.c (.v (.bool false)))]
def kn1 (tab : Tab) (rs : List ResultVar) (e : TypeId) (sz : Nat) (o : Option (List (List AC))) (s : St) : Prop :=
 match kG0 tab s rs with
 | some (p, v :: vs) => p ∧ mj1 e sz o s v vs
 | _ => False
def lK1 (tab : Tab) (rs : List ResultVar) (e : TypeId) (sz : Nat) (o : Option (List (List AC))) : Exit → St → Prop
 | .normal, s => kn1 tab rs e sz o s
 | .ret, s => kn1 tab rs e sz o s
 | _, _ => False
attribute [go_sem] kn1
theorem Sim.rename {w0 : World} {M0 : Ms} {F0 F : Fz} {g : Gh} {s : St} {a : Act} {w : World} (h : Sim w0 M0 F0 F g s a w) {l T : Nat} {e : TypeId} {sz : Nat} {rows : List (List AC)} (hl : s.lb l = some (.arr e sz rows false)) (hT : s.lb T = none) (hcl : clR rows) (hn : noD rows = true) :
  ∃ g', Sim w0 M0 F0 F g' ((s.put l .dead).put T (.arr e sz rows false)) a w ∧ ∀ u, RepAC w F s.lb g (.own l rows.length) u → RepAC w F ((s.put l .dead).put T (.arr e sz rows false)).lb g' (.own T rows.length) u := by
 have hne : l ≠ T := fun e => by rw [← e, hl] at hT; cases hT
 have hun : ∀ b, b ∈ g.ds l → ∀ o, ¬ F b o := (h.so l _ hl).2 rfl hn
 have hrep := h.lb l _ hl
 have K : Keeps s.lb g ((s.put l .dead).put T (.arr e sz rows false)).lb ((g.upd l (g.bl l) (g.hd l) []).upd T (g.bl T) (g.hd l) (g.ds l)) := by
  constructor
  intro k Bk hB
  by_cases e1 : k = T
  ·subst e1; rw [hT] at hB; cases hB
  ·by_cases e2 : k = l
   ·subst e2
    refine ⟨.dead, by simp only [St.put_lb, if_neg e1, if_true], ?_⟩
    exact ⟨fun _ _ _ => trivial, fun _ _ _ => trivial, fun _ _ _ _ _ => trivial, fun _ _ _ => trivial⟩
   ·refine ⟨Bk, by simp [St.put_lb, e1, e2, hB], ?_⟩
    simp only [Gh.upd, if_neg e1, if_neg e2]
    exact ⟨fun _ _ h => h, fun _ _ h => h, fun _ _ _ _ h => h, fun _ _ h => h⟩
 refine ⟨_, h.two hne (vT := g.hd l) (Sl := []) (ST := g.ds l) hl (fun b => b ∈ g.ds l) (fun b hb => .inl hb) (fun b hb => by cases hb) (fun b hb => hb) (by simp) (h.nd l _ hl) (fun b hb => by cases hb) (Stays.refl _ _) (fun b o hb => .inl hb) K trivial ?_ trivial ?_, ?_⟩
 ·exact wn0 hcl (by simp [Gh.upd]) (by simp [Gh.upd]) hrep
 ·obtain ⟨_, _, _, _, _, _, hd⟩ := hrep
  simp only [SoftOk, Gh.upd, if_true]
  exact ⟨fun b hb o _ => hun b (by rw [hd]; simp [hb]) o, fun _ _ b hb o => hun b hb o⟩
 ·intro u hu
  simp only [RepAC] at hu ⊢
  obtain ⟨k1, B, hB, hq⟩ := hu
  rw [hl] at hB
  obtain rfl := Option.some.inj hB
  refine ⟨k1, .arr e sz rows false, by simp only [St.put_lb, if_true], ?_⟩
  simp only [zK0, Gh.upd, if_true]
  exact ⟨Nat.le_refl _, fun _ => hq.2 rfl⟩
section
variable {n : Nat} {L : List (Nat × AV)} {B : List (Nat × LB)} {G : List AV} {l : Nat} {e : TypeId} {sz : Nat} {rows : List (List AC)} {k t : Nat}
theorem zu0 (T : Nat) (hl : zR0 B l = some (.arr e sz rows false)) (hk : look L t = .one (.own l k)) (hkr : k = rows.length) (ht : t < n) (hT : zR0 B T = none) (hcl : clR rows) (hn : noD rows = true) :
  Wk (mk n L B G) (mk n ((t, .one (.own T k)) :: L) ((T, .arr e sz rows false) :: (l, .dead) :: B) G) :=
 fun _ _ _ a _ ⟨F, g, h⟩ => by
  subst hkr
  obtain ⟨g', h', hu⟩ := h.rename (T := T) (by rw [qs0]; exact hl) (by rw [qs0]; exact hT) hcl hn
  have hs := h.sl t
  rw [cB0, hk] at hs
  simp only [RepAV] at hs
  have := h'.set (d := t) (v := .one (.own T rows.length)) ht (by simp only [RepAV]; exact hu _ hs)
  rw [xt0] at this
  exact ⟨F, g', this⟩
end
end Go.Ai
namespace Go.Ai
open Go.RowKit
section
variable {w0 : World} {M0 : Ms} {F0 F : Fz} {g : Gh} {s : St} {a : Act} {w : World}
theorem Sim.nilRow (h : Sim w0 M0 F0 F g s a w) {T : Nat} (e : TypeId) {sz : Nat} (hsz : 0 < sz) (hT : s.lb T = none) :
  ∃ g', Sim w0 M0 F0 F g' (s.put T (.arr e sz [] false)) a w ∧ g'.hd T = .slice none 0 0 := by
 refine ⟨g.upd T (g.bl T) (.slice none 0 0) [], h.putLB (fun B hB => by rw [hT] at hB; cases hB) ?_ ?_ (by simp) (fun l' B _ _ k hk => by cases hk) (fun k hk => by cases hk), by simp [Gh.upd]⟩
 ·refine ⟨hsz, by simp, [], [], ⟨by simp, .inl ⟨by simp [Gh.upd], rfl⟩⟩, ⟨rfl, rfl⟩, by simp [Gh.upd, zV0, Value.ownBlock]⟩
 ·simp only [SoftOk, Gh.upd, if_true]
  exact ⟨fun b hb => by simp [zV0, Value.ownBlock] at hb, fun _ _ b hb => by cases hb⟩
end
section
variable {n : Nat} {L : List (Nat × AV)} {B : List (Nat × LB)} {G : List AV} {l : Nat} {e : TypeId} {sz : Nat} {rows : List (List AC)} {fz : Bool} {rows' : List (List C)} {T k t : Nat}
theorem yG0 (T : Nat) (e : TypeId) (sz : Nat) (hk : look L t = .one .nil) (ht : t < n) (hT : zR0 B T = none) (hsz : 0 < sz) :
  Wk (mk n L B G) (mk n ((t, .one (.own T 0)) :: L) ((T, .arr e sz [] false) :: B) G) :=
 fun _ _ _ a _ ⟨F, g, h⟩ => by
  obtain ⟨g', h', hd⟩ := h.nilRow (T := T) e hsz (by rw [qs0]; exact hT)
  have hs := h.sl t
  rw [cB0, hk] at hs
  simp only [RepAV, RepAC] at hs
  have := h'.set (d := t) (v := .one (.own T 0)) ht (u := a.tmps.getD t undef) (by
   simp only [RepAV, RepAC]
   refine ⟨by rw [hs]; rfl, .arr e sz [] false, by simp only [St.put_lb, if_true], ?_⟩
   simp only [zK0]
   exact ⟨Nat.le_refl _, fun _ => by rw [hd, hs]⟩)
  rw [xt0] at this
  exact ⟨F, g', this⟩
theorem xu0 {s : St} {ls : List Nat} {x : AC} {y : C} (h : yx0 s.lb x y) : yx0 (s.frzs ls).lb x y := by
 induction ls generalizing s with
 | nil => exact h
 | cons l ls ih =>
  refine ih (s := s.frz l) ?_
  cases x <;> simp only [yx0] at h ⊢ <;> try exact h
  obtain ⟨e, sz, rows, fz, rows', h1, h2⟩ := h
  obtain ⟨fz', h3⟩ := pK0 (l := l) h1
  exact ⟨e, sz, rows, fz', rows', h3, h2⟩
theorem vj0 (hl : zR0 B l = some (.arr e sz rows fz)) (hk : look L t = .one (.own l k)) (hkr : k = rows.length) (ht : t < n) (hr : (rows.map fun r => r.map unN) = rows'.map fun r => r.map AC.c) :
  Wk (mk n L B G) (mk n ((t, .one (.c (.sl rows'))) :: L) (pJ0 l B) G) :=
 fun _ _ _ a _ ⟨F, g, h⟩ => by
  obtain ⟨F1, h1, up, pf⟩ := h.freeze l
  have hs := h1.sl t
  simp only [St.frz_sl] at hs
  rw [cB0, hk] at hs
  simp only [RepAV] at hs
  have hv : yx0 (mk n L B G).lb (.own l k) (.sl rows') := ⟨e, sz, rows, fz, rows', by rw [qs0]; exact hl, hkr, hr, rfl⟩
  have hrd := qz0 h1 (fun _ _ hb => hb) (x := .own l k) (y := .sl rows') (xu0 (ls := [l]) hv) hs (fun l' hl' e' sz' rows1 fz' hq b o hb ho => by
   simp only [AC.owns, List.mem_singleton] at hl'
   subst hl'
   obtain ⟨fz2, hf2⟩ := pK0 (l := l') (s := mk n L B G) (k := l') (by rw [qs0]; exact hl)
   rw [hf2] at hq
   obtain ⟨rfl, rfl, rfl, _⟩ := LB.arr.inj (Option.some.inj hq)
   exact pf _ _ _ _ (by rw [qs0]; exact hl) b o hb ho)
  have := h1.set (d := t) (v := .one (.c (.sl rows'))) ht (u := a.tmps.getD t undef) (by simpa only [RepAV, RepAC] using hrd)
  rw [xt0, nq0, jO1] at this
  exact ⟨F1, g, this⟩
theorem cj0 (hk : look L t = .one .nil) (ht : t < n) : Wk (mk n L B G) (mk n ((t, .one (.c (.sl []))) :: L) B G) :=
 fun _ _ _ a _ ⟨F, g, h⟩ => by
  have hs := h.sl t
  rw [cB0, hk] at hs
  simp only [RepAV, RepAC] at hs
  have := h.set (d := t) (v := .one (.c (.sl []))) ht (u := a.tmps.getD t undef) (by
   simp only [RepAV, RepAC, Rd]
   exact ⟨none, 0, 1, hs, Nat.le_refl _, Nat.zero_le _, Nat.one_pos, fun _ => rfl, fun a ha => by cases ha⟩)
  rw [xt0] at this
  exact ⟨F, g, this⟩
theorem vr0 {w : World} {F : Fz} {lb : Lk} {g : Gh} : ∀ (cells : List AC) (i : Nat) (us : List Value), cells[i]? = some .nil → RepACs w F lb g cells us → RepACs w F lb g (cells.set i (.c (.sl []))) us
 | [], i, _, h, _ => by simp at h
 | a :: as, 0, us, h, hr => by
  simp at h; subst h
  simp only [RepACs, List.set_cons_zero] at hr ⊢
  obtain ⟨u, us', rfl, h1, h2⟩ := hr
  refine ⟨u, us', rfl, ?_, h2⟩
  simp only [RepAC] at h1
  simp only [RepAC, Rd]
  exact ⟨none, 0, 1, h1, Nat.le_refl _, Nat.zero_le _, Nat.one_pos, fun _ => rfl, fun a ha => by cases ha⟩
 | a :: as, i + 1, us, h, hr => by
  simp only [RepACs, List.set_cons_succ] at hr ⊢
  obtain ⟨u, us', rfl, h1, h2⟩ := hr
  exact ⟨u, us', rfl, h1, vr0 as i us' (by simpa using h) h2⟩
theorem fI0 {cells : List AC} (l i : Nat) (hl : zR0 B l = some (.var cells)) (hi : cells[i]? = some .nil) : Wk (mk n L B G) (mk n L ((l, .var (cells.set i (.c (.sl [])))) :: B) G) :=
 fun _ _ _ a _ ⟨F, g, h⟩ => by
  have hl' : (mk n L B G).lb l = some (.var cells) := by rw [qs0]; exact hl
  obtain ⟨cs, e, h1, h2, h3⟩ := h.lb l _ hl'
  have K : Keeps (mk n L B G).lb g ((mk n L B G).put l (.var (cells.set i (.c (.sl []))))).lb (g.upd l (g.bl l) (g.hd l) (g.ds l)) := Keeps.upd (fun B0 hB => by
   rw [hl'] at hB
   obtain rfl := Option.some.inj hB
   exact ⟨fun _ _ _ => trivial, fun _ _ h => h, fun _ _ _ _ _ => trivial, fun _ _ _ => trivial⟩)
  have := h.putLB (l := l) (b := g.bl l) (v := g.hd l) (S := g.ds l) (B' := .var (cells.set i (.c (.sl [])))) (fun B0 hB => by
   rw [hl'] at hB
   obtain rfl := Option.some.inj hB
   exact ⟨fun _ _ _ => trivial, fun _ _ h => h, fun _ _ _ _ _ => trivial, fun _ _ _ => trivial⟩)
   ⟨cs, e, by simpa [Gh.upd] using h1, RepACs.mono (Stays.refl _ _) K _ _ (vr0 _ i _ hi h2), by simpa [Gh.upd] using h3⟩
   (by have := h.so l _ hl'; simpa [SoftOk, Gh.upd] using this) (h.nd l _ hl') (fun l' B0 hne hB k hk hk' => h.dj l l' _ B0 (Ne.symm hne) hl' hB k hk hk') (fun k hk => h.nw l _ hl' k hk)
  exact ⟨F, _, this⟩
end
end Go.Ai
namespace Go.Ai
open Go.RowKit
variable {P : Program} {tab : Tab}
def fx1 : AC → Option Nat
 | .own l _ => some l
 | _ => none
def kb1 : List AC → Option Nat
 | [] => none
 | a :: as => match fx1 a with
  | some l => some l
  | none => kb1 as
def df1 : AV → Option Nat
 | .one a => fx1 a
 | .agg as => kb1 as
 | _ => none
def sn0 : List AV → Option Nat
 | [] => none
 | v :: vs => match df1 v with
  | some l => some l
  | none => sn0 vs
def xB1 (l : Option Nat) : AC → AC → Prop
 | .c x, .c y => x = y
 | .nil, .c y => y = .sl []
 | .e1, .c y => y = .sl []
 | .e0, .c y => y = .sl []
 | .own k n, .own j m => j = 0 ∧ l = some k ∧ n = m
 | .nil, .own j m => j = 0 ∧ l = none ∧ m = 0
 | _, _ => False
def yd1 (l : Option Nat) : List AC → List AC → Prop
 | [], [] => True
 | a :: as, b :: bs => xB1 l a b ∧ yd1 l as bs
 | _, _ => False
def xh1 (l : Option Nat) : AV → AV → Prop
 | .one a, .one b => xB1 l a b
 | .agg as, .agg bs => yd1 l as bs
 | _, _ => False
def yf1 (l : Option Nat) : List AV → List AV → Prop
 | [], [] => True
 | a :: as, b :: bs => xh1 l a b ∧ yf1 l as bs
 | _, _ => False
def gU0 (tab : Tab) (rs : List ResultVar) (e : TypeId) (sz : Nat) (rows : List (List AC)) (ds : List AV) (s : St) : Prop :=
 match kG0 tab s rs with
 | some (p, vs) => (p ∧ yf1 (sn0 vs) vs ds) ∧ match sn0 vs with
  | some l => s.lb l = some (.arr e sz rows false)
  | none => rows = []
 | none => False
def kk1 (tab : Tab) (rs : List ResultVar) (e : TypeId) (sz : Nat) (rows : List (List AC)) (ds : List AV) : Exit → St → Prop
 | .normal, s => gU0 tab rs e sz rows ds s
 | .ret, s => gU0 tab rs e sz rows ds s
 | _, _ => False
theorem qm1 {rs : List ResultVar} {e : TypeId} {sz : Nat} {rows : List (List AC)} {ds : List AV} {s : St} : kk1 tab rs e sz rows ds .ret s = gU0 tab rs e sz rows ds s := rfl
attribute [go_sem] qm1 gU0 fx1 kb1 df1 sn0 xB1 yd1 xh1 yf1 kg1 lK0 renVs
section
variable {w : World} {F : Fz} {lb : Lk} {g : Gh} {e : TypeId} {sz : Nat} {rows : List (List AC)} {v0 : Value} {S : List Nat}
def wf1 (l : Option Nat) (lb : Lk) (g : Gh) (e : TypeId) (sz : Nat) (rows : List (List AC)) (v0 : Value) : Prop :=
 match l with
 | some l => lb l = some (.arr e sz rows false) ∧ v0 = g.hd l
 | none => rows = [] ∧ v0 = .slice none 0 0
theorem rC0 {l : Option Nat} (hr : wf1 l lb g e sz rows v0) {a b : AC} {u : Value} (h : xB1 l a b) (hu : RepAC w F lb g a u) : okO b = true ∧ RepAC w F (lbO e sz rows) (gA v0 S) b u := by
 unfold xB1 at h
 split at h
 ·subst h; exact ⟨rfl, by simpa only [RepAC] using hu⟩
 ·subst h
  simp only [RepAC] at hu
  refine ⟨rfl, ?_⟩
  subst hu
  simp only [RepAC, Rd]
  exact ⟨none, 0, 1, rfl, Nat.le_refl _, Nat.zero_le _, Nat.one_pos, fun _ => rfl, fun a ha => by cases ha⟩
 ·subst h
  simp only [RepAC] at hu
  exact ⟨rfl, by simp only [RepAC]; exact jr1 hu⟩
 ·subst h
  simp only [RepAC] at hu
  exact ⟨rfl, by simp only [RepAC]; exact jq1 hu⟩
 ·obtain ⟨rfl, rfl, rfl⟩ := h
  obtain ⟨hl, rfl⟩ := hr
  simp only [RepAC] at hu
  obtain ⟨h1, B, hB, h2⟩ := hu
  rw [hl] at hB
  obtain rfl := Option.some.inj hB
  refine ⟨rfl, ?_⟩
  simp only [RepAC]
  exact ⟨h1, _, by simp [lbO]; rfl, by simpa [zK0, gA] using h2⟩
 ·obtain ⟨rfl, rfl, rfl⟩ := h
  obtain ⟨rfl, rfl⟩ := hr
  simp only [RepAC] at hu
  subst hu
  refine ⟨rfl, ?_⟩
  simp only [RepAC]
  exact ⟨rfl, _, by simp [lbO]; rfl, by simp [zK0, gA]⟩
 ·exact h.elim
theorem gR0 {l : Option Nat} (hr : wf1 l lb g e sz rows v0) : ∀ {as bs : List AC} {us : List Value}, yd1 l as bs → RepACs w F lb g as us → bs.all okO = true ∧ RepACs w F (lbO e sz rows) (gA v0 S) bs us
 | [], [], us, _, hu => ⟨rfl, by simpa only [RepACs] using hu⟩
 | a :: as, b :: bs, us, h, hu => by
  simp only [RepACs] at hu ⊢
  obtain ⟨u, us', rfl, h1, h2⟩ := hu
  obtain ⟨k1, k2⟩ := rC0 (S := S) hr h.1 h1
  obtain ⟨k3, k4⟩ := gR0 hr h.2 h2
  exact ⟨by simp [k1, k3], u, us', rfl, k2, k4⟩
 | [], _ :: _, _, h, _ => h.elim
 | _ :: _, [], _, h, _ => h.elim
theorem ye1 {l : Option Nat} (hr : wf1 l lb g e sz rows v0) {a b : AV} {u : Value} (h : xh1 l a b) (hu : RepAV w F lb g a u) : cE0 b = true ∧ RepAV w F (lbO e sz rows) (gA v0 S) b u := by
 unfold xh1 at h
 split at h
 ·simp only [RepAV] at hu ⊢
  obtain ⟨k1, k2⟩ := rC0 (S := S) hr h hu
  exact ⟨by simp only [cE0, k1], k2⟩
 ·simp only [RepAV] at hu ⊢
  obtain ⟨us, h1, h2⟩ := hu
  obtain ⟨k1, k2⟩ := gR0 (S := S) hr h h2
  exact ⟨by simp only [cE0, k1], us, h1, k2⟩
 ·exact h.elim
theorem jP0 {l : Option Nat} (hr : wf1 l lb g e sz rows v0) : ∀ {as bs : List AV} {us : List Value}, yf1 l as bs → RepAVs w F lb g as us → okOVs bs = true ∧ RepAVs w F (lbO e sz rows) (gA v0 S) bs us
 | [], [], us, _, hu => ⟨rfl, by simpa only [RepAVs] using hu⟩
 | a :: as, b :: bs, us, h, hu => by
  simp only [RepAVs] at hu ⊢
  obtain ⟨u, us', rfl, h1, h2⟩ := hu
  obtain ⟨k1, k2⟩ := ye1 (S := S) hr h.1 h1
  obtain ⟨k3, k4⟩ := jP0 hr h.2 h2
  exact ⟨by simp [okOVs, k1, k3], u, us', rfl, k2, k4⟩
 | [], _ :: _, _, h, _ => h.elim
 | _ :: _, [], _, h, _ => h.elim
theorem kg0 {ds : List AV} {us : List Value} (hne : ds ≠ []) (ho : okOVs ds = true) (h : RepAVs w F (lbO e sz rows) (gA v0 S) ds us) : cE0 (zy0 ds) = true ∧ RepAV w F (lbO e sz rows) (gA v0 S) (zy0 ds) (sU0 us) := by
 match ds, us, h with
 | [], _, _ => exact absurd rfl hne
 | [d], us, h =>
  simp only [RepAVs] at h
  obtain ⟨u, us', rfl, h1, rfl⟩ := h
  simp only [okOVs, Bool.and_true] at ho
  exact ⟨ho, h1⟩
 | d :: d' :: ds, us, h =>
  have h' := h
  simp only [RepAVs] at h'
  obtain ⟨u, us', rfl, _, u', us'', rfl, _⟩ := h'
  refine ⟨by simpa only [zy0, cE0] using ho, ?_⟩
  simp only [zy0, sU0, RepAV]
  exact ⟨u :: u' :: us'', rfl, h⟩
end
theorem yD0 (ds : List AV) {r : AV} (hds : zy0 ds = r) (hne : ds ≠ []) (hT : zU0 P tab) (hm : P.follows .mixedOrders = true) {f : FuncId} {fn : Func} {c : Code} {args : List AV} {e : TypeId} {sz : Nat} {rows : List (List AC)} {rs : List ResultVar} {n : Nat} (hf : P.funcs[f]? = some fn) (hb : fn.body = some c) (hr : fn.results.toList = rs) (hn : fn.ntmps = n) (hname : fn.name ≠ "runtime.NumGoroutine")
  (hok : qo0 c = true) (hlen : args.length ≤ n) (hsz : 0 < sz) (hcl : clR rows) (hnd : noD rows = true) (hod : okOVs ds = true)
  (h : qd0 P tab c (kk1 tab rs e sz rows ds) (mk n (qN0 0 args) [])) : SatO P f args e sz rows r := by
 subst hr hn hds
 have hj : cE0 (zy0 ds) = true := by
  match ds, hne, hod with
  | [d], _, hod => simpa only [zy0, okOVs, Bool.and_true] using hod
  | d :: d' :: ds, _, hod => simpa only [zy0, cE0] using hod
 refine ⟨⟨fn, hf, hname, by rw [hb]; simp⟩, hsz, hcl, hnd, hj, fun w F us hF hrep => ?_⟩
 refine calls_of_wp hf hb (wp_mono (zn0 hT hm c _ _ hok h w ⟨[], []⟩ F _ w ⟨F, g0, kY0 hF hlen hrep⟩) ?_)
 rintro ex a' w' ⟨s', hq, F1, g1, hs'⟩
 have main : gU0 tab fn.results.toList e sz rows ds s' → ∃ v, (results fn a'.tmps).run P w' = .ok v w' ∧ ∃ v1 F' v0 S, Ending.returned v = .returned v1 ∧ RepAV w' F' (lbO e sz rows) (gA v0 S) (zy0 ds) v1 ∧ RepLB w' F' noLk (gA v0 S) 0 (.arr e sz rows false) ∧ S.Nodup ∧
   (∀ b, b ∈ S → w.heap.size ≤ b ∧ b < w'.heap.size ∧ ∀ o, ¬ F' b o) ∧ (∀ b o, F b o → F' b o) ∧ (∀ b o, F' b o → F b o ∨ w.heap.size ≤ b) ∧ (∀ b o, F' b o → b < w'.heap.size) ∧ Below w.heap.size w w' := by
  intro hq
  unfold gU0 at hq
  split at hq
  case h_2 => exact hq.elim
  rename_i p vs ho
  obtain ⟨⟨hp, hrel⟩, hrow⟩ := hq
  obtain ⟨us', hrun, hargs⟩ := qR0 hT hs' rfl ho hp
  have below : Below w.heap.size w w' := ⟨hs'.os, hs'.tape, hs'.output, hs'.size, fun k hk => hs'.block k hk (fun h => by cases h)⟩
  have hf1 : ∀ b o, F1 b o → F b o ∨ w.heap.size ≤ b := fun b o hb => (hs'.f1 b o hb).imp id (fun hq => hq.elim id (fun hq => by cases hq))
  cases hl : sn0 vs with
  | some l =>
   rw [hl] at hrow hrel
   simp only at hrow
   obtain ⟨k1, k2⟩ := jP0 (S := g1.ds l) (v0 := g1.hd l) (l := some l) (lb := s'.lb) (g := g1) (e := e) (sz := sz) (rows := rows) ⟨hrow, rfl⟩ hrel hargs
   have hun : ∀ b, b ∈ g1.ds l → ∀ o, ¬ F1 b o := (hs'.so l _ hrow).2 rfl hnd
   exact ⟨_, hrun, _, F1, g1.hd l, g1.ds l, rfl, (kg0 hne k1 k2).2, wn0 (g := g1) (l := l) hcl rfl rfl (hs'.lb l _ hrow), hs'.nd l _ hrow, fun b hb => ⟨((hs'.nw l _ hrow b hb).1).resolve_right (fun hq => by cases hq), (hs'.nw l _ hrow b hb).2, hun b hb⟩, hs'.f0, hf1, hs'.f2, below⟩
  | none =>
   rw [hl] at hrow hrel
   simp only at hrow
   subst hrow
   obtain ⟨k1, k2⟩ := jP0 (S := []) (v0 := .slice none 0 0) (l := none) (lb := s'.lb) (g := g1) (e := e) (sz := sz) (rows := []) ⟨rfl, rfl⟩ hrel hargs
   exact ⟨_, hrun, _, F1, .slice none 0 0, [], rfl, (kg0 hne k1 k2).2, ⟨hsz, by simp, [], [], ⟨by simp, .inl ⟨rfl, rfl⟩⟩, ⟨rfl, rfl⟩, rfl⟩, by simp, (fun b hb => by cases hb), hs'.f0, hf1, hs'.f2, below⟩
 cases ex with
 | normal => exact ⟨hs'.df, main hq⟩
 | ret => exact ⟨hs'.df, main hq⟩
 | _ => exact hq.elim
def jm1 (rows' : List (List C)) : AC → AC
 | .own _ _ => .c (.sl rows')
 | a => a
mutual
def jJ1 (rows' : List (List C)) : AV → AV
 | .one a => .one (jm1 rows' a)
 | .agg as => .agg (as.map (jm1 rows'))
 | .tup vs => .tup (datVs rows' vs)
 | .any => .any
def datVs (rows' : List (List C)) : List AV → List AV
 | [] => []
 | v :: vs => jJ1 rows' v :: datVs rows' vs
end
def sP0 (n : Nat) : AC → Bool
 | .own _ m => m == n
 | _ => true
mutual
def mC0 (n : Nat) : AV → Bool
 | .one a => sP0 n a
 | .agg as => as.all (sP0 n)
 | .tup vs => fullVs n vs
 | .any => true
def fullVs (n : Nat) : List AV → Bool
 | [] => true
 | v :: vs => mC0 n v && fullVs n vs
end
attribute [go_sem] jm1 jJ1 datVs
section
variable {w : World} {F F' : Fz} {lb : Lk} {g : Gh} {e : TypeId} {sz : Nat} {rows : List (List AC)} {rows' : List (List C)} {v0 : Value} {S : List Nat}
theorem xD1 (up : ∀ b o, F b o → F' b o) (hF : ∀ b o, b ∈ zV0 v0 → o < rows.length * sz → F' b o) (hr : (rows.map fun r => r.map unN) = rows'.map fun r => r.map AC.c) (h : RepLB w F noLk (gA v0 S) 0 (.arr e sz rows false)) : Rd w F' (.sl rows') v0 := by
 obtain ⟨hsz, hrl, xs, S', hown, hcells, _⟩ := h
 have hlr : rows'.length = rows.length := by have := congrArg List.length hr; rw [List.length_map, List.length_map] at this; exact this.symm
 have hl' : ∀ r, r ∈ rows' → r.length = sz := by
  intro r hq
  have : r.map AC.c ∈ rows.map (fun r => r.map unN) := by rw [hr]; exact List.mem_map.2 ⟨r, hq, rfl⟩
  obtain ⟨q, hq1, hq2⟩ := List.mem_map.1 this
  have := congrArg List.length hq2
  rw [List.length_map, List.length_map] at this
  rw [← this]; exact hrl q hq1
 have hun := RepACs.mono (w' := w) ⟨up, fun _ _ _ => rfl⟩ (Keeps.refl noLk (gA v0 S)) _ _ (RepCells.unN hcells)
 rw [← jK0, hr] at hun
 simp only [Rd]
 rcases hown.2 with ⟨k1, k2⟩ | ⟨gg, cap, cur, k1, _, hh, hle, hcm, _, _⟩
 ·have k1 : v0 = .slice none 0 0 := k1
  exact ⟨none, 0, 1, by rw [k1, hlr, k2], by omega, Nat.zero_le _, Nat.one_pos, fun _ => rfl, fun a ha => by cases ha⟩
 ·have k1 : v0 = _ := k1
  refine ⟨some ⟨gg, 0, none⟩, cap, sz, by rw [k1, hlr], by omega, hcm, hsz, fun h => (by cases h), fun a ha => ?_⟩
  obtain rfl := Option.some.inj ha
  refine ⟨fun _ => rfl, mk0 rows' xs 0 hl' hun (fun j hj => ?_) (fun j u hj => ?_)⟩
  ·rw [Nat.zero_add]
   exact hF gg j (by rw [k1]; simp [zV0, Value.ownBlock]) (by rw [← hlr]; exact hj)
  ·have := hown.cells (g := gg) (by have : (gA v0 S).hd 0 = v0 := rfl; rw [this, k1]; rfl) j u hj
   rwa [wA0] at this
theorem nV0 (up : ∀ b o, F b o → F' b o) (hrd : Rd w F' (.sl rows') v0) {x : AC} {u : Value} (ho : okO x = true) (hf : sP0 rows.length x = true) (h : RepAC w F (lbO e sz rows) (gA v0 S) x u) : RepAC w F' noLk g0 (jm1 rows' x) u := by
 cases x <;> try (cases ho; done)
 ·simp only [jm1, RepAC] at h ⊢
  exact Rd.mono ⟨up, fun _ _ _ => rfl⟩ _ _ h
 ·simp only [RepAC] at h
  obtain ⟨h1, B, hB, h2⟩ := h
  simp only [sP0, beq_iff_eq] at hf
  unfold lbO at hB
  split at hB
  ·obtain rfl := Option.some.inj hB
   simp only [zK0] at h2
   have := h2.2 hf
   have this : u = v0 := this
   subst this
   simpa only [jm1, RepAC] using hrd
  ·cases hB
theorem dP0 (up : ∀ b o, F b o → F' b o) (hrd : Rd w F' (.sl rows') v0) : ∀ {xs : List AC} {us : List Value}, xs.all okO = true → xs.all (sP0 rows.length) = true → RepACs w F (lbO e sz rows) (gA v0 S) xs us → RepACs w F' noLk g0 (xs.map (jm1 rows')) us
 | [], us, _, _, h => by simpa only [List.map_nil, RepACs] using h
 | x :: xs, us, ho, hf, h => by
  simp only [List.all_cons, Bool.and_eq_true] at ho hf
  simp only [List.map_cons, RepACs] at h ⊢
  obtain ⟨u, us', rfl, h1, h2⟩ := h
  exact ⟨u, us', rfl, nV0 up hrd ho.1 hf.1 h1, dP0 up hrd ho.2 hf.2 h2⟩
mutual
theorem nW0 (up : ∀ b o, F b o → F' b o) (hrd : Rd w F' (.sl rows') v0) : ∀ (x : AV) (u : Value), cE0 x = true → mC0 rows.length x = true → RepAV w F (lbO e sz rows) (gA v0 S) x u → RepAV w F' noLk g0 (jJ1 rows' x) u
 | .one a, u, ho, hf, h => by simp only [cE0, mC0] at ho hf; simp only [jJ1, RepAV] at h ⊢; exact nV0 up hrd ho hf h
 | .agg as, u, ho, hf, h => by
  simp only [cE0, mC0] at ho hf
  simp only [jJ1, RepAV] at h ⊢
  obtain ⟨us, h1, h2⟩ := h
  exact ⟨us, h1, dP0 up hrd ho hf h2⟩
 | .tup vs, u, ho, hf, h => by
  simp only [cE0, mC0] at ho hf
  simp only [jJ1, RepAV] at h ⊢
  obtain ⟨us, h1, h2⟩ := h
  exact ⟨us, h1, datVs_rep up hrd vs us ho hf h2⟩
 | .any, _, _, _, _ => by simp only [jJ1, RepAV]
theorem datVs_rep (up : ∀ b o, F b o → F' b o) (hrd : Rd w F' (.sl rows') v0) : ∀ (xs : List AV) (us : List Value), okOVs xs = true → fullVs rows.length xs = true → RepAVs w F (lbO e sz rows) (gA v0 S) xs us → RepAVs w F' noLk g0 (datVs rows' xs) us
 | [], us, _, _, h => by simpa only [datVs, RepAVs] using h
 | x :: xs, us, ho, hf, h => by
  simp only [okOVs, fullVs, Bool.and_eq_true] at ho hf
  simp only [datVs, RepAVs] at h ⊢
  obtain ⟨u, us', rfl, h1, h2⟩ := h
  exact ⟨u, us', rfl, nW0 up hrd x u ho.1 hf.1 h1, datVs_rep up hrd xs us' ho.2 hf.2 h2⟩
end
end
theorem SatO.sat {f : FuncId} {args : List AV} {e : TypeId} {sz : Nat} {rows : List (List AC)} {rows' : List (List C)} {r r' : AV} (h : SatO P f args e sz rows r) (hf : mC0 rows.length r = true) (hr : (rows.map fun r => r.map unN) = rows'.map fun r => r.map AC.c) (hr' : jJ1 rows' r = r') : Sat P f args r' := by
 subst hr'
 obtain ⟨hc, _, _, _, hok, hcall⟩ := h
 refine ⟨hc, fun w F us hF hrep => (hcall w F us hF hrep).mono ?_⟩
 rintro ex w' ⟨v, F', v0, S, rfl, h1, h2, h3, h4, h5, h6, h7, h8⟩
 have hsub : ∀ b, b ∈ zV0 v0 → b ∈ S := by
  obtain ⟨_, _, _, _, _, _, hd⟩ := h2
  intro b hb
  have : S = zV0 v0 ++ _ := hd
  rw [this]; simp [hb]
 have hrd := xD1 (F' := fun b o => F' b o ∨ b ∈ zV0 v0) (fun _ _ h => .inl h) (fun b o hb _ => .inr hb) hr h2
 exact ⟨v, _, rfl, h8, fun b o hb => .inl (h5 b o hb), fun b o hb => hb.elim (h6 b o) (fun hb => .inr (h4 b (hsub b hb)).1), fun b o hb => hb.elim (h7 b o) (fun hb => (h4 b (hsub b hb)).2.1), nW0 (fun _ _ h => .inl h) hrd r v hok hf h1⟩
theorem qz1 {w : World} {F : Fz} {u : Value} (h : RepAV w F noLk g0 (.one (.c (.sl []))) u) : RepAV w F noLk g0 (.one .nil) u ∨ RepAV w F noLk g0 (.one .e1) u := by
 simp only [RepAV, RepAC, Rd, List.length_nil] at h ⊢
 obtain ⟨A, cap, sz, rfl, _, h3, _, h5, h6⟩ := h
 cases A with
 | none => left; rw [h5 rfl]
 | some a => exact .inr ⟨a, cap, rfl, h3, (h6 a rfl).1⟩
theorem rI0 {f : FuncId} {e : TypeId} {sz : Nat} {rows : List (List AC)} {r : AV} (h1 : SatO P f [.one .nil] e sz rows r) (h2 : SatO P f [.one .e1] e sz rows r) : SatO P f [.one (.c (.sl []))] e sz rows r := by
 obtain ⟨a1, a2, a3, a4, a5, k1⟩ := h1
 obtain ⟨_, _, _, _, _, k2⟩ := h2
 refine ⟨a1, a2, a3, a4, a5, fun w F us hF hrep => ?_⟩
 simp only [RepAVs] at hrep
 obtain ⟨u, us', rfl, hu, rfl⟩ := hrep
 rcases qz1 hu with h | h
 ·exact k1 w F _ hF (by simp only [RepAVs]; exact ⟨u, [], rfl, h, rfl⟩)
 ·exact k2 w F _ hF (by simp only [RepAVs]; exact ⟨u, [], rfl, h, rfl⟩)
end Go.Ai
namespace Go.Ai
open Go.RowKit
section
variable {n : Nat} {L : List (Nat × AV)} {B : List (Nat × LB)} {G : List AV} {e : TypeId} {sz : Nat} {rows : List (List AC)} {rows' : List (List C)} {fz : Bool} {k : Nat}
theorem xA0 {w : World} {F : Fz} {lb : Lk} {g : Gh} {x : AC} {y : C} (hxy : ∀ u, RepAC w F lb g x u → Rd w F y u) : ∀ (cells : List AC) (i : Nat) (us : List Value), cells[i]? = some x → RepACs w F lb g cells us → RepACs w F lb g (cells.set i (.c y)) us
 | [], i, _, h, _ => by simp at h
 | a :: as, 0, us, h, hr => by
  simp at h; subst h
  simp only [RepACs, List.set_cons_zero] at hr ⊢
  obtain ⟨u, us', rfl, h1, h2⟩ := hr
  exact ⟨u, us', rfl, by simp only [RepAC]; exact hxy u h1, h2⟩
 | a :: as, i + 1, us, h, hr => by
  simp only [RepACs, List.set_cons_succ] at hr ⊢
  obtain ⟨u, us', rfl, h1, h2⟩ := hr
  exact ⟨u, us', rfl, h1, xA0 hxy as i us' (by simpa using h) h2⟩
theorem vC0 {cells : List AC} (l i t : Nat) (hl : zR0 B l = some (.var cells)) (hi : cells[i]? = some (.own t k)) (ht : zR0 B t = some (.arr e sz rows fz)) (hkr : k = rows.length) (hr : (rows.map fun r => r.map unN) = rows'.map fun r => r.map AC.c) :
  Wk (mk n L B G) (mk n L ((l, .var (cells.set i (.c (.sl rows')))) :: pJ0 t B) G) :=
 fun _ _ _ a _ ⟨F, g, h⟩ => by
  obtain ⟨F1, h1, up, pf⟩ := h.freeze t
  have hne : l ≠ t := fun e => by rw [e, ht] at hl; cases hl
  have hv : yx0 (mk n L B G).lb (.own t k) (.sl rows') := ⟨e, sz, rows, fz, rows', by rw [qs0]; exact ht, hkr, hr, rfl⟩
  have hrd := fun u hs => qz0 h1 (fun _ _ hb => hb) (x := .own t k) (y := .sl rows') (u := u) (xu0 (ls := [t]) hv) hs (fun l' hl' e' sz' rows1 fz' hq b o hb ho => by
   simp only [AC.owns, List.mem_singleton] at hl'
   subst hl'
   obtain ⟨fz2, hf2⟩ := pK0 (l := l') (s := mk n L B G) (k := l') (by rw [qs0]; exact ht)
   rw [hf2] at hq
   obtain ⟨rfl, rfl, rfl, _⟩ := LB.arr.inj (Option.some.inj hq)
   exact pf _ _ _ _ (by rw [qs0]; exact ht) b o hb ho)
  rw [nq0] at h1 hrd
  have hl' : (mk n L (pJ0 t B) G).lb l = some (.var cells) := by rw [qs0, jJ0, if_neg hne]; exact hl
  obtain ⟨cs, e, h2, h3, h4⟩ := h1.lb l _ hl'
  have K : Keeps (mk n L (pJ0 t B) G).lb g ((mk n L (pJ0 t B) G).put l (.var (cells.set i (.c (.sl rows'))))).lb (g.upd l (g.bl l) (g.hd l) (g.ds l)) := Keeps.upd (fun B0 hB => by
   rw [hl'] at hB
   obtain rfl := Option.some.inj hB
   exact ⟨fun _ _ _ => trivial, fun _ _ h => h, fun _ _ _ _ _ => trivial, fun _ _ _ => trivial⟩)
  have := h1.putLB (l := l) (b := g.bl l) (v := g.hd l) (S := g.ds l) (B' := .var (cells.set i (.c (.sl rows')))) (fun B0 hB => by
   rw [hl'] at hB
   obtain rfl := Option.some.inj hB
   exact ⟨fun _ _ _ => trivial, fun _ _ h => h, fun _ _ _ _ _ => trivial, fun _ _ _ => trivial⟩)
   ⟨cs, e, by simpa [Gh.upd] using h2, RepACs.mono (Stays.refl _ _) K _ _ (xA0 (fun u hu => hrd u hu) _ i _ hi h3), by simpa [Gh.upd] using h4⟩
   (by have := h1.so l _ hl'; simpa [SoftOk, Gh.upd] using this) (h1.nd l _ hl') (fun l' B0 hne hB k hk hk' => h1.dj l l' _ B0 (Ne.symm hne) hl' hB k hk hk') (fun k hk => h1.nw l _ hl' k hk)
  exact ⟨F1, _, this⟩
end
end Go.Ai
namespace Go.Ai
open Go.RowKit
def mn1 (l T : Nat) : AC → AC
 | .tk k i => if k = l then .tk T i else .tk k i
 | a => a
section
variable {n : Nat} {L : List (Nat × AV)} {B : List (Nat × LB)} {G : List AV} {xs : List (Option C)}
end
end Go.Ai
namespace Go.Ai
open Go.RowKit
theorem Sim.rowCell {w0 : World} {M0 : Ms} {F0 F : Fz} {g : Gh} {s : St} {a : Act} {w : World} (h : Sim w0 M0 F0 F g s a w) {l T : Nat} {e e' : TypeId} {sz sz' : Nat} {rows rows' : List (List AC)} {fz : Bool} {i c k : Nat}
  (hl : s.lb l = some (.arr e sz rows fz)) (hi : i < rows.length) (hc : (rows.getD i [])[c]? = some (.own T k)) (hT : s.lb T = some (.arr e' sz' rows' false)) (hk : k = rows'.length) (hn : noD rows' = true) (ho : ∀ r, r ∈ rows' → ∀ x, x ∈ r → isO x = true) (hne : l ≠ T) :
  ∃ g', Sim w0 M0 F0 F g' ((s.put l (.arr e sz (rows.set i ((rows.getD i []).set c (.m (.sl (rows'.map fun r => r.map toC))))) fz)).put T .dead) a w := by
 obtain ⟨hsz, hrl, vs, S, hown, hcells, hds⟩ := h.lb l _ hl
 obtain ⟨u, SA, Si, SB, rfl, hcell, hput⟩ := RepCells.at hi hc hcells
 obtain ⟨hcell, rfl⟩ : RepAC w F s.lb g (.own T k) u ∧ Si = [] := hcell
 have k3 := bT0 (h.lb T _ hT) hT hk ho hcell
 have hndl := h.nd l _ hl
 have hndT := h.nd T _ hT
 rw [hds] at hndl
 have hdj : ∀ b, b ∈ zV0 (g.hd l) ++ (SA ++ ([] ++ SB)) → b ∉ g.ds T := fun b hb hb' => h.dj l T _ _ hne hl hT b (by rw [hds]; exact hb) hb'
 have hsoT : ∀ b, b ∈ g.ds T → ∀ o, ¬ F b o := (h.so T _ hT).2 rfl hn
 have hsol := h.so l _ hl
 let B' : LB := .arr e sz (rows.set i ((rows.getD i []).set c (.m (.sl (rows'.map fun r => r.map toC))))) fz
 have K : Keeps s.lb g ((s.put l B').put T .dead).lb ((g.upd l (g.bl l) (g.hd l) (zV0 (g.hd l) ++ (SA ++ (g.ds T ++ SB)))).upd T (g.bl T) (g.hd T) []) := by
  constructor
  intro k Bk hB
  by_cases e1 : k = T
  ·subst e1
   exact ⟨.dead, by simp only [St.put_lb, if_true], fun _ _ _ => trivial, fun _ _ _ => trivial, fun _ _ _ _ _ => trivial, fun _ _ _ => trivial⟩
  ·by_cases e2 : k = l
   ·subst e2
    rw [hl] at hB
    obtain rfl := Option.some.inj hB
    refine ⟨B', by simp only [St.put_lb, if_neg e1, if_true], ?_⟩
    simp only [Gh.upd, if_neg e1, if_true, zK0, zx0, List.length_set, B']
    exact ⟨fun _ _ h => h, fun _ _ h => h, fun _ _ _ _ h => h, fun _ _ h => h⟩
   ·refine ⟨Bk, by simp [St.put_lb, e1, e2, hB], ?_⟩
    simp only [Gh.upd, if_neg e1, if_neg e2]
    exact ⟨fun _ _ h => h, fun _ _ h => h, fun _ _ _ _ h => h, fun _ _ h => h⟩
 simp only [List.nodup_append] at hndl
 obtain ⟨n1, ⟨n2, ⟨_, n4, _⟩, n6⟩, n7⟩ := hndl
 refine ⟨_, h.two hne (vT := g.hd T) (Sl := zV0 (g.hd l) ++ (SA ++ (g.ds T ++ SB))) (ST := []) hl (fun b => b ∈ g.ds l ∨ b ∈ g.ds T) (fun b hb => hb.imp id (fun hb => ⟨_, hT, hb⟩)) ?_ (fun b hb => by cases hb) ?_ (by simp) (fun b _ hb => by cases hb) (Stays.refl _ _) (fun b o hb => .inl hb) K ?_ trivial ?_ trivial⟩
 ·intro b hb
  rw [hds]
  simp only [List.mem_append, List.nil_append] at hb ⊢
  rcases hb with hb | hb | hb | hb <;> simp [hb]
 ·simp only [List.nodup_append]
  refine ⟨n1, ⟨n2, ⟨hndT, n4, fun y hy z hz e => ?_⟩, fun y hy z hz e => ?_⟩, fun y hy z hz e => ?_⟩
  ·subst e; exact hdj y (by simp [hz]) hy
  ·subst e
   rcases List.mem_append.1 hz with hz | hz
   ·exact hdj y (by simp [hy]) hz
   ·exact n6 y hy y (by simp [hz]) rfl
  ·subst e
   simp only [List.mem_append] at hz
   rcases hz with hz | hz | hz
   ·exact n7 y hy y (by simp [hz]) rfl
   ·exact hdj y (by simp [hy]) hz
   ·exact n7 y hy y (by simp [hz]) rfl
 ·refine ⟨hsz, cT0 hrl hi, vs, SA ++ (g.ds T ++ SB), ?_, hput _ (g.ds T) (Stays.refl _ _) K ?_, by simp [Gh.upd, hne]⟩
  ·simpa [Gh.upd, hne] using hown
  ·exact k3
 ·simp only [SoftOk, List.length_set] at hsol ⊢
  refine ⟨fun b hb o ho hf => ?_, fun hz hn b hb o hf => ?_⟩
  ·simp [Gh.upd, hne] at hb
   exact hsol.1 b hb o ho hf
  ·simp only [Gh.upd, if_neg hne, if_true] at hb
   have hn0 := pX0 hi hc rfl hn
   simp only [List.mem_append] at hb
   rcases hb with hb | hb | hb | hb
   ·exact hsol.2 hz hn0 b (by rw [hds]; simp [hb]) o hf
   ·exact hsol.2 hz hn0 b (by rw [hds]; simp [hb]) o hf
   ·exact hsoT b hb o hf
   ·exact hsol.2 hz hn0 b (by rw [hds]; simp [hb]) o hf
section
variable {n : Nat} {L : List (Nat × AV)} {B : List (Nat × LB)} {G : List AV} {l T : Nat} {e e' : TypeId} {sz sz' : Nat} {rows rows' : List (List AC)} {fz : Bool} {i c k : Nat} {y : List (List C)}
theorem tX0 (hl : zR0 B l = some (.arr e sz rows fz)) (hi : i < rows.length) (hc : (rows.getD i [])[c]? = some (.own T k)) (hT : zR0 B T = some (.arr e' sz' rows' false)) (hk : k = rows'.length) (hn : noD rows' = true)
  (ho : ∀ r, r ∈ rows' → ∀ x, x ∈ r → isO x = true) (hne : l ≠ T) (hy : (rows'.map fun r => r.map toC) = y) :
  Wk (mk n L B G) (mk n L ((T, .dead) :: (l, .arr e sz (rows.set i ((rows.getD i []).set c (.m (.sl y)))) fz) :: B) G) :=
 fun _ _ _ _ _ ⟨F, g, h⟩ => by
  subst hy
  obtain ⟨g', h'⟩ := h.rowCell (by rw [qs0]; exact hl) hi hc (by rw [qs0]; exact hT) hk hn ho hne
  exact ⟨F, g', h'⟩
theorem tZ0 {r : List AC} (hl : zR0 B l = some (.arr e sz (rows ++ [r]) fz)) (hc : r[c]? = some (.own T k)) (hT : zR0 B T = some (.arr e' sz' rows' false)) (hk : k = rows'.length) (hn : noD rows' = true)
  (ho : ∀ r, r ∈ rows' → ∀ x, x ∈ r → isO x = true) (hne : l ≠ T) (hy : (rows'.map fun r => r.map toC) = y) :
  Wk (mk n L B G) (mk n L ((T, .dead) :: (l, .arr e sz (rows ++ [r.set c (.m (.sl y))]) fz) :: B) G) := by
 have hg : (rows ++ [r]).getD rows.length [] = r := by simp
 have := tX0 (n := n) (L := L) (G := G) (i := rows.length) (c := c) hl (by simp) (by rw [hg]; exact hc) hT hk hn ho hne hy
 rw [hg] at this
 simpa [List.set_append_right] using this
theorem tY0 {rows1 : List (List AC)} {fz1 : Bool} (hl : zR0 B l = some (.arr e sz rows fz)) (hi : i < rows.length) (hc : (rows.getD i [])[c]? = some (.own T k)) (hT : zR0 B T = some (.arr e' sz' rows1 fz1)) (hkr : k = rows1.length) (hr : (rows1.map fun r => r.map unN) = y.map fun r => r.map AC.c) (hne : l ≠ T) :
  Wk (mk n L B G) (mk n L ((l, .arr e sz (rows.set i ((rows.getD i []).set c (.c (.sl y)))) fz) :: pJ0 T B) G) :=
 fun _ _ _ a _ ⟨F, g, h⟩ => by
  obtain ⟨F1, h1, up, pf⟩ := h.freeze T
  have hv : yx0 (mk n L B G).lb (.own T k) (.sl y) := ⟨e', sz', rows1, fz1, y, by rw [qs0]; exact hT, hkr, hr, rfl⟩
  have hrd := fun u hs => qz0 h1 (fun _ _ hb => hb) (x := .own T k) (y := .sl y) (u := u) (xu0 (ls := [T]) hv) hs (fun l' hl' e' sz' rows1 fz' hq b o hb ho => by
   simp only [AC.owns, List.mem_singleton] at hl'
   subst hl'
   obtain ⟨fz2, hf2⟩ := pK0 (l := l') (s := mk n L B G) (k := l') (by rw [qs0]; exact hT)
   rw [hf2] at hq
   obtain ⟨rfl, rfl, rfl, _⟩ := LB.arr.inj (Option.some.inj hq)
   exact pf _ _ _ _ (by rw [qs0]; exact hT) b o hb ho)
  rw [nq0] at h1 hrd
  have hl' : (mk n L (pJ0 T B) G).lb l = some (.arr e sz rows fz) := by rw [qs0, jJ0, if_neg hne]; exact hl
  obtain ⟨hsz, hrl, vs, S, hown, hcells, hds⟩ := h1.lb l _ hl'
  obtain ⟨u, SA, Si, SB, rfl, hcell, hput⟩ := RepCells.at hi hc hcells
  obtain ⟨hcell, rfl⟩ : RepAC _ F1 (mk n L (pJ0 T B) G).lb g (.own T k) u ∧ Si = [] := hcell
  let B' : LB := .arr e sz (rows.set i ((rows.getD i []).set c (.c (.sl y)))) fz
  have hup : ∀ B0, (mk n L (pJ0 T B) G).lb l = some B0 → (∀ n u, zK0 B0 (g.hd l) n u → zK0 B' (g.hd l) n u) ∧ (∀ off u, za0 B0 (g.bl l) off u → za0 B' (g.bl l) off u) ∧
    (∀ n i off u, zx0 B0 (g.hd l) n i off u → zx0 B' (g.hd l) n i off u) ∧ (∀ i u, qg0 B0 (g.hd l) i u → qg0 B' (g.hd l) i u) := fun B0 hB => by
   rw [hl'] at hB
   obtain rfl := Option.some.inj hB
   simp only [zK0, zx0, List.length_set, B']
   exact ⟨fun _ _ h => h, fun _ _ h => h, fun _ _ _ _ h => h, fun _ _ h => h⟩
  have K : Keeps (mk n L (pJ0 T B) G).lb g ((mk n L (pJ0 T B) G).put l B').lb (g.upd l (g.bl l) (g.hd l) (g.ds l)) := Keeps.upd hup
  have := h1.putLB (l := l) (b := g.bl l) (v := g.hd l) (S := g.ds l) (B' := B') hup
   ⟨hsz, cT0 hrl hi, vs, SA ++ ([] ++ SB), by simpa [Gh.upd] using hown, hput _ [] (Stays.refl _ _) K ⟨by simp only [RepAC]; exact hrd u hcell, rfl⟩, by simpa [Gh.upd] using hds⟩
   (by
    have hs := h1.so l _ hl'
    simp only [SoftOk, Gh.upd, if_true, List.length_set, B'] at hs ⊢
    exact ⟨hs.1, fun hz hn => hs.2 hz (pX0 hi hc rfl hn)⟩)
   (h1.nd l _ hl') (fun l' B0 hne hB k hk hk' => h1.dj l l' _ B0 (Ne.symm hne) hl' hB k hk hk') (fun k hk => h1.nw l _ hl' k hk)
  exact ⟨F1, _, this⟩
theorem nD0 {r : List AC} {rows1 : List (List AC)} {fz1 : Bool} (hl : zR0 B l = some (.arr e sz (rows ++ [r]) fz)) (hc : r[c]? = some (.own T k)) (hT : zR0 B T = some (.arr e' sz' rows1 fz1)) (hkr : k = rows1.length)
  (hr : (rows1.map fun r => r.map unN) = y.map fun r => r.map AC.c) (hne : l ≠ T) :
  Wk (mk n L B G) (mk n L ((l, .arr e sz (rows ++ [r.set c (.c (.sl y))]) fz) :: pJ0 T B) G) := by
 have hg : (rows ++ [r]).getD rows.length [] = r := by simp
 have := tY0 (n := n) (L := L) (G := G) (i := rows.length) (c := c) hl (by simp) (by rw [hg]; exact hc) hT hkr hr hne
 rw [hg] at this
 simpa [List.set_append_right] using this
end
end Go.Ai
