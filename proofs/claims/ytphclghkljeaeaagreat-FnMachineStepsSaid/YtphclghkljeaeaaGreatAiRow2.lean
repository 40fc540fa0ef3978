/- Owned values from tokens into rows; loops whose states are told in another way at the start of a round. -/
import Derived.Test.YtphclghkljeaeaaGreatAiEval
set_option linter.unusedVariables false
set_option linter.unusedSimpArgs false
namespace Go.Ai
open Go.RowKit
section
variable {w0 : World} {M0 : Ms} {F0 F F' : Fz} {g : Gh} {s : St} {a : Act} {w : World}
theorem gy0 {rows : List (List AC)} {i c : Nat} {x y : AC} (hi : i < rows.length) (hc : (rows.getD i [])[c]? = some x) (hx : isD x = false) (h : noD (rows.set i ((rows.getD i []).set c y)) = true) : noD rows = true := by
 simp only [noD, List.all_eq_true, Bool.not_eq_true'] at h ⊢
 intro r hr z hz
 obtain ⟨j, hj, rfl⟩ := List.getElem_of_mem hr
 by_cases e : j = i
 ·subst e
  have hg : rows.getD j [] = rows[j] := by rw [List.getD_eq_getElem?_getD, List.getElem?_eq_getElem hj]; rfl
  rw [hg] at hc h
  have hs := h (rows[j].set c y) (List.mem_of_getElem? (i := j) (by rw [List.getElem?_set_self (by simpa using hj)]))
  obtain ⟨k, hk, rfl⟩ := List.getElem_of_mem hz
  by_cases e2 : k = c
  ·subst e2
   rw [List.getElem?_eq_getElem hk] at hc
   obtain rfl := Option.some.inj hc
   exact hx
  ·exact hs _ (List.mem_of_getElem? (i := k) (by rw [List.getElem?_set_ne (Ne.symm e2), List.getElem?_eq_getElem hk]))
 ·exact h rows[j] (List.mem_of_getElem? (i := j) (by rw [List.getElem?_set_ne (Ne.symm e), List.getElem?_eq_getElem hj])) z hz
theorem Sim.fillCell (h : Sim w0 M0 F0 F g s a w) {l : Nat} {e : TypeId} {sz : Nat} {rows : List (List AC)} {fz : Bool} {i c T j : Nat} {x : C} {xs : List (Option C)} {dd : Bool} (hl : s.lb l = some (.arr e sz rows fz)) (hi : i < rows.length) (hc : (rows.getD i [])[c]? = some (.tk T j)) (hT : s.lb T = some (.tok xs)) (hx : xs[j]? = some (some x))
  (hd : dd = false → fz = false) :
  ∃ F' g', Sim w0 M0 F0 F' g' ((s.put l (.arr e sz (rows.set i ((rows.getD i []).set c (if dd then .d x else .m x))) fz)).put T (.tok (xs.set j none))) a w := by
 have hne : l ≠ T := fun e => by rw [← e, hl] at hT; cases hT
 obtain ⟨hsz, hrl, vs, S, hown, hcells, hds⟩ := h.lb l _ hl
 obtain ⟨u, SA, Si, SB, rfl, hcell, hput⟩ := RepCells.at hi hc hcells
 obtain ⟨hcell, rfl⟩ : RepAC w F s.lb g (.tk T j) u ∧ Si = [] := hcell
 obtain ⟨us, hhd, huj, hts⟩ := yu1 h hT hcell
 obtain ⟨u', TA, Ti, TB, k1, k2, k3, k4, _⟩ := OwnTs.get _ _ _ _ _ hts hx
 rw [huj] at k1
 obtain rfl := Option.some.inj k1
 have hndl := h.nd l _ hl
 have hndT := h.nd T _ hT
 rw [hds] at hndl
 rw [k2] at hndT
 have hdj : ∀ b, b ∈ blkOf (g.hd l) ++ (SA ++ ([] ++ SB)) → b ∉ TA ++ (Ti ++ TB) := fun b hb hb' => h.dj l T _ _ hne hl hT b (by rw [hds]; exact hb) (by rw [k2]; exact hb')
 have hsoT := h.so T _ hT
 simp only [SoftOk] at hsoT
 have hsol := h.so l _ hl
 let F' : Fz := fun b o => F b o ∨ (dd = true ∧ b ∈ Ti)
 have st : Stays w w F F' := ⟨fun _ _ hb => .inl hb, fun _ _ _ => rfl⟩
 let B' : LB := .arr e sz (rows.set i ((rows.getD i []).set c (if dd then .d x else .m x))) fz
 have K : Keeps s.lb g ((s.put l B').put T (.tok (xs.set j none))).lb ((g.upd l (g.bl l) (g.hd l) (blkOf (g.hd l) ++ (SA ++ (Ti ++ SB)))).upd T (g.bl T) (.agg us.toArray) (TA ++ ([] ++ TB))) := by
  constructor
  intro k Bk hB
  by_cases e1 : k = T
  ·subst e1
   rw [hT] at hB
   obtain rfl := Option.some.inj hB
   refine ⟨.tok (xs.set j none), by simp only [St.put_lb, if_true], ?_⟩
   simp only [Gh.upd, if_true, hhd]
   exact t3'
  ·by_cases e2 : k = l
   ·subst e2
    rw [hl] at hB
    obtain rfl := Option.some.inj hB
    refine ⟨B', by simp only [St.put_lb, if_neg e1, if_true], ?_⟩
    simp only [Gh.upd, if_neg e1, if_true, okOwnB, qG0, List.length_set, B']
    exact t3'
   ·refine ⟨Bk, by simp [St.put_lb, e1, e2, hB], ?_⟩
    simp only [Gh.upd, if_neg e1, if_neg e2]
    exact t3'
 simp only [List.nodup_append] at hndl hndT
 obtain ⟨n1, ⟨n2, ⟨_, n4, _⟩, n6⟩, n7⟩ := hndl
 obtain ⟨m1, ⟨m2, m3, m4⟩, m5⟩ := hndT
 refine ⟨F', _, h.two hne (vT := .agg us.toArray) (Sl := blkOf (g.hd l) ++ (SA ++ (Ti ++ SB))) (ST := TA ++ ([] ++ TB)) hl (fun b => b ∈ g.ds l ∨ b ∈ g.ds T) (fun b hb => hb.imp id (fun hb => ⟨_, hT, hb⟩)) ?_ ?_ ?_ ?_ ?_ st ?_ K ?_ ?_ ?_ ?_⟩
 ·intro b hb
  rw [hds, k2]
  simp only [List.mem_append, List.nil_append] at hb ⊢
  rcases hb with hb | hb | hb | hb <;> simp [hb]
 ·intro b hb
  rw [k2]
  simp only [List.mem_append, List.nil_append] at hb ⊢
  rcases hb with hb | hb <;> simp [hb]
 ·simp only [List.nodup_append]
  refine ⟨n1, ⟨n2, ⟨m2, n4, fun y hy z hz e => ?_⟩, fun y hy z hz e => ?_⟩, fun y hy z hz e => ?_⟩
  ·subst e; exact hdj y (by simp [hz]) (by simp [hy])
  ·subst e
   rcases List.mem_append.1 hz with hz | hz
   ·exact hdj y (by simp [hy]) (by simp [hz])
   ·exact n6 y hy y (by simp [hz]) rfl
  ·subst e
   simp only [List.mem_append] at hz
   rcases hz with hz | hz | hz
   ·exact n7 y hy y (by simp [hz]) rfl
   ·exact hdj y (by simp [hy]) (by simp [hz])
   ·exact n7 y hy y (by simp [hz]) rfl
 ·rw [List.nil_append, List.nodup_append]
  exact ⟨m1, m3, fun y hy z hz => m5 y hy z (by simp [hz])⟩
 ·intro b hb hb'
  rw [List.nil_append] at hb'
  simp only [List.mem_append] at hb hb'
  rcases hb with hb | hb | hb | hb
  ·exact hdj b (by simp [hb]) (by simp only [List.mem_append]; rcases hb' with q | q <;> simp [q])
  ·exact hdj b (by simp [hb]) (by simp only [List.mem_append]; rcases hb' with q | q <;> simp [q])
  ·rcases hb' with q | q
   ·exact m5 b q b (by simp [hb]) rfl
   ·exact m4 b hb b q rfl
  ·exact hdj b (by simp [hb]) (by simp only [List.mem_append]; rcases hb' with q | q <;> simp [q])
 ·intro b o hb
  refine hb.imp id (fun hb => .inr ?_)
  rw [k2]; simp [hb.2]
 ·refine ⟨hsz, sM0 hrl hi, vs, SA ++ (Ti ++ SB), ?_, hput _ Ti st K ?_, by simp [Gh.upd, hne]⟩
  ·simpa [Gh.upd, hne] using hown
  ·cases dd with
   | true => exact ⟨k3, Own.rd _ _ Ti (fun b o hb => .inr ⟨rfl, hb⟩) k3⟩
   | false => exact k3
 ·exact ⟨us, by simp [Gh.upd], by simpa [Gh.upd] using k4 none [] rfl⟩
 ·simp only [SoftOk, List.length_set] at hsol ⊢
  refine ⟨fun b hb o ho hf => ?_, fun hz hn b hb o hf => ?_⟩
  ·simp [Gh.upd, hne] at hb
   rcases hf with hf | ⟨_, hf⟩
   ·exact hsol.1 b hb o ho hf
   ·exact hdj b (by simp [hb]) (by simp [hf])
  ·simp only [Gh.upd, if_neg hne, if_true] at hb
   have hn0 := gy0 hi hc rfl hn
   have hdd : dd = false := by
    cases dd with
    | false => rfl
    | true =>
     exfalso
     simp only [noD, List.all_eq_true, Bool.not_eq_true'] at hn
     have hcl := (List.getElem?_eq_some_iff.1 hc).1
     have := hn ((rows.getD i []).set c (.d x)) (List.mem_of_getElem? (i := i) (by rw [List.getElem?_set_self hi]; rfl)) (.d x) (List.mem_of_getElem? (i := c) (by rw [List.getElem?_set_self hcl]))
     cases this
   rcases hf with hf | ⟨hd', _⟩
   ·simp only [List.mem_append] at hb
    rcases hb with hb | hb | hb | hb
    ·exact mn1
    ·exact mn1
    ·exact hsoT b (by rw [k2]; simp [hb]) o hf
    ·exact mn1
   ·rw [hdd] at hd'; cases hd'
 ·simp only [SoftOk, Gh.upd, if_true]
  intro b hb o hf
  rcases hf with hf | ⟨_, hf⟩
  ·refine hsoT b ?_ o hf
   rw [k2]; simp only [List.mem_append, List.nil_append] at hb ⊢; rcases hb with hb | hb <;> simp [hb]
  ·simp only [List.mem_append, List.nil_append] at hb
   rcases hb with hb | hb
   ·exact m5 b hb b (by simp [hf]) rfl
   ·exact m4 b hf b hb rfl
end
section
variable {n : Nat} {L : List (Nat × AV)} {B : List (Nat × LB)} {G : List AV} {l : Nat} {e : TypeId} {sz : Nat} {rows : List (List AC)} {fz : Bool} {i c T j : Nat} {x : C} {xs : List (Option C)}
theorem xt1 (hl : zJ0 B l = some (.arr e sz rows fz)) (hi : i < rows.length) (hc : (rows.getD i [])[c]? = some (.tk T j)) (hT : zJ0 B T = some (.tok xs)) (hx : xs[j]? = some (some x)) :
  Wk (mk n L B G) (mk n L ((T, .tok (xs.set j none)) :: (l, .arr e sz (rows.set i ((rows.getD i []).set c (.d x))) fz) :: B) G) :=
 fun _ _ _ _ _ ⟨F, g, h⟩ => by
  obtain ⟨F', g', h'⟩ := h.fillCell (dd := true) (by rw [wC0]; exact hl) hi hc (by rw [wC0]; exact hT) hx (fun h => by cases h)
  exact ⟨F', g', h'⟩
theorem zx0 {r : List AC} (hl : zJ0 B l = some (.arr e sz (rows ++ [r]) fz)) (hc : r[c]? = some (.tk T j)) (hT : zJ0 B T = some (.tok xs)) (hx : xs[j]? = some (some x)) :
  Wk (mk n L B G) (mk n L ((T, .tok (xs.set j none)) :: (l, .arr e sz (rows ++ [r.set c (.d x)]) fz) :: B) G) := by
 have hg : (rows ++ [r]).getD rows.length [] = r := by simp
 have := xt1 (n := n) (L := L) (G := G) (i := rows.length) (c := c) hl (by simp) (by rw [hg]; exact hc) hT hx
 rw [hg] at this
 simpa [List.set_append_right] using this
end
variable {P : Program} {tab : Tab}
end Go.Ai
namespace Go.Ai
open Go.RowKit
section
variable {w0 : World} {M0 : Ms} {F0 F : Fz} {g : Gh} {s : St} {a : Act} {w : World}
end
theorem cz0 (a : Act) (t : Tmp) : a.put (some t) (a.tmps.getD t undef) = a := by
 obtain ⟨tmps, defers⟩ := a
 simp only [Act.put]
 congr 1
 apply Array.ext
 ·simp
 ·intro i h1 h2
  rw [Array.getElem_setIfInBounds (by simpa using h2)]
  split
  ·rename_i hi; subst hi; simp [Array.getD, h2]
  ·rfl
section
variable {n : Nat} {L : List (Nat × AV)} {B : List (Nat × LB)} {G : List AV} {l : Nat} {e : TypeId} {sz : Nat} {rows : List (List AC)} {rows' : List (List C)} {T k t : Nat}
end
end Go.Ai
namespace Go.Ai
open Go.RowKit
variable {P : Program} {tab : Tab}
def dE0 (tab : Tab) (rs : List ResultVar) (e : TypeId) (sz : Nat) (rows' : List (List AC)) (rest : List AV) (s : St) : Prop :=
 match kv0 tab s rs with
 | some (p, .one (.own l n) :: vs) => p ∧ vs = rest ∧ n = rows'.length ∧ s.lb l = some (.arr e sz rows' false)
 | some (p, .one .nil :: vs) => p ∧ vs = rest ∧ rows' = []
 | _ => False
def kZ1 (tab : Tab) (rs : List ResultVar) (e : TypeId) (sz : Nat) (rows' : List (List AC)) (rest : List AV) : Exit → St → Prop
 | .normal, s => dE0 tab rs e sz rows' rest s
 | .ret, s => dE0 tab rs e sz rows' rest s
 | _, _ => False
theorem yQ1 {rs : List ResultVar} {e : TypeId} {sz : Nat} {rows' : List (List AC)} {rest : List AV} {s : St} : kZ1 tab rs e sz rows' rest .ret s = dE0 tab rs e sz rows' rest s := rfl
def ni0 (tab : Tab) (rs : List ResultVar) (rest : List AV) (s : St) : Prop :=
 match kv0 tab s rs with
 | some (p, _ :: vs) => p ∧ vs = rest
 | _ => False
def fG1 (tab : Tab) (rs : List ResultVar) (rest : List AV) : Exit → St → Prop
 | .normal, s => ni0 tab rs rest s
 | .ret, s => ni0 tab rs rest s
 | _, _ => False
attribute [go_sem] yQ1 dE0 jV1 yS0 ni0 wk1
theorem RepAVs.appendL {w : World} {F : Fz} {lb : Lk} {g : Gh} : ∀ {vs ws : List AV} {us us' : List Value}, RepAVs w F lb g vs us → RepAVs w F lb g ws us' → RepAVs w F lb g (vs ++ ws) (us ++ us')
 | [], _, _, _, h, k => by simp only [RepAVs] at h; subst h; exact k
 | v :: vs, _, _, _, h, k => by
  simp only [RepAVs] at h
  obtain ⟨u, us, rfl, h1, h2⟩ := h
  exact ⟨u, _, rfl, h1, RepAVs.appendL h2 k⟩
theorem nn0 (hT : zT0 P tab) {f : FuncId} {fn : Func} {c : Code} {pre post : List AV} {e : TypeId} {sz : Nat} {rows rows' : List (List AC)} {rest : List AV} {rs : List ResultVar} {n : Nat} (hf : P.funcs[f]? = some fn) (hb : fn.body = some c) (hr : fn.results.toList = rs) (hn : fn.ntmps = n) (hname : fn.name ≠ "runtime.NumGoroutine")
  (hlen : pre.length + post.length + 1 ≤ n) (hsz : 0 < sz) (hpl : rest.all jY0 = true) (hcl : clR rows) (hcl' : clR rows') (hnd : noD rows = true) (hnd' : noD rows' = true)
  (h : AWP P c (kZ1 tab rs e sz rows' rest) (mk n (qV0 0 (pre ++ .one (.own 9001 rows.length) :: post)) [(9001, .arr e sz rows false)])) : cI0 P f pre post e sz rows rows' rest := by
 subst hr hn
 refine ⟨⟨fn, hf, hname, by rw [hb]; simp⟩, hsz, hpl, hcl, hcl', hnd, hnd', fun w F us1 v0 us2 S hF h1 h2 hrow hS hSf => ?_⟩
 have one : ∀ l B, zJ0 [(9001, LB.arr e sz rows false)] l = some B → l = 9001 ∧ B = .arr e sz rows false := by
  intro l B hl
  simp only [zJ0] at hl
  split at hl
  ·exact ⟨‹_›, (Option.some.inj hl).symm⟩
  ·cases hl
 have K0 : ∀ {lb : Lk} {g : Gh}, Keeps noLk g0 lb g := fun {lb} {g} => ⟨fun l B hl => by simp [noLk] at hl⟩
 have hone : v0.oneCell' = true := by
  obtain ⟨_, _, xs, _, hown, _⟩ := hrow
  rcases hown.2 with ⟨e1, _⟩ | ⟨_, _, _, e1, _⟩ <;> (have e1 : v0 = _ := e1; rw [e1]; rfl)
 have hhd : RepAV w F (zJ0 [(9001, LB.arr e sz rows false)]) (gA v0 S) (.one (.own 9001 rows.length)) v0 := by
  simp only [RepAV, RepAC]
  exact ⟨hone, _, by simp [zJ0]; rfl, by simp [okOwnB, gA]⟩
 have hA : RepAVs w F (zJ0 [(9001, LB.arr e sz rows false)]) (gA v0 S) (pre ++ .one (.own 9001 rows.length) :: post) (us1 ++ v0 :: us2) :=
  RepAVs.appendL (RepAVs.mono (Stays.refl _ _) K0 _ _ h1) ⟨v0, us2, rfl, hhd, RepAVs.mono (Stays.refl _ _) K0 _ _ h2⟩
 have hal := RepAVs.len _ _ hA
 have hds : ∀ b, b ∈ blkOf v0 → b ∈ S := by
  obtain ⟨_, _, _, _, _, _, hd⟩ := hrow
  intro b hb
  have : S = blkOf v0 ++ _ := hd
  rw [this]; simp [hb]
 have hsim : Sim w ⟨S, []⟩ F F (gA v0 S) (mk fn.ntmps (qV0 0 (pre ++ .one (.own 9001 rows.length) :: post)) [(9001, .arr e sz rows false)] []) { tmps := (us1 ++ v0 :: us2).toArray ++ Array.replicate (fn.ntmps - (us1 ++ v0 :: us2).toArray.size) undef, defers := [] } w := {
  sz := by
   simp only [pl1, Array.size_append, List.size_toArray, Array.size_replicate]
   rw [List.length_append, List.length_cons] at hal
   omega
  df := rfl
  sl := fun i => by
   have e : (us1 ++ v0 :: us2).toArray ++ Array.replicate (fn.ntmps - (us1 ++ v0 :: us2).toArray.size) undef = ((us1 ++ v0 :: us2) ++ List.replicate (fn.ntmps - (us1 ++ v0 :: us2).length) undef).toArray := by simp
   simp only [cu0, wC0, e, ym0]
   rcases ju0 (pre ++ .one (.own 9001 rows.length) :: post) (us1 ++ v0 :: us2) 0 i (List.replicate (fn.ntmps - (us1 ++ v0 :: us2).length) undef) hA with h | ⟨_, _, h⟩
   ·rw [h]; simp only [RepAV]
   ·exact h
  gh := rfl
  lb := fun l B hl => by
   obtain ⟨rfl, rfl⟩ := one l B hl
   exact wd0 (g := gA v0 S) (l := 0) hcl rfl rfl hrow
  so := fun l B hl => by
   obtain ⟨rfl, rfl⟩ := one l B hl
   simp only [SoftOk]
   exact nx1
  nd := fun l B hl => hS
  dj := fun l l' B B' hne hl hl' => by
   obtain ⟨rfl, _⟩ := one l B hl
   obtain ⟨rfl, _⟩ := one l' B' hl'
   exact absurd rfl hne
  nw := fun l B hl b hb => ⟨.inr hb, (hSf b hb).1⟩
  f0 := fun _ _ h => h
  f1 := fun _ _ h => .inl h
  f2 := hF.lt
  tb := hF.tb.start (fun b hb => (hSf b hb).2)
  os := rfl
  tape := rfl
  output := rfl
  size := Nat.le_refl _
  block := fun _ _ _ => rfl }
 refine calls_of_wp hf hb (wp_mono (h w ⟨S, []⟩ F _ w ⟨F, gA v0 S, hsim⟩) ?_)
 rintro ex a' w' ⟨s', hq, F1, g2, hs'⟩
 have main : dE0 tab fn.results.toList e sz rows' rest s' → ∃ v, (results fn a'.tmps).run P w' = .ok v w' ∧ ∃ v1 vs F' S', Ending.returned v = .returned (kw1 v1 vs) ∧ RepAVs w' F' noLk g0 rest vs ∧ RepLB w' F' noLk (gA v1 S') 0 (.arr e sz rows' false) ∧ S'.Nodup ∧
   (∀ b, b ∈ S' → (b ∈ S ∨ w.heap.size ≤ b) ∧ b < w'.heap.size ∧ ∀ o, ¬ F' b o) ∧ (∀ b o, F b o → F' b o) ∧ (∀ b o, F' b o → F b o ∨ w.heap.size ≤ b ∨ b ∈ S) ∧ (∀ b o, F' b o → b < w'.heap.size) ∧
   w'.os = w.os ∧ w'.tape = w.tape ∧ w'.output = w.output ∧ w.heap.size ≤ w'.heap.size ∧ ∀ k, k < w.heap.size → k ∉ S → w'.heap[k]? = w.heap[k]? := by
  intro hq
  unfold dE0 at hq
  have jn : ∀ (u : Value) (us : List Value), nL0 (u :: us) = kw1 u us := fun u us => by cases us <;> rfl
  split at hq
  ·rename_i p l k vs ho
   obtain ⟨hp, rfl, hk, hl⟩ := hq
   obtain ⟨us, hrun, hargs⟩ := qd0 hT hs' rfl ho hp
   simp only [RepAVs, RepAV] at hargs
   obtain ⟨u, us', rfl, hu, hrest⟩ := hargs
   simp only [RepAC] at hu
   obtain ⟨_, B, hB, hq⟩ := hu
   rw [hl] at hB
   obtain rfl := Option.some.inj hB
   have hux : u = g2.hd l := hq.2 hk
   have hun : ∀ b, b ∈ g2.ds l → ∀ o, ¬ F1 b o := (hs'.so l _ hl).2 rfl hnd'
   refine ⟨_, hrun, u, us', F1, g2.ds l, by rw [jn], wE0 hpl hrest, wd0 (g := g2) (l := l) hcl' hux rfl (hs'.lb l _ hl), hs'.nd l _ hl, fun b hb => ⟨((hs'.nw l _ hl b hb).1).symm, (hs'.nw l _ hl b hb).2, hun b hb⟩, hs'.f0, hs'.f1, hs'.f2, hs'.os, hs'.tape, hs'.output, hs'.size, fun k hk hk' => hs'.block k hk hk'⟩
  ·rename_i p vs ho
   obtain ⟨hp, rfl, rfl⟩ := hq
   obtain ⟨us, hrun, hargs⟩ := qd0 hT hs' rfl ho hp
   simp only [RepAVs, RepAV] at hargs
   obtain ⟨u, us', rfl, hu, hrest⟩ := hargs
   simp only [RepAC] at hu
   subst hu
   exact ⟨_, hrun, _, us', F1, [], by rw [jn], wE0 hpl hrest, ⟨hsz, by simp, [], [], ⟨by simp, .inl ⟨rfl, rfl⟩⟩, ⟨rfl, rfl⟩, rfl⟩, by simp, (fun b hb => by cases hb), hs'.f0, hs'.f1, hs'.f2, hs'.os, hs'.tape, hs'.output, hs'.size, fun k hk hk' => hs'.block k hk hk'⟩
  ·exact hq.elim
 cases ex with
 | normal => exact ⟨hs'.df, main hq⟩
 | ret => exact ⟨hs'.df, main hq⟩
 | _ => exact hq.elim
theorem yo0 (hT : zT0 P tab) (hm : P.follows .mixedOrders = true) {f : FuncId} {fn : Func} {c : Code} {pre post : List AV} {e : TypeId} {sz : Nat} {rows rows' : List (List AC)} {rest : List AV} {rs : List ResultVar} {n : Nat} (hf : P.funcs[f]? = some fn) (hb : fn.body = some c) (hr : fn.results.toList = rs) (hn : fn.ntmps = n) (hname : fn.name ≠ "runtime.NumGoroutine")
  (hok : qm0 c = true) (hlen : pre.length + post.length + 1 ≤ n) (hsz : 0 < sz) (hpl : rest.all jY0 = true) (hcl : clR rows) (hcl' : clR rows') (hnd : noD rows = true) (hnd' : noD rows' = true)
  (h : qn0 P tab c (kZ1 tab rs e sz rows' rest) (mk n (qV0 0 (pre ++ .one (.own 9001 rows.length) :: post)) [(9001, .arr e sz rows false)])) : cI0 P f pre post e sz rows rows' rest :=
 nn0 hT hf hb hr hn hname hlen hsz hpl hcl hcl' hnd hnd' (zf0 hT hm c _ _ hok h)
theorem lW0 (hT : zT0 P tab) (hm : P.follows .mixedOrders = true) {f : FuncId} {fn : Func} {c : Code} {pre post : List AV} {e : TypeId} {sz : Nat} {rows : List (List AC)} {rest : List AV} {rs : List ResultVar} {n : Nat} (hf : P.funcs[f]? = some fn) (hb : fn.body = some c) (hr : fn.results.toList = rs) (hn : fn.ntmps = n) (hname : fn.name ≠ "runtime.NumGoroutine")
  (hok : qm0 c = true) (hlen : pre.length + post.length + 1 ≤ n) (hsz : 0 < sz) (hpl : rest.all jY0 = true) (hcl : clR rows) (hnd : noD rows = true)
  (h : qn0 P tab c (fG1 tab rs rest) (mk n (qV0 0 (pre ++ .one (.own 9001 rows.length) :: post)) [(9001, .arr e sz rows false)])) : jF1 P f pre post e sz rows rest := by
 subst hr hn
 refine ⟨⟨fn, hf, hname, by rw [hb]; simp⟩, hsz, hpl, hcl, hnd, fun w F us1 v0 us2 S hF h1 h2 hrow hS hSf => ?_⟩
 have one : ∀ l B, zJ0 [(9001, LB.arr e sz rows false)] l = some B → l = 9001 ∧ B = .arr e sz rows false := by
  intro l B hl
  simp only [zJ0] at hl
  split at hl
  ·exact ⟨‹_›, (Option.some.inj hl).symm⟩
  ·cases hl
 have K0 : ∀ {lb : Lk} {g : Gh}, Keeps noLk g0 lb g := fun {lb} {g} => ⟨fun l B hl => by simp [noLk] at hl⟩
 have hone : v0.oneCell' = true := by
  obtain ⟨_, _, xs, _, hown, _⟩ := hrow
  rcases hown.2 with ⟨e1, _⟩ | ⟨_, _, _, e1, _⟩ <;> (have e1 : v0 = _ := e1; rw [e1]; rfl)
 have hhd : RepAV w F (zJ0 [(9001, LB.arr e sz rows false)]) (gA v0 S) (.one (.own 9001 rows.length)) v0 := by
  simp only [RepAV, RepAC]
  exact ⟨hone, _, by simp [zJ0]; rfl, by simp [okOwnB, gA]⟩
 have hA : RepAVs w F (zJ0 [(9001, LB.arr e sz rows false)]) (gA v0 S) (pre ++ .one (.own 9001 rows.length) :: post) (us1 ++ v0 :: us2) :=
  RepAVs.appendL (RepAVs.mono (Stays.refl _ _) K0 _ _ h1) ⟨v0, us2, rfl, hhd, RepAVs.mono (Stays.refl _ _) K0 _ _ h2⟩
 have hal := RepAVs.len _ _ hA
 have hds : ∀ b, b ∈ blkOf v0 → b ∈ S := by
  obtain ⟨_, _, _, _, _, _, hd⟩ := hrow
  intro b hb
  have : S = blkOf v0 ++ _ := hd
  rw [this]; simp [hb]
 have hsim : Sim w ⟨S, []⟩ F F (gA v0 S) (mk fn.ntmps (qV0 0 (pre ++ .one (.own 9001 rows.length) :: post)) [(9001, .arr e sz rows false)] []) { tmps := (us1 ++ v0 :: us2).toArray ++ Array.replicate (fn.ntmps - (us1 ++ v0 :: us2).toArray.size) undef, defers := [] } w := {
  sz := by
   simp only [pl1, Array.size_append, List.size_toArray, Array.size_replicate]
   rw [List.length_append, List.length_cons] at hal
   omega
  df := rfl
  sl := fun i => by
   have e : (us1 ++ v0 :: us2).toArray ++ Array.replicate (fn.ntmps - (us1 ++ v0 :: us2).toArray.size) undef = ((us1 ++ v0 :: us2) ++ List.replicate (fn.ntmps - (us1 ++ v0 :: us2).length) undef).toArray := by simp
   simp only [cu0, wC0, e, ym0]
   rcases ju0 (pre ++ .one (.own 9001 rows.length) :: post) (us1 ++ v0 :: us2) 0 i (List.replicate (fn.ntmps - (us1 ++ v0 :: us2).length) undef) hA with h | ⟨_, _, h⟩
   ·rw [h]; simp only [RepAV]
   ·exact h
  gh := rfl
  lb := fun l B hl => by
   obtain ⟨rfl, rfl⟩ := one l B hl
   exact wd0 (g := gA v0 S) (l := 0) hcl rfl rfl hrow
  so := fun l B hl => by
   obtain ⟨rfl, rfl⟩ := one l B hl
   simp only [SoftOk]
   exact nx1
  nd := fun l B hl => hS
  dj := fun l l' B B' hne hl hl' => by
   obtain ⟨rfl, _⟩ := one l B hl
   obtain ⟨rfl, _⟩ := one l' B' hl'
   exact absurd rfl hne
  nw := fun l B hl b hb => ⟨.inr hb, (hSf b hb).1⟩
  f0 := fun _ _ h => h
  f1 := fun _ _ h => .inl h
  f2 := hF.lt
  tb := hF.tb.start (fun b hb => (hSf b hb).2)
  os := rfl
  tape := rfl
  output := rfl
  size := Nat.le_refl _
  block := fun _ _ _ => rfl }
 refine calls_of_wp hf hb (wp_mono (zf0 hT hm c _ _ hok h w ⟨S, []⟩ F _ w ⟨F, gA v0 S, hsim⟩) ?_)
 rintro ex a' w' ⟨s', hq, F1, g2, hs'⟩
 have main : ni0 tab fn.results.toList rest s' → ∃ v, (results fn a'.tmps).run P w' = .ok v w' ∧ ∃ v1 vs F', Ending.returned v = .returned (kw1 v1 vs) ∧ RepAVs w' F' noLk g0 rest vs ∧
   (∀ b o, F b o → F' b o) ∧ (∀ b o, F' b o → F b o ∨ w.heap.size ≤ b ∨ b ∈ S) ∧ (∀ b o, F' b o → b < w'.heap.size) ∧
   w'.os = w.os ∧ w'.tape = w.tape ∧ w'.output = w.output ∧ w.heap.size ≤ w'.heap.size ∧ ∀ k, k < w.heap.size → k ∉ S → w'.heap[k]? = w.heap[k]? := by
  intro hq
  unfold ni0 at hq
  have jn : ∀ (u : Value) (us : List Value), nL0 (u :: us) = kw1 u us := fun u us => by cases us <;> rfl
  split at hq
  ·rename_i p x vs ho
   obtain ⟨hp, rfl⟩ := hq
   obtain ⟨us, hrun, hargs⟩ := qd0 hT hs' rfl ho hp
   simp only [RepAVs] at hargs
   obtain ⟨u, us', rfl, hu, hrest⟩ := hargs
   exact ⟨_, hrun, u, us', F1, by rw [jn], wE0 hpl hrest, hs'.f0, hs'.f1, hs'.f2, hs'.os, hs'.tape, hs'.output, hs'.size, fun k hk hk' => hs'.block k hk hk'⟩
  ·exact hq.elim
 cases ex with
 | normal => exact ⟨hs'.df, main hq⟩
 | ret => exact ⟨hs'.df, main hq⟩
 | _ => exact hq.elim
def nM1 (P : Program) (f : FuncId) (pre post : List AV) (e : TypeId) (sz : Nat) (rows : List (List AC)) (o : Option (List (List AC))) : Prop :=
 match o with
 | some rows' => cI0 P f pre post e sz rows rows' [.one (.c (.v (.bool true)))]
 | none => jF1 P f pre post e sz rows [.one (.c (.v (.bool false)))]
def ny1 (e : TypeId) (sz : Nat) (o : Option (List (List AC))) (s : St) (v : AV) (vs : List AV) : Prop :=
 match o with
 | some rows' => vs = [.one (.c (.v (.bool true)))] ∧ match v with
  | .one (.own l n) => n = rows'.length ∧ s.lb l = some (.arr e sz rows' false)
  | .one .nil => rows' = []
  | _ => False
 | none => vs = [.one (.c (.v (.bool false)))]
def dF0 (tab : Tab) (rs : List ResultVar) (e : TypeId) (sz : Nat) (o : Option (List (List AC))) (s : St) : Prop :=
 match kv0 tab s rs with
 | some (p, v :: vs) => p ∧ ny1 e sz o s v vs
 | _ => False
def kb1 (tab : Tab) (rs : List ResultVar) (e : TypeId) (sz : Nat) (o : Option (List (List AC))) : Exit → St → Prop
 | .normal, s => dF0 tab rs e sz o s
 | .ret, s => dF0 tab rs e sz o s
 | _, _ => False
theorem yV1 {rs : List ResultVar} {e : TypeId} {sz : Nat} {o : Option (List (List AC))} {s : St} : kb1 tab rs e sz o .ret s = dF0 tab rs e sz o s := rfl
theorem zT1 {rs : List ResultVar} {e : TypeId} {sz : Nat} {s : St} : dF0 tab rs e sz none s = ni0 tab rs [.one (.c (.v (.bool false)))] s := by
 unfold dF0 ni0
 split <;> rename_i h
 ·simp [ny1]
 ·rfl
theorem zU1 {rs : List ResultVar} {e : TypeId} {sz : Nat} {rows' : List (List AC)} {s : St} : dF0 tab rs e sz (some rows') s = dE0 tab rs e sz rows' [.one (.c (.v (.bool true)))] s := by
 refine propext ⟨fun h => ?_, fun h => ?_⟩
 ·unfold dF0 at h
  unfold dE0
  split at h
  ·rename_i p v vs ho
   rw [ho]
   obtain ⟨hp, rfl, hv⟩ := h
   split at hv
   ·exact ⟨hp, rfl, hv.1, hv.2⟩
   ·exact ⟨hp, rfl, hv⟩
   ·exact hv.elim
  ·exact h.elim
 ·unfold dE0 at h
  unfold dF0
  split at h
  ·rename_i p l n vs ho
   rw [ho]
   exact ⟨h.1, h.2.1, h.2.2.1, h.2.2.2⟩
  ·rename_i p vs ho
   rw [ho]
   exact ⟨h.1, h.2.1, h.2.2⟩
  ·exact h.elim
attribute [go_sem] yV1 dF0
theorem xl0 (hT : zT0 P tab) (hm : P.follows .mixedOrders = true) {f : FuncId} {fn : Func} {c : Code} {pre post : List AV} {e : TypeId} {sz : Nat} {rows : List (List AC)} {o : Option (List (List AC))} {rs : List ResultVar} {n : Nat} (hf : P.funcs[f]? = some fn) (hb : fn.body = some c) (hr : fn.results.toList = rs) (hn : fn.ntmps = n) (hname : fn.name ≠ "runtime.NumGoroutine")
  (hok : qm0 c = true) (hlen : pre.length + post.length + 1 ≤ n) (hsz : 0 < sz) (hcl : clR rows) (hnd : noD rows = true) (hcl' : ∀ rows', o = some rows' → clR rows' ∧ noD rows' = true)
  (h : qn0 P tab c (kb1 tab rs e sz o) (mk n (qV0 0 (pre ++ .one (.own 9001 rows.length) :: post)) [(9001, .arr e sz rows false)])) : nM1 P f pre post e sz rows o := by
 cases o with
 | none =>
  refine lW0 hT hm hf hb hr hn hname hok hlen hsz rfl hcl hnd ?_
  have e1 : kb1 tab rs e sz none = fG1 tab rs [.one (.c (.v (.bool false)))] := by
   funext ex s
   cases ex <;> first | rfl | exact zT1
  rwa [e1] at h
 | some rows' =>
  refine yo0 hT hm hf hb hr hn hname hok hlen hsz rfl hcl (hcl' _ rfl).1 hnd (hcl' _ rfl).2 ?_
  have e1 : kb1 tab rs e sz (some rows') = kZ1 tab rs e sz rows' [.one (.c (.v (.bool true)))] := by
   funext ex s
   cases ex <;> first | rfl | exact zU1
  rwa [e1] at h
theorem Sim.rename {w0 : World} {M0 : Ms} {F0 F : Fz} {g : Gh} {s : St} {a : Act} {w : World} (h : Sim w0 M0 F0 F g s a w) {l T : Nat} {e : TypeId} {sz : Nat} {rows : List (List AC)} (hl : s.lb l = some (.arr e sz rows false)) (hT : s.lb T = none) (hcl : clR rows) (hn : noD rows = true) :
  ∃ g', Sim w0 M0 F0 F g' ((s.put l .dead).put T (.arr e sz rows false)) a w ∧ ∀ u, RepAC w F s.lb g (.own l rows.length) u → RepAC w F ((s.put l .dead).put T (.arr e sz rows false)).lb g' (.own T rows.length) u := by
 have hne : l ≠ T := fun e => by rw [← e, hl] at hT; cases hT
 have hun : ∀ b, b ∈ g.ds l → ∀ o, ¬ F b o := (h.so l _ hl).2 rfl hn
 have hrep := h.lb l _ hl
 have K : Keeps s.lb g ((s.put l .dead).put T (.arr e sz rows false)).lb ((g.upd l (g.bl l) (g.hd l) []).upd T (g.bl T) (g.hd l) (g.ds l)) := by
  constructor
  intro k Bk hB
  by_cases e1 : k = T
  ·subst e1; rw [hT] at hB; cases hB
  ·by_cases e2 : k = l
   ·subst e2
    refine ⟨.dead, by simp only [St.put_lb, if_neg e1, if_true], ?_⟩
    exact t4'
   ·refine ⟨Bk, by simp [St.put_lb, e1, e2, hB], ?_⟩
    simp only [Gh.upd, if_neg e1, if_neg e2]
    exact t3'
 refine ⟨_, h.two hne (vT := g.hd l) (Sl := []) (ST := g.ds l) hl (fun b => b ∈ g.ds l) (fun b hb => .inl hb) (fun b hb => by cases hb) (fun b hb => hb) (by simp) (h.nd l _ hl) (fun b hb => by cases hb) (Stays.refl _ _) (fun b o hb => .inl hb) K trivial ?_ trivial ?_, ?_⟩
 ·exact wd0 hcl (by simp [Gh.upd]) (by simp [Gh.upd]) hrep
 ·obtain ⟨_, _, _, _, _, _, hd⟩ := hrep
  simp only [SoftOk, Gh.upd, if_true]
  exact nu1
 ·intro u hu
  simp only [RepAC] at hu ⊢
  obtain ⟨k1, B, hB, hq⟩ := hu
  rw [hl] at hB
  obtain rfl := Option.some.inj hB
  refine ⟨k1, .arr e sz rows false, by simp only [St.put_lb, if_true], ?_⟩
  simp only [okOwnB, Gh.upd, if_true]
  exact ⟨Nat.le_refl _, fun _ => hq.2 rfl⟩
section
variable {n : Nat} {L : List (Nat × AV)} {B : List (Nat × LB)} {G : List AV} {l : Nat} {e : TypeId} {sz : Nat} {rows : List (List AC)} {k t : Nat}
theorem wY0 (T : Nat) (hl : zJ0 B l = some (.arr e sz rows false)) (hk : look L t = .one (.own l k)) (hkr : k = rows.length) (ht : t < n) (hT : zJ0 B T = none) (hcl : clR rows) (hn : noD rows = true) :
  Wk (mk n L B G) (mk n ((t, .one (.own T k)) :: L) ((T, .arr e sz rows false) :: (l, .dead) :: B) G) :=
 fun _ _ _ a _ ⟨F, g, h⟩ => by
  subst hkr
  obtain ⟨g', h', hu⟩ := h.rename (T := T) (by rw [wC0]; exact hl) (by rw [wC0]; exact hT) hcl hn
  have hs := h.sl t
  rw [cu0, hk] at hs
  simp only [RepAV] at hs
  have := h'.set (d := t) (v := .one (.own T rows.length)) ht (by simp only [RepAV]; exact hu _ hs)
  rw [cz0] at this
  exact ⟨F, g', this⟩
end
end Go.Ai
namespace Go.Ai
open Go.RowKit
section
variable {w0 : World} {M0 : Ms} {F0 F : Fz} {g : Gh} {s : St} {a : Act} {w : World}
theorem Sim.nilRow (h : Sim w0 M0 F0 F g s a w) {T : Nat} (e : TypeId) {sz : Nat} (hsz : 0 < sz) (hT : s.lb T = none) :
  ∃ g', Sim w0 M0 F0 F g' (s.put T (.arr e sz [] false)) a w ∧ g'.hd T = .slice none 0 0 := by
 refine ⟨g.upd T (g.bl T) (.slice none 0 0) [], h.putLB (fun B hB => by rw [hT] at hB; cases hB) ?_ ?_ (by simp) (fun l' B _ _ k hk => by cases hk) (fun k hk => by cases hk), by simp [Gh.upd]⟩
 ·refine ⟨hsz, by simp, [], [], ⟨by simp, .inl ⟨by simp [Gh.upd], rfl⟩⟩, ⟨rfl, rfl⟩, by simp [Gh.upd, blkOf, Value.ownBlock]⟩
 ·simp only [SoftOk, Gh.upd, if_true]
  exact ⟨fun b hb => by simp [blkOf, Value.ownBlock] at hb, fun _ _ b hb => by cases hb⟩
end
section
variable {n : Nat} {L : List (Nat × AV)} {B : List (Nat × LB)} {G : List AV} {l : Nat} {e : TypeId} {sz : Nat} {rows : List (List AC)} {fz : Bool} {rows' : List (List C)} {T k t : Nat}
theorem sU0 (T : Nat) (e : TypeId) (sz : Nat) (hk : look L t = .one .nil) (ht : t < n) (hT : zJ0 B T = none) (hsz : 0 < sz) :
  Wk (mk n L B G) (mk n ((t, .one (.own T 0)) :: L) ((T, .arr e sz [] false) :: B) G) :=
 fun _ _ _ a _ ⟨F, g, h⟩ => by
  obtain ⟨g', h', hd⟩ := h.nilRow (T := T) e hsz (by rw [wC0]; exact hT)
  have hs := h.sl t
  rw [cu0, hk] at hs
  simp only [RepAV, RepAC] at hs
  have := h'.set (d := t) (v := .one (.own T 0)) ht (u := a.tmps.getD t undef) (by
   simp only [RepAV, RepAC]
   refine ⟨by rw [hs]; rfl, .arr e sz [] false, by simp only [St.put_lb, if_true], ?_⟩
   simp only [okOwnB]
   exact ⟨Nat.le_refl _, fun _ => by rw [hd, hs]⟩)
  rw [cz0] at this
  exact ⟨F, g', this⟩
theorem pT0 {s : St} {ls : List Nat} {x : AC} {y : C} (h : jp0 s.lb x y) : jp0 (s.frzs ls).lb x y := by
 induction ls generalizing s with
 | nil => exact h
 | cons l ls ih =>
  refine ih (s := s.frz l) ?_
  cases x <;> simp only [jp0] at h ⊢ <;> try exact h
  obtain ⟨e, sz, rows, fz, rows', h1, h2⟩ := h
  obtain ⟨fz', h3⟩ := pi0 (l := l) h1
  exact ⟨e, sz, rows, fz', rows', h3, h2⟩
theorem dY0 (hl : zJ0 B l = some (.arr e sz rows fz)) (hk : look L t = .one (.own l k)) (hkr : k = rows.length) (ht : t < n) (hr : (rows.map fun r => r.map unN) = rows'.map fun r => r.map AC.c) :
  Wk (mk n L B G) (mk n ((t, .one (.c (.sl rows'))) :: L) (jo0 l B) G) :=
 fun _ _ _ a _ ⟨F, g, h⟩ => by
  obtain ⟨F1, h1, up, pf⟩ := h.freeze l
  have hs := h1.sl t
  simp only [St.frz_sl] at hs
  rw [cu0, hk] at hs
  simp only [RepAV] at hs
  have hv : jp0 (mk n L B G).lb (.own l k) (.sl rows') := ⟨e, sz, rows, fz, rows', by rw [wC0]; exact hl, hkr, hr, rfl⟩
  have hrd := wh0 h1 (fun _ _ hb => hb) (x := .own l k) (y := .sl rows') (pT0 (ls := [l]) hv) hs (fun l' hl' e' sz' rows1 fz' hq b o hb ho => by
   simp only [AC.owns, List.mem_singleton] at hl'
   subst hl'
   obtain ⟨fz2, hf2⟩ := pi0 (l := l') (s := mk n L B G) (k := l') (by rw [wC0]; exact hl)
   rw [hf2] at hq
   obtain ⟨rfl, rfl, rfl, _⟩ := LB.arr.inj (Option.some.inj hq)
   exact pf _ _ _ _ (by rw [wC0]; exact hl) b o hb ho)
  have := h1.set (d := t) (v := .one (.c (.sl rows'))) ht (u := a.tmps.getD t undef) (by simpa only [RepAV, RepAC] using hrd)
  rw [cz0, rv0, vL1] at this
  exact ⟨F1, g, this⟩
theorem xd0 {w : World} {F : Fz} {lb : Lk} {g : Gh} : ∀ (cells : List AC) (i : Nat) (us : List Value), cells[i]? = some .nil → RepACs w F lb g cells us → RepACs w F lb g (cells.set i (.c (.sl []))) us
 | [], i, _, h, _ => by simp at h
 | a :: as, 0, us, h, hr => by
  simp at h; subst h
  simp only [RepACs, List.set_cons_zero] at hr ⊢
  obtain ⟨u, us', rfl, h1, h2⟩ := hr
  refine ⟨u, us', rfl, ?_, h2⟩
  simp only [RepAC] at h1
  simp only [RepAC, Rd]
  exact ⟨none, 0, 1, h1, Nat.le_refl _, Nat.zero_le _, Nat.one_pos, fun _ => rfl, fun a ha => by cases ha⟩
 | a :: as, i + 1, us, h, hr => by
  simp only [RepACs, List.set_cons_succ] at hr ⊢
  obtain ⟨u, us', rfl, h1, h2⟩ := hr
  exact ⟨u, us', rfl, h1, xd0 as i us' (by simpa using h) h2⟩
theorem fo0 {cells : List AC} (l i : Nat) (hl : zJ0 B l = some (.var cells)) (hi : cells[i]? = some .nil) : Wk (mk n L B G) (mk n L ((l, .var (cells.set i (.c (.sl [])))) :: B) G) :=
 fun _ _ _ a _ ⟨F, g, h⟩ => by
  have hl' : (mk n L B G).lb l = some (.var cells) := by rw [wC0]; exact hl
  obtain ⟨cs, e, h1, h2, h3⟩ := h.lb l _ hl'
  have K : Keeps (mk n L B G).lb g ((mk n L B G).put l (.var (cells.set i (.c (.sl []))))).lb (g.upd l (g.bl l) (g.hd l) (g.ds l)) := Keeps.upd (fun B0 hB => by
   rw [hl'] at hB
   obtain rfl := Option.some.inj hB
   exact ⟨fun _ _ _ => trivial, fun _ _ h => h, fun _ _ _ _ _ => trivial, fun _ _ _ => trivial⟩)
  have := h.putLB (l := l) (b := g.bl l) (v := g.hd l) (S := g.ds l) (B' := .var (cells.set i (.c (.sl [])))) (fun B0 hB => by
   rw [hl'] at hB
   obtain rfl := Option.some.inj hB
   exact ⟨fun _ _ _ => trivial, fun _ _ h => h, fun _ _ _ _ _ => trivial, fun _ _ _ => trivial⟩)
   ⟨cs, e, by simpa [Gh.upd] using h1, RepACs.mono (Stays.refl _ _) K _ _ (xd0 _ i _ hi h2), by simpa [Gh.upd] using h3⟩
   (by have := h.so l _ hl'; simpa [SoftOk, Gh.upd] using this) (h.nd l _ hl') (fun l' B0 hne hB k hk hk' => h.dj l l' _ B0 (Ne.symm hne) hl' hB k hk hk') (fun k hk => h.nw l _ hl' k hk)
  exact ⟨F, _, this⟩
end
end Go.Ai
namespace Go.Ai
open Go.RowKit
variable {P : Program} {tab : Tab}
def gN1 : AC → Option Nat
 | .own l _ => some l
 | _ => none
def xT1 : List AC → Option Nat
 | [] => none
 | a :: as => match gN1 a with
  | some l => some l
  | none => xT1 as
def nk1 : AV → Option Nat
 | .one a => gN1 a
 | .agg as => xT1 as
 | _ => none
def yC1 : List AV → Option Nat
 | [] => none
 | v :: vs => match nk1 v with
  | some l => some l
  | none => yC1 vs
def fE1 (l : Option Nat) : AC → AC → Prop
 | .c x, .c y => x = y
 | .nil, .c y => y = .sl []
 | .e1, .c y => y = .sl []
 | .e0, .c y => y = .sl []
 | .own k n, .own j m => j = 0 ∧ l = some k ∧ n = m
 | .nil, .own j m => j = 0 ∧ l = none ∧ m = 0
 | _, _ => False
def kV1 (l : Option Nat) : List AC → List AC → Prop
 | [], [] => True
 | a :: as, b :: bs => fE1 l a b ∧ kV1 l as bs
 | _, _ => False
def ft1 (l : Option Nat) : AV → AV → Prop
 | .one a, .one b => fE1 l a b
 | .agg as, .agg bs => kV1 l as bs
 | _, _ => False
def kX1 (l : Option Nat) : List AV → List AV → Prop
 | [], [] => True
 | a :: as, b :: bs => ft1 l a b ∧ kX1 l as bs
 | _, _ => False
def zS1 (tab : Tab) (rs : List ResultVar) (e : TypeId) (sz : Nat) (rows : List (List AC)) (ds : List AV) (s : St) : Prop :=
 match kv0 tab s rs with
 | some (p, vs) => (p ∧ kX1 (yC1 vs) vs ds) ∧ match yC1 vs with
  | some l => s.lb l = some (.arr e sz rows false)
  | none => rows = []
 | none => False
def fI1 (tab : Tab) (rs : List ResultVar) (e : TypeId) (sz : Nat) (rows : List (List AC)) (ds : List AV) : Exit → St → Prop
 | .normal, s => zS1 tab rs e sz rows ds s
 | .ret, s => zS1 tab rs e sz rows ds s
 | _, _ => False
theorem yU1 {rs : List ResultVar} {e : TypeId} {sz : Nat} {rows : List (List AC)} {ds : List AV} {s : St} : fI1 tab rs e sz rows ds .ret s = zS1 tab rs e sz rows ds s := rfl
attribute [go_sem] yU1 zS1 gN1 xT1 nk1 yC1 fE1 kV1 ft1 kX1 xW1 mE0 renVs
section
variable {w : World} {F : Fz} {lb : Lk} {g : Gh} {e : TypeId} {sz : Nat} {rows : List (List AC)} {v0 : Value} {S : List Nat}
def jR1 (l : Option Nat) (lb : Lk) (g : Gh) (e : TypeId) (sz : Nat) (rows : List (List AC)) (v0 : Value) : Prop :=
 match l with
 | some l => lb l = some (.arr e sz rows false) ∧ v0 = g.hd l
 | none => rows = [] ∧ v0 = .slice none 0 0
theorem sG0 {l : Option Nat} (hr : jR1 l lb g e sz rows v0) {a b : AC} {u : Value} (h : fE1 l a b) (hu : RepAC w F lb g a u) : okO b = true ∧ RepAC w F (lbO e sz rows) (gA v0 S) b u := by
 unfold fE1 at h
 split at h
 ·subst h; exact ⟨rfl, by simpa only [RepAC] using hu⟩
 ·subst h
  simp only [RepAC] at hu
  refine ⟨rfl, ?_⟩
  subst hu
  simp only [RepAC, Rd]
  exact me1
 ·subst h
  simp only [RepAC] at hu
  exact ⟨rfl, by simp only [RepAC]; exact vm1 hu⟩
 ·subst h
  simp only [RepAC] at hu
  exact ⟨rfl, by simp only [RepAC]; exact vl1 hu⟩
 ·obtain ⟨rfl, rfl, rfl⟩ := h
  obtain ⟨hl, rfl⟩ := hr
  simp only [RepAC] at hu
  obtain ⟨h1, B, hB, h2⟩ := hu
  rw [hl] at hB
  obtain rfl := Option.some.inj hB
  refine ⟨rfl, ?_⟩
  simp only [RepAC]
  exact ⟨h1, _, by simp [lbO]; rfl, by simpa [okOwnB, gA] using h2⟩
 ·obtain ⟨rfl, rfl, rfl⟩ := h
  obtain ⟨rfl, rfl⟩ := hr
  simp only [RepAC] at hu
  subst hu
  refine ⟨rfl, ?_⟩
  simp only [RepAC]
  exact ⟨rfl, _, by simp [lbO]; rfl, by simp [okOwnB, gA]⟩
 ·exact h.elim
theorem lL0 {l : Option Nat} (hr : jR1 l lb g e sz rows v0) : ∀ {as bs : List AC} {us : List Value}, kV1 l as bs → RepACs w F lb g as us → bs.all okO = true ∧ RepACs w F (lbO e sz rows) (gA v0 S) bs us
 | [], [], us, _, hu => ⟨rfl, by simpa only [RepACs] using hu⟩
 | a :: as, b :: bs, us, h, hu => by
  simp only [RepACs] at hu ⊢
  obtain ⟨u, us', rfl, h1, h2⟩ := hu
  obtain ⟨k1, k2⟩ := sG0 (S := S) hr h.1 h1
  obtain ⟨k3, k4⟩ := lL0 hr h.2 h2
  exact ⟨by simp [k1, k3], u, us', rfl, k2, k4⟩
 | [], _ :: _, _, h, _ => h.elim
 | _ :: _, [], _, h, _ => h.elim
theorem kW1 {l : Option Nat} (hr : jR1 l lb g e sz rows v0) {a b : AV} {u : Value} (h : ft1 l a b) (hu : RepAV w F lb g a u) : lE0 b = true ∧ RepAV w F (lbO e sz rows) (gA v0 S) b u := by
 unfold ft1 at h
 split at h
 ·simp only [RepAV] at hu ⊢
  obtain ⟨k1, k2⟩ := sG0 (S := S) hr h hu
  exact ⟨by simp only [lE0, k1], k2⟩
 ·simp only [RepAV] at hu ⊢
  obtain ⟨us, h1, h2⟩ := hu
  obtain ⟨k1, k2⟩ := lL0 (S := S) hr h h2
  exact ⟨by simp only [lE0, k1], us, h1, k2⟩
 ·exact h.elim
theorem fO0 {l : Option Nat} (hr : jR1 l lb g e sz rows v0) : ∀ {as bs : List AV} {us : List Value}, kX1 l as bs → RepAVs w F lb g as us → okOVs bs = true ∧ RepAVs w F (lbO e sz rows) (gA v0 S) bs us
 | [], [], us, _, hu => ⟨rfl, by simpa only [RepAVs] using hu⟩
 | a :: as, b :: bs, us, h, hu => by
  simp only [RepAVs] at hu ⊢
  obtain ⟨u, us', rfl, h1, h2⟩ := hu
  obtain ⟨k1, k2⟩ := kW1 (S := S) hr h.1 h1
  obtain ⟨k3, k4⟩ := fO0 hr h.2 h2
  exact ⟨by simp [okOVs, k1, k3], u, us', rfl, k2, k4⟩
 | [], _ :: _, _, h, _ => h.elim
 | _ :: _, [], _, h, _ => h.elim
theorem gm0 {ds : List AV} {us : List Value} (hne : ds ≠ []) (ho : okOVs ds = true) (h : RepAVs w F (lbO e sz rows) (gA v0 S) ds us) : lE0 (qa0 ds) = true ∧ RepAV w F (lbO e sz rows) (gA v0 S) (qa0 ds) (nL0 us) := by
 match ds, us, h with
 | [], _, _ => exact absurd rfl hne
 | [d], us, h =>
  simp only [RepAVs] at h
  obtain ⟨u, us', rfl, h1, rfl⟩ := h
  simp only [okOVs, Bool.and_true] at ho
  exact ⟨ho, h1⟩
 | d :: d' :: ds, us, h =>
  have h' := h
  simp only [RepAVs] at h'
  obtain ⟨u, us', rfl, _, u', us'', rfl, _⟩ := h'
  refine ⟨by simpa only [qa0, lE0] using ho, ?_⟩
  simp only [qa0, nL0, RepAV]
  exact ⟨u :: u' :: us'', rfl, h⟩
end
theorem qe0 (ds : List AV) {r : AV} (hds : qa0 ds = r) (hne : ds ≠ []) (hT : zT0 P tab) (hm : P.follows .mixedOrders = true) {f : FuncId} {fn : Func} {c : Code} {args : List AV} {e : TypeId} {sz : Nat} {rows : List (List AC)} {rs : List ResultVar} {n : Nat} (hf : P.funcs[f]? = some fn) (hb : fn.body = some c) (hr : fn.results.toList = rs) (hn : fn.ntmps = n) (hname : fn.name ≠ "runtime.NumGoroutine")
  (hok : qm0 c = true) (hlen : args.length ≤ n) (hsz : 0 < sz) (hcl : clR rows) (hnd : noD rows = true) (hod : okOVs ds = true)
  (h : qn0 P tab c (fI1 tab rs e sz rows ds) (mk n (qV0 0 args) [])) : SatO P f args e sz rows r := by
 subst hr hn hds
 have hj : lE0 (qa0 ds) = true := by
  match ds, hne, hod with
  | [d], _, hod => simpa only [qa0, okOVs, Bool.and_true] using hod
  | d :: d' :: ds, _, hod => simpa only [qa0, lE0] using hod
 refine ⟨⟨fn, hf, hname, by rw [hb]; simp⟩, hsz, hcl, hnd, hj, fun w F us hF hrep => ?_⟩
 refine calls_of_wp hf hb (wp_mono (zf0 hT hm c _ _ hok h w ⟨[], []⟩ F _ w ⟨F, g0, vQ0 hF hlen hrep⟩) ?_)
 rintro ex a' w' ⟨s', hq, F1, g1, hs'⟩
 have main : zS1 tab fn.results.toList e sz rows ds s' → ∃ v, (results fn a'.tmps).run P w' = .ok v w' ∧ ∃ v1 F' v0 S, Ending.returned v = .returned v1 ∧ RepAV w' F' (lbO e sz rows) (gA v0 S) (qa0 ds) v1 ∧ RepLB w' F' noLk (gA v0 S) 0 (.arr e sz rows false) ∧ S.Nodup ∧
   (∀ b, b ∈ S → w.heap.size ≤ b ∧ b < w'.heap.size ∧ ∀ o, ¬ F' b o) ∧ (∀ b o, F b o → F' b o) ∧ (∀ b o, F' b o → F b o ∨ w.heap.size ≤ b) ∧ (∀ b o, F' b o → b < w'.heap.size) ∧ Below w.heap.size w w' := by
  intro hq
  unfold zS1 at hq
  split at hq
  case h_2 => exact hq.elim
  rename_i p vs ho
  obtain ⟨⟨hp, hrel⟩, hrow⟩ := hq
  obtain ⟨us', hrun, hargs⟩ := qd0 hT hs' rfl ho hp
  have below : Below w.heap.size w w' := ⟨hs'.os, hs'.tape, hs'.output, hs'.size, fun k hk => hs'.block k hk (fun h => by cases h)⟩
  have hf1 : ∀ b o, F1 b o → F b o ∨ w.heap.size ≤ b := fun b o hb => (hs'.f1 b o hb).imp id (fun hq => hq.elim id (fun hq => by cases hq))
  cases hl : yC1 vs with
  | some l =>
   rw [hl] at hrow hrel
   simp only at hrow
   obtain ⟨k1, k2⟩ := fO0 (S := g1.ds l) (v0 := g1.hd l) (l := some l) (lb := s'.lb) (g := g1) (e := e) (sz := sz) (rows := rows) ⟨hrow, rfl⟩ hrel hargs
   have hun : ∀ b, b ∈ g1.ds l → ∀ o, ¬ F1 b o := (hs'.so l _ hrow).2 rfl hnd
   exact ⟨_, hrun, _, F1, g1.hd l, g1.ds l, rfl, (gm0 hne k1 k2).2, wd0 (g := g1) (l := l) hcl rfl rfl (hs'.lb l _ hrow), hs'.nd l _ hrow, fun b hb => ⟨((hs'.nw l _ hrow b hb).1).resolve_right (fun hq => by cases hq), (hs'.nw l _ hrow b hb).2, hun b hb⟩, hs'.f0, hf1, hs'.f2, below⟩
  | none =>
   rw [hl] at hrow hrel
   simp only at hrow
   subst hrow
   obtain ⟨k1, k2⟩ := fO0 (S := []) (v0 := .slice none 0 0) (l := none) (lb := s'.lb) (g := g1) (e := e) (sz := sz) (rows := []) ⟨rfl, rfl⟩ hrel hargs
   exact ⟨_, hrun, _, F1, .slice none 0 0, [], rfl, (gm0 hne k1 k2).2, ⟨hsz, by simp, [], [], ⟨by simp, .inl ⟨rfl, rfl⟩⟩, ⟨rfl, rfl⟩, rfl⟩, by simp, (fun b hb => by cases hb), hs'.f0, hf1, hs'.f2, below⟩
 cases ex with
 | normal => exact ⟨hs'.df, main hq⟩
 | ret => exact ⟨hs'.df, main hq⟩
 | _ => exact hq.elim
def vh1 (rows' : List (List C)) : AC → AC
 | .own _ _ => .c (.sl rows')
 | a => a
mutual
def vE1 (rows' : List (List C)) : AV → AV
 | .one a => .one (vh1 rows' a)
 | .agg as => .agg (as.map (vh1 rows'))
 | .tup vs => .tup (datVs rows' vs)
 | .any => .any
def datVs (rows' : List (List C)) : List AV → List AV
 | [] => []
 | v :: vs => vE1 rows' v :: datVs rows' vs
end
def mq0 (n : Nat) : AC → Bool
 | .own _ m => m == n
 | _ => true
mutual
def gU0 (n : Nat) : AV → Bool
 | .one a => mq0 n a
 | .agg as => as.all (mq0 n)
 | .tup vs => fullVs n vs
 | .any => true
def fullVs (n : Nat) : List AV → Bool
 | [] => true
 | v :: vs => gU0 n v && fullVs n vs
end
attribute [go_sem] vh1 vE1 datVs
section
variable {w : World} {F F' : Fz} {lb : Lk} {g : Gh} {e : TypeId} {sz : Nat} {rows : List (List AC)} {rows' : List (List C)} {v0 : Value} {S : List Nat}
theorem fJ1 (up : ∀ b o, F b o → F' b o) (hF : ∀ b o, b ∈ blkOf v0 → o < rows.length * sz → F' b o) (hr : (rows.map fun r => r.map unN) = rows'.map fun r => r.map AC.c) (h : RepLB w F noLk (gA v0 S) 0 (.arr e sz rows false)) : Rd w F' (.sl rows') v0 := by
 obtain ⟨hsz, hrl, xs, S', hown, hcells, _⟩ := h
 have hlr : rows'.length = rows.length := by have := congrArg List.length hr; rw [List.length_map, List.length_map] at this; exact this.symm
 have hl' : ∀ r, r ∈ rows' → r.length = sz := by
  intro r hq
  have : r.map AC.c ∈ rows.map (fun r => r.map unN) := by rw [hr]; exact List.mem_map.2 ⟨r, hq, rfl⟩
  obtain ⟨q, hq1, hq2⟩ := List.mem_map.1 this
  have := congrArg List.length hq2
  rw [List.length_map, List.length_map] at this
  rw [← this]; exact hrl q hq1
 have hun := RepACs.mono (w' := w) ⟨up, fun _ _ _ => rfl⟩ (Keeps.refl noLk (gA v0 S)) _ _ (RepCells.unN hcells)
 rw [← yX0, hr] at hun
 simp only [Rd]
 rcases hown.2 with ⟨k1, k2⟩ | ⟨gg, cap, cur, k1, _, hh, hle, hcm, _, _⟩
 ·have k1 : v0 = .slice none 0 0 := k1
  exact ⟨none, 0, 1, by rw [k1, hlr, k2], by omega, Nat.zero_le _, Nat.one_pos, fun _ => rfl, fun a ha => by cases ha⟩
 ·have k1 : v0 = _ := k1
  refine ⟨some ⟨gg, 0, none⟩, cap, sz, by rw [k1, hlr], by omega, hcm, hsz, fun h => (by cases h), fun a ha => ?_⟩
  obtain rfl := Option.some.inj ha
  refine ⟨fun _ => rfl, dG0 rows' xs 0 hl' hun (fun j hj => ?_) (fun j u hj => ?_)⟩
  ·rw [Nat.zero_add]
   exact nw1
  ·have := hown.cells (g := gg) (by have : (gA v0 S).hd 0 = v0 := rfl; rw [this, k1]; rfl) j u hj
   rwa [wR0] at this
theorem rY0 (up : ∀ b o, F b o → F' b o) (hrd : Rd w F' (.sl rows') v0) {x : AC} {u : Value} (ho : okO x = true) (hf : mq0 rows.length x = true) (h : RepAC w F (lbO e sz rows) (gA v0 S) x u) : RepAC w F' noLk g0 (vh1 rows' x) u := by
 cases x <;> try (cases ho; done)
 ·simp only [vh1, RepAC] at h ⊢
  exact Rd.mono ⟨up, fun _ _ _ => rfl⟩ _ _ h
 ·simp only [RepAC] at h
  obtain ⟨h1, B, hB, h2⟩ := h
  simp only [mq0, beq_iff_eq] at hf
  unfold lbO at hB
  split at hB
  ·obtain rfl := Option.some.inj hB
   simp only [okOwnB] at h2
   have := h2.2 hf
   have this : u = v0 := this
   subst this
   simpa only [vh1, RepAC] using hrd
  ·cases hB
theorem gH0 (up : ∀ b o, F b o → F' b o) (hrd : Rd w F' (.sl rows') v0) : ∀ {xs : List AC} {us : List Value}, xs.all okO = true → xs.all (mq0 rows.length) = true → RepACs w F (lbO e sz rows) (gA v0 S) xs us → RepACs w F' noLk g0 (xs.map (vh1 rows')) us
 | [], us, _, _, h => by simpa only [List.map_nil, RepACs] using h
 | x :: xs, us, ho, hf, h => by
  simp only [List.all_cons, Bool.and_eq_true] at ho hf
  simp only [List.map_cons, RepACs] at h ⊢
  obtain ⟨u, us', rfl, h1, h2⟩ := h
  exact ⟨u, us', rfl, rY0 up hrd ho.1 hf.1 h1, gH0 up hrd ho.2 hf.2 h2⟩
mutual
theorem rZ0 (up : ∀ b o, F b o → F' b o) (hrd : Rd w F' (.sl rows') v0) : ∀ (x : AV) (u : Value), lE0 x = true → gU0 rows.length x = true → RepAV w F (lbO e sz rows) (gA v0 S) x u → RepAV w F' noLk g0 (vE1 rows' x) u
 | .one a, u, ho, hf, h => by simp only [lE0, gU0] at ho hf; simp only [vE1, RepAV] at h ⊢; exact rY0 up hrd ho hf h
 | .agg as, u, ho, hf, h => by
  simp only [lE0, gU0] at ho hf
  simp only [vE1, RepAV] at h ⊢
  obtain ⟨us, h1, h2⟩ := h
  exact ⟨us, h1, gH0 up hrd ho hf h2⟩
 | .tup vs, u, ho, hf, h => by
  simp only [lE0, gU0] at ho hf
  simp only [vE1, RepAV] at h ⊢
  obtain ⟨us, h1, h2⟩ := h
  exact ⟨us, h1, datVs_rep up hrd vs us ho hf h2⟩
 | .any, _, _, _, _ => by simp only [vE1, RepAV]
theorem datVs_rep (up : ∀ b o, F b o → F' b o) (hrd : Rd w F' (.sl rows') v0) : ∀ (xs : List AV) (us : List Value), okOVs xs = true → fullVs rows.length xs = true → RepAVs w F (lbO e sz rows) (gA v0 S) xs us → RepAVs w F' noLk g0 (datVs rows' xs) us
 | [], us, _, _, h => by simpa only [datVs, RepAVs] using h
 | x :: xs, us, ho, hf, h => by
  simp only [okOVs, fullVs, Bool.and_eq_true] at ho hf
  simp only [datVs, RepAVs] at h ⊢
  obtain ⟨u, us', rfl, h1, h2⟩ := h
  exact ⟨u, us', rfl, rZ0 up hrd x u ho.1 hf.1 h1, datVs_rep up hrd xs us' ho.2 hf.2 h2⟩
end
end
theorem SatO.sat {f : FuncId} {args : List AV} {e : TypeId} {sz : Nat} {rows : List (List AC)} {rows' : List (List C)} {r r' : AV} (h : SatO P f args e sz rows r) (hf : gU0 rows.length r = true) (hr : (rows.map fun r => r.map unN) = rows'.map fun r => r.map AC.c) (hr' : vE1 rows' r = r') : Sat P f args r' := by
 subst hr'
 obtain ⟨hc, _, _, _, hok, hcall⟩ := h
 refine ⟨hc, fun w F us hF hrep => (hcall w F us hF hrep).mono ?_⟩
 rintro ex w' ⟨v, F', v0, S, rfl, h1, h2, h3, h4, h5, h6, h7, h8⟩
 have hsub : ∀ b, b ∈ blkOf v0 → b ∈ S := by
  obtain ⟨_, _, _, _, _, _, hd⟩ := h2
  intro b hb
  have : S = blkOf v0 ++ _ := hd
  rw [this]; simp [hb]
 have hrd := fJ1 (F' := fun b o => F' b o ∨ b ∈ blkOf v0) (fun _ _ h => .inl h) (fun b o hb _ => .inr hb) hr h2
 exact ⟨v, _, rfl, h8, fun b o hb => .inl (h5 b o hb), fun b o hb => hb.elim (h6 b o) (fun hb => .inr (h4 b (hsub b hb)).1), fun b o hb => hb.elim (h7 b o) (fun hb => (h4 b (hsub b hb)).2.1), rZ0 (fun _ _ h => .inl h) hrd r v hok hf h1⟩
theorem yi1 {w : World} {F : Fz} {u : Value} (h : RepAV w F noLk g0 (.one (.c (.sl []))) u) : RepAV w F noLk g0 (.one .nil) u ∨ RepAV w F noLk g0 (.one .e1) u := by
 simp only [RepAV, RepAC, Rd, List.length_nil] at h ⊢
 obtain ⟨A, cap, sz, rfl, _, h3, _, h5, h6⟩ := h
 cases A with
 | none => left; rw [h5 rfl]
 | some a => exact .inr ⟨a, cap, rfl, h3, (h6 a rfl).1⟩
theorem sL0 {f : FuncId} {e : TypeId} {sz : Nat} {rows : List (List AC)} {r : AV} (h1 : SatO P f [.one .nil] e sz rows r) (h2 : SatO P f [.one .e1] e sz rows r) : SatO P f [.one (.c (.sl []))] e sz rows r := by
 obtain ⟨a1, a2, a3, a4, a5, k1⟩ := h1
 obtain ⟨_, _, _, _, _, k2⟩ := h2
 refine ⟨a1, a2, a3, a4, a5, fun w F us hF hrep => ?_⟩
 simp only [RepAVs] at hrep
 obtain ⟨u, us', rfl, hu, rfl⟩ := hrep
 rcases yi1 hu with h | h
 ·exact k1 w F _ hF (by simp only [RepAVs]; exact ⟨u, [], rfl, h, rfl⟩)
 ·exact k2 w F _ hF (by simp only [RepAVs]; exact ⟨u, [], rfl, h, rfl⟩)
end Go.Ai
namespace Go.Ai
open Go.RowKit
section
variable {n : Nat} {L : List (Nat × AV)} {B : List (Nat × LB)} {G : List AV} {e : TypeId} {sz : Nat} {rows : List (List AC)} {rows' : List (List C)} {fz : Bool} {k : Nat}
theorem xn0 {w : World} {F : Fz} {lb : Lk} {g : Gh} {x : AC} {y : C} (hxy : ∀ u, RepAC w F lb g x u → Rd w F y u) : ∀ (cells : List AC) (i : Nat) (us : List Value), cells[i]? = some x → RepACs w F lb g cells us → RepACs w F lb g (cells.set i (.c y)) us
 | [], i, _, h, _ => by simp at h
 | a :: as, 0, us, h, hr => by
  simp at h; subst h
  simp only [RepACs, List.set_cons_zero] at hr ⊢
  obtain ⟨u, us', rfl, h1, h2⟩ := hr
  exact ⟨u, us', rfl, by simp only [RepAC]; exact hxy u h1, h2⟩
 | a :: as, i + 1, us, h, hr => by
  simp only [RepACs, List.set_cons_succ] at hr ⊢
  obtain ⟨u, us', rfl, h1, h2⟩ := hr
  exact ⟨u, us', rfl, h1, xn0 hxy as i us' (by simpa using h) h2⟩
theorem wu0 {cells : List AC} (l i t : Nat) (hl : zJ0 B l = some (.var cells)) (hi : cells[i]? = some (.own t k)) (ht : zJ0 B t = some (.arr e sz rows fz)) (hkr : k = rows.length) (hr : (rows.map fun r => r.map unN) = rows'.map fun r => r.map AC.c) :
  Wk (mk n L B G) (mk n L ((l, .var (cells.set i (.c (.sl rows')))) :: jo0 t B) G) :=
 fun _ _ _ a _ ⟨F, g, h⟩ => by
  obtain ⟨F1, h1, up, pf⟩ := h.freeze t
  have hne : l ≠ t := fun e => by rw [e, ht] at hl; cases hl
  have hv : jp0 (mk n L B G).lb (.own t k) (.sl rows') := ⟨e, sz, rows, fz, rows', by rw [wC0]; exact ht, hkr, hr, rfl⟩
  have hrd := fun u hs => wh0 h1 (fun _ _ hb => hb) (x := .own t k) (y := .sl rows') (u := u) (pT0 (ls := [t]) hv) hs (fun l' hl' e' sz' rows1 fz' hq b o hb ho => by
   simp only [AC.owns, List.mem_singleton] at hl'
   subst hl'
   obtain ⟨fz2, hf2⟩ := pi0 (l := l') (s := mk n L B G) (k := l') (by rw [wC0]; exact ht)
   rw [hf2] at hq
   obtain ⟨rfl, rfl, rfl, _⟩ := LB.arr.inj (Option.some.inj hq)
   exact pf _ _ _ _ (by rw [wC0]; exact ht) b o hb ho)
  rw [rv0] at h1 hrd
  have hl' : (mk n L (jo0 t B) G).lb l = some (.var cells) := by rw [wC0, jx0, if_neg hne]; exact hl
  obtain ⟨cs, e, h2, h3, h4⟩ := h1.lb l _ hl'
  have K : Keeps (mk n L (jo0 t B) G).lb g ((mk n L (jo0 t B) G).put l (.var (cells.set i (.c (.sl rows'))))).lb (g.upd l (g.bl l) (g.hd l) (g.ds l)) := Keeps.upd (fun B0 hB => by
   rw [hl'] at hB
   obtain rfl := Option.some.inj hB
   exact ⟨fun _ _ _ => trivial, fun _ _ h => h, fun _ _ _ _ _ => trivial, fun _ _ _ => trivial⟩)
  have := h1.putLB (l := l) (b := g.bl l) (v := g.hd l) (S := g.ds l) (B' := .var (cells.set i (.c (.sl rows')))) (fun B0 hB => by
   rw [hl'] at hB
   obtain rfl := Option.some.inj hB
   exact ⟨fun _ _ _ => trivial, fun _ _ h => h, fun _ _ _ _ _ => trivial, fun _ _ _ => trivial⟩)
   ⟨cs, e, by simpa [Gh.upd] using h2, RepACs.mono (Stays.refl _ _) K _ _ (xn0 (fun u hu => hrd u hu) _ i _ hi h3), by simpa [Gh.upd] using h4⟩
   (by have := h1.so l _ hl'; simpa [SoftOk, Gh.upd] using this) (h1.nd l _ hl') (fun l' B0 hne hB k hk hk' => h1.dj l l' _ B0 (Ne.symm hne) hl' hB k hk hk') (fun k hk => h1.nw l _ hl' k hk)
  exact ⟨F1, _, this⟩
end
end Go.Ai
namespace Go.Ai
open Go.RowKit
def tF1 (l T : Nat) : AC → AC
 | .tk k i => if k = l then .tk T i else .tk k i
 | a => a
section
variable {n : Nat} {L : List (Nat × AV)} {B : List (Nat × LB)} {G : List AV} {xs : List (Option C)}
end
end Go.Ai
namespace Go.Ai
open Go.RowKit
section
variable {n : Nat} {L : List (Nat × AV)} {B : List (Nat × LB)} {G : List AV} {l T : Nat} {e e' : TypeId} {sz sz' : Nat} {rows rows' : List (List AC)} {fz : Bool} {i c k : Nat} {y : List (List C)}
theorem jP0 {rows1 : List (List AC)} {fz1 : Bool} (hl : zJ0 B l = some (.arr e sz rows fz)) (hi : i < rows.length) (hc : (rows.getD i [])[c]? = some (.own T k)) (hT : zJ0 B T = some (.arr e' sz' rows1 fz1)) (hkr : k = rows1.length) (hr : (rows1.map fun r => r.map unN) = y.map fun r => r.map AC.c) (hne : l ≠ T) :
  Wk (mk n L B G) (mk n L ((l, .arr e sz (rows.set i ((rows.getD i []).set c (.c (.sl y)))) fz) :: jo0 T B) G) :=
 fun _ _ _ a _ ⟨F, g, h⟩ => by
  obtain ⟨F1, h1, up, pf⟩ := h.freeze T
  have hv : jp0 (mk n L B G).lb (.own T k) (.sl y) := ⟨e', sz', rows1, fz1, y, by rw [wC0]; exact hT, hkr, hr, rfl⟩
  have hrd := fun u hs => wh0 h1 (fun _ _ hb => hb) (x := .own T k) (y := .sl y) (u := u) (pT0 (ls := [T]) hv) hs (fun l' hl' e' sz' rows1 fz' hq b o hb ho => by
   simp only [AC.owns, List.mem_singleton] at hl'
   subst hl'
   obtain ⟨fz2, hf2⟩ := pi0 (l := l') (s := mk n L B G) (k := l') (by rw [wC0]; exact hT)
   rw [hf2] at hq
   obtain ⟨rfl, rfl, rfl, _⟩ := LB.arr.inj (Option.some.inj hq)
   exact pf _ _ _ _ (by rw [wC0]; exact hT) b o hb ho)
  rw [rv0] at h1 hrd
  have hl' : (mk n L (jo0 T B) G).lb l = some (.arr e sz rows fz) := by rw [wC0, jx0, if_neg hne]; exact hl
  obtain ⟨hsz, hrl, vs, S, hown, hcells, hds⟩ := h1.lb l _ hl'
  obtain ⟨u, SA, Si, SB, rfl, hcell, hput⟩ := RepCells.at hi hc hcells
  obtain ⟨hcell, rfl⟩ : RepAC _ F1 (mk n L (jo0 T B) G).lb g (.own T k) u ∧ Si = [] := hcell
  let B' : LB := .arr e sz (rows.set i ((rows.getD i []).set c (.c (.sl y)))) fz
  have hup : ∀ B0, (mk n L (jo0 T B) G).lb l = some B0 → (∀ n u, okOwnB B0 (g.hd l) n u → okOwnB B' (g.hd l) n u) ∧ (∀ off u, zZ0 B0 (g.bl l) off u → zZ0 B' (g.bl l) off u) ∧
    (∀ n i off u, qG0 B0 (g.hd l) n i off u → qG0 B' (g.hd l) n i off u) ∧ (∀ i u, wD0 B0 (g.hd l) i u → wD0 B' (g.hd l) i u) := fun B0 hB => by
   rw [hl'] at hB
   obtain rfl := Option.some.inj hB
   simp only [okOwnB, qG0, List.length_set, B']
   exact t3'
  have K : Keeps (mk n L (jo0 T B) G).lb g ((mk n L (jo0 T B) G).put l B').lb (g.upd l (g.bl l) (g.hd l) (g.ds l)) := Keeps.upd hup
  have := h1.putLB (l := l) (b := g.bl l) (v := g.hd l) (S := g.ds l) (B' := B') hup
   ⟨hsz, sM0 hrl hi, vs, SA ++ ([] ++ SB), by simpa [Gh.upd] using hown, hput _ [] (Stays.refl _ _) K ⟨by simp only [RepAC]; exact hrd u hcell, rfl⟩, by simpa [Gh.upd] using hds⟩
   (by
    have hs := h1.so l _ hl'
    simp only [SoftOk, Gh.upd, if_true, List.length_set, B'] at hs ⊢
    exact ⟨hs.1, fun hz hn => hs.2 hz (gy0 hi hc rfl hn)⟩)
   (h1.nd l _ hl') (fun l' B0 hne hB k hk hk' => h1.dj l l' _ B0 (Ne.symm hne) hl' hB k hk hk') (fun k hk => h1.nw l _ hl' k hk)
  exact ⟨F1, _, this⟩
end
end Go.Ai
