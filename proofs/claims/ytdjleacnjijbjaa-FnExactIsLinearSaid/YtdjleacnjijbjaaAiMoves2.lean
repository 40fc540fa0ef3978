/- Owned values from tokens into rows; loops whose states are told in another way at the start of a round. -/
import Derived.Test.YtdjleacnjijbjaaAiEval
namespace Go.Ai
set_option linter.unusedVariables false
set_option linter.unusedSimpArgs false
open Go.RowKit

section
variable {w0 : World} {M0 : Ms} {F0 F F' : Fz} {g : Gh} {s : St} {a : Act} {w : World}

theorem noD_setTk {rows : List (List AC)} {i c : Nat} {x y : AC} (hi : i < rows.length) (hc : (rows.getD i [])[c]? = some x) (hx : isD x = false) (h : noD (rows.set i ((rows.getD i []).set c y)) = true) : noD rows = true := by
  simp only [noD, List.all_eq_true, Bool.not_eq_true'] at h ⊢
  intro r hr z hz
  obtain ⟨j, hj, rfl⟩ := List.getElem_of_mem hr
  by_cases e : j = i
  · subst e
    have hg : rows.getD j [] = rows[j] := by rw [List.getD_eq_getElem?_getD, List.getElem?_eq_getElem hj]; rfl
    rw [hg] at hc h
    have hs := h (rows[j].set c y) (List.mem_of_getElem? (i := j) (by rw [List.getElem?_set_self (by simpa using hj)]))
    obtain ⟨k, hk, rfl⟩ := List.getElem_of_mem hz
    by_cases e2 : k = c
    · subst e2
      rw [List.getElem?_eq_getElem hk] at hc
      obtain rfl := Option.some.inj hc
      exact hx
    · exact hs _ (List.mem_of_getElem? (i := k) (by rw [List.getElem?_set_ne (Ne.symm e2), List.getElem?_eq_getElem hk]))
  · exact h rows[j] (List.mem_of_getElem? (i := j) (by rw [List.getElem?_set_ne (Ne.symm e), List.getElem?_eq_getElem hj])) z hz

/-- An owned value goes from a token into a row's cell: frozen ('d') or not ('m'). -/
theorem Sim.fillCell (h : Sim w0 M0 F0 F g s a w) {l : Nat} {e : TypeId} {sz : Nat} {rows : List (List AC)} {fz : Bool} {i c T j : Nat} {x : C} {xs : List (Option C)} {dd : Bool} (hl : s.lb l = some (.arr e sz rows fz)) (hi : i < rows.length) (hc : (rows.getD i [])[c]? = some (.tk T j)) (hT : s.lb T = some (.tok xs)) (hx : xs[j]? = some (some x))
    (hd : dd = false → fz = false) :
    ∃ F' g', Sim w0 M0 F0 F' g' ((s.put l (.arr e sz (rows.set i ((rows.getD i []).set c (if dd then .d x else .m x))) fz)).put T (.tok (xs.set j none))) a w := by
  have hne : l ≠ T := fun e => by rw [← e, hl] at hT; cases hT
  obtain ⟨hsz, hrl, vs, S, hown, hcells, hds⟩ := h.lb l _ hl
  obtain ⟨u, SA, Si, SB, rfl, hcell, hput⟩ := RepCells.at hi hc hcells
  obtain ⟨hcell, rfl⟩ : RepAC w F s.lb g (.tk T j) u ∧ Si = [] := hcell
  obtain ⟨us, hhd, huj, hts⟩ := tok_row h hT hcell
  obtain ⟨u', TA, Ti, TB, k1, k2, k3, k4, _⟩ := OwnTs.get _ _ _ _ _ hts hx
  rw [huj] at k1
  obtain rfl := Option.some.inj k1
  have hndl := h.nd l _ hl
  have hndT := h.nd T _ hT
  rw [hds] at hndl
  rw [k2] at hndT
  have hdj : ∀ b, b ∈ blkOf (g.hd l) ++ (SA ++ ([] ++ SB)) → b ∉ TA ++ (Ti ++ TB) := fun b hb hb' => h.dj l T _ _ hne hl hT b (by rw [hds]; exact hb) (by rw [k2]; exact hb')
  have hsoT := h.so T _ hT
  simp only [SoftOk] at hsoT
  have hsol := h.so l _ hl
  let F' : Fz := fun b o => F b o ∨ (dd = true ∧ b ∈ Ti)
  have st : Stays w w F F' := ⟨fun _ _ hb => .inl hb, fun _ _ _ => rfl⟩
  let B' : LB := .arr e sz (rows.set i ((rows.getD i []).set c (if dd then .d x else .m x))) fz
  have K : Keeps s.lb g ((s.put l B').put T (.tok (xs.set j none))).lb ((g.upd l (g.bl l) (g.hd l) (blkOf (g.hd l) ++ (SA ++ (Ti ++ SB)))).upd T (g.bl T) (.agg us.toArray) (TA ++ ([] ++ TB))) := by
    constructor
    intro k Bk hB
    by_cases e1 : k = T
    · subst e1
      rw [hT] at hB
      obtain rfl := Option.some.inj hB
      refine ⟨.tok (xs.set j none), by simp only [St.put_lb, if_true], ?_⟩
      simp only [Gh.upd, if_true, hhd]
      exact ⟨fun _ _ h => h, fun _ _ h => h, fun _ _ _ _ h => h, fun _ _ h => h⟩
    · by_cases e2 : k = l
      · subst e2
        rw [hl] at hB
        obtain rfl := Option.some.inj hB
        refine ⟨B', by simp only [St.put_lb, if_neg e1, if_true], ?_⟩
        simp only [Gh.upd, if_neg e1, if_true, okOwnB, okEpB, List.length_set, B']
        exact ⟨fun _ _ h => h, fun _ _ h => h, fun _ _ _ _ h => h, fun _ _ h => h⟩
      · refine ⟨Bk, by simp [St.put_lb, e1, e2, hB], ?_⟩
        simp only [Gh.upd, if_neg e1, if_neg e2]
        exact ⟨fun _ _ h => h, fun _ _ h => h, fun _ _ _ _ h => h, fun _ _ h => h⟩
  simp only [List.nodup_append] at hndl hndT
  obtain ⟨n1, ⟨n2, ⟨_, n4, _⟩, n6⟩, n7⟩ := hndl
  obtain ⟨m1, ⟨m2, m3, m4⟩, m5⟩ := hndT
  refine ⟨F', _, h.two hne (vT := .agg us.toArray) (Sl := blkOf (g.hd l) ++ (SA ++ (Ti ++ SB))) (ST := TA ++ ([] ++ TB)) hl (fun b => b ∈ g.ds l ∨ b ∈ g.ds T) (fun b hb => hb.imp id (fun hb => ⟨_, hT, hb⟩)) ?_ ?_ ?_ ?_ ?_ st ?_ K ?_ ?_ ?_ ?_⟩
  · intro b hb
    rw [hds, k2]
    simp only [List.mem_append, List.nil_append] at hb ⊢
    rcases hb with hb | hb | hb | hb <;> simp [hb]
  · intro b hb
    rw [k2]
    simp only [List.mem_append, List.nil_append] at hb ⊢
    rcases hb with hb | hb <;> simp [hb]
  · simp only [List.nodup_append]
    refine ⟨n1, ⟨n2, ⟨m2, n4, fun y hy z hz e => ?_⟩, fun y hy z hz e => ?_⟩, fun y hy z hz e => ?_⟩
    · subst e; exact hdj y (by simp [hz]) (by simp [hy])
    · subst e
      rcases List.mem_append.1 hz with hz | hz
      · exact hdj y (by simp [hy]) (by simp [hz])
      · exact n6 y hy y (by simp [hz]) rfl
    · subst e
      simp only [List.mem_append] at hz
      rcases hz with hz | hz | hz
      · exact n7 y hy y (by simp [hz]) rfl
      · exact hdj y (by simp [hy]) (by simp [hz])
      · exact n7 y hy y (by simp [hz]) rfl
  · rw [List.nil_append, List.nodup_append]
    exact ⟨m1, m3, fun y hy z hz => m5 y hy z (by simp [hz])⟩
  · intro b hb hb'
    rw [List.nil_append] at hb'
    simp only [List.mem_append] at hb hb'
    rcases hb with hb | hb | hb | hb
    · exact hdj b (by simp [hb]) (by simp only [List.mem_append]; rcases hb' with q | q <;> simp [q])
    · exact hdj b (by simp [hb]) (by simp only [List.mem_append]; rcases hb' with q | q <;> simp [q])
    · rcases hb' with q | q
      · exact m5 b q b (by simp [hb]) rfl
      · exact m4 b hb b q rfl
    · exact hdj b (by simp [hb]) (by simp only [List.mem_append]; rcases hb' with q | q <;> simp [q])
  · intro b o hb
    refine hb.imp id (fun hb => .inr ?_)
    rw [k2]; simp [hb.2]
  · refine ⟨hsz, set_lens hrl hi, vs, SA ++ (Ti ++ SB), ?_, hput _ Ti st K ?_, by simp [Gh.upd, hne]⟩
    · simpa [Gh.upd, hne] using hown
    · cases dd with
      | true => exact ⟨k3, Own.rd _ _ Ti (fun b o hb => .inr ⟨rfl, hb⟩) k3⟩
      | false => exact k3
  · exact ⟨us, by simp [Gh.upd], by simpa [Gh.upd] using k4 none [] rfl⟩
  · simp only [SoftOk, List.length_set] at hsol ⊢
    refine ⟨fun b hb o ho hf => ?_, fun hz hn b hb o hf => ?_⟩
    · simp [Gh.upd, hne] at hb
      rcases hf with hf | ⟨_, hf⟩
      · exact hsol.1 b hb o ho hf
      · exact hdj b (by simp [hb]) (by simp [hf])
    · simp only [Gh.upd, if_neg hne, if_true] at hb
      have hn0 := noD_setTk hi hc rfl hn
      have hdd : dd = false := by
        cases dd with
        | false => rfl
        | true =>
          exfalso
          simp only [noD, List.all_eq_true, Bool.not_eq_true'] at hn
          have hcl := (List.getElem?_eq_some_iff.1 hc).1
          have := hn ((rows.getD i []).set c (.d x)) (List.mem_of_getElem? (i := i) (by rw [List.getElem?_set_self hi]; rfl)) (.d x) (List.mem_of_getElem? (i := c) (by rw [List.getElem?_set_self hcl]))
          cases this
      rcases hf with hf | ⟨hd', _⟩
      · simp only [List.mem_append] at hb
        rcases hb with hb | hb | hb | hb
        · exact hsol.2 hz hn0 b (by rw [hds]; simp [hb]) o hf
        · exact hsol.2 hz hn0 b (by rw [hds]; simp [hb]) o hf
        · exact hsoT b (by rw [k2]; simp [hb]) o hf
        · exact hsol.2 hz hn0 b (by rw [hds]; simp [hb]) o hf
      · rw [hdd] at hd'; cases hd'
  · simp only [SoftOk, Gh.upd, if_true]
    intro b hb o hf
    rcases hf with hf | ⟨_, hf⟩
    · refine hsoT b ?_ o hf
      rw [k2]; simp only [List.mem_append, List.nil_append] at hb ⊢; rcases hb with hb | hb <;> simp [hb]
    · simp only [List.mem_append, List.nil_append] at hb
      rcases hb with hb | hb
      · exact m5 b hb b (by simp [hf]) rfl
      · exact m4 b hf b hb rfl
end

section
variable {n : Nat} {L : List (Nat × AV)} {B : List (Nat × LB)} {G : List AV} {l : Nat} {e : TypeId} {sz : Nat} {rows : List (List AC)} {fz : Bool} {i c T j : Nat} {x : C} {xs : List (Option C)}
/-- A row's owned cell becomes a token. -/
theorem wk_take (hl : lookB B l = some (.arr e sz rows false)) (hi : i < rows.length) (hc : (rows.getD i [])[c]? = some (.m x)) (hT : lookB B T = none) (hn : noD rows = true) :
    Wk (mk n L B G) (mk n L ((T, .tok [some x]) :: (l, .arr e sz (rows.set i ((rows.getD i []).set c (.tk T 0))) false) :: B) G) :=
  fun _ _ _ _ _ ⟨F, g, h⟩ => by
    obtain ⟨g', h'⟩ := h.takeCell (by rw [mk_lb]; exact hl) hi hc (by rw [mk_lb]; exact hT) hn
    exact ⟨F, g', h'⟩
/-- A token goes back into a row's cell. -/
theorem wk_give (hl : lookB B l = some (.arr e sz rows false)) (hi : i < rows.length) (hc : (rows.getD i [])[c]? = some (.tk T j)) (hT : lookB B T = some (.tok xs)) (hx : xs[j]? = some (some x)) :
    Wk (mk n L B G) (mk n L ((T, .tok (xs.set j none)) :: (l, .arr e sz (rows.set i ((rows.getD i []).set c (.m x))) false) :: B) G) :=
  fun _ _ _ _ _ ⟨F, g, h⟩ => by
    obtain ⟨F', g', h'⟩ := h.fillCell (dd := false) (by rw [mk_lb]; exact hl) hi hc (by rw [mk_lb]; exact hT) hx (fun _ => rfl)
    exact ⟨F', g', h'⟩
/-- A token goes into a row's cell and is frozen there. -/
theorem wk_move (hl : lookB B l = some (.arr e sz rows fz)) (hi : i < rows.length) (hc : (rows.getD i [])[c]? = some (.tk T j)) (hT : lookB B T = some (.tok xs)) (hx : xs[j]? = some (some x)) :
    Wk (mk n L B G) (mk n L ((T, .tok (xs.set j none)) :: (l, .arr e sz (rows.set i ((rows.getD i []).set c (.d x))) fz) :: B) G) :=
  fun _ _ _ _ _ ⟨F, g, h⟩ => by
    obtain ⟨F', g', h'⟩ := h.fillCell (dd := true) (by rw [mk_lb]; exact hl) hi hc (by rw [mk_lb]; exact hT) hx (fun h => by cases h)
    exact ⟨F', g', h'⟩
/-- Into the last row. -/
theorem wk_moveLast {r : List AC} (hl : lookB B l = some (.arr e sz (rows ++ [r]) fz)) (hc : r[c]? = some (.tk T j)) (hT : lookB B T = some (.tok xs)) (hx : xs[j]? = some (some x)) :
    Wk (mk n L B G) (mk n L ((T, .tok (xs.set j none)) :: (l, .arr e sz (rows ++ [r.set c (.d x)]) fz) :: B) G) := by
  have hg : (rows ++ [r]).getD rows.length [] = r := by simp
  have := wk_move (n := n) (L := L) (G := G) (i := rows.length) (c := c) hl (by simp) (by rw [hg]; exact hc) hT hx
  rw [hg] at this
  simpa [List.set_append_right] using this
end

variable {P : Program} {tab : Tab}
/-- As 'loopA_rule', but a round begins with another view of the state. -/
theorem loopW_rule {ι : Type} {c : Code} {Q : Exit → St → Prop} {s : St} (S : ι → St) (I : ι → Prop) (μ : ι → Nat) (i0 : ι) (hI : I i0) (h0 : Wk s (S i0)) (hT : TabOk P tab) (hm : P.follows .mixedOrders = true) (hok : okCode c = true)
    (round : ∀ i, I i → ∃ s1, Wk (S i) s1 ∧ codeK P tab c (thenA (fun s' => ∃ j, I j ∧ μ j < μ i ∧ Wk s' (S j)) Q) s1) : @LoopK P c s ⟨Q⟩ :=
  loop_rule (ι := {i : ι // I i}) (fun i => S i.1) (fun i => μ i.1) ⟨i0, hI⟩ h0 (fun i => by
    obtain ⟨s1, k1, k2⟩ := round i.1 i.2
    refine AWP.wk k1 (AWP.mono (codeK_sound hT hm c _ _ hok k2) (fun e s hq => ?_))
    cases e with
    | normal => obtain ⟨j, h1, h2, h3⟩ := hq; exact ⟨⟨j, h1⟩, h3, h2⟩
    | _ => exact hq)
end Go.Ai
