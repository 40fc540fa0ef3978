/- Contracts of functions that write what they are given: owned values are lent to the call and come back turned. -/
import Derived.Test.YtdjleacnjijbjaaAiOwn
namespace Go.Ai
set_option linter.unusedVariables false
set_option linter.unusedSimpArgs false
open Go.RowKit

variable {P : Program}

/-- Arguments of a contract that writes: '.m x' is a hole: an owned value. -/
def RepMC (w : World) (F : Fz) (a : AC) (u : Value) (S : List Nat) : Prop :=
  match a with
  | .m x => Own w x u S
  | a => RepAC w F noLk g0 a u ∧ S = []
def RepMCs (w : World) (F : Fz) : List AC → List Value → List Nat → Prop
  | [], us, S => us = [] ∧ S = []
  | a :: as, us, S => ∃ u us' S1 S2, us = u :: us' ∧ S = S1 ++ S2 ∧ RepMC w F a u S1 ∧ RepMCs w F as us' S2
def RepMV (w : World) (F : Fz) (v : AV) (u : Value) (S : List Nat) : Prop :=
  match v with
  | .one a => RepMC w F a u S
  | .agg as => ∃ us : List Value, u = .agg us.toArray ∧ RepMCs w F as us S
  | _ => False
def RepMVs (w : World) (F : Fz) : List AV → List Value → List Nat → Prop
  | [], us, S => us = [] ∧ S = []
  | v :: vs, us, S => ∃ u us' S1 S2, us = u :: us' ∧ S = S1 ++ S2 ∧ RepMV w F v u S1 ∧ RepMVs w F vs us' S2

/-- A contract that turns what it is given: the owned values in 'args' become those in 'args''. -/
def SatM (P : Program) (f : FuncId) (args args' : List AV) (r : AV) : Prop :=
  Callable P f ∧ plainR r = true ∧ ∀ (w : World) (F : Fz) (us : List Value) (S : List Nat), (∀ b o, F b o → b < w.heap.size) → RepMVs w F args us S → S.Nodup → (∀ b, b ∈ S → b < w.heap.size ∧ ∀ o, ¬ F b o) →
    Calls P f us.toArray w fun e w' => ∃ v S', e = .returned v ∧ RepAV w' F noLk g0 r v ∧ RepMVs w' F args' us S' ∧ S'.Nodup ∧ (∀ b, b ∈ S' → (b ∈ S ∨ w.heap.size ≤ b) ∧ b < w'.heap.size) ∧
      w'.os = w.os ∧ w'.tape = w.tape ∧ w'.output = w.output ∧ w.heap.size ≤ w'.heap.size ∧ ∀ k, k < w.heap.size → k ∉ S → w'.heap[k]? = w.heap[k]?

section
variable {w0 : World} {M0 : Ms} {F0 F : Fz} {g : Gh} {s : St} {a : Act} {w w' : World}
/-- Blocks that no local bears for now. -/
structure Off (w0 : World) (M0 : Ms) (F : Fz) (g : Gh) (s : St) (w : World) (S : List Nat) : Prop where
  nd : S.Nodup
  un : ∀ b, b ∈ S → ∀ o, ¬ F b o
  dj : ∀ l B, s.lb l = some B → ∀ b, b ∈ g.ds l → b ∉ S
  nw : ∀ b, b ∈ S → (w0.heap.size ≤ b ∨ b ∈ M0) ∧ b < w.heap.size

theorem Off.nil : Off w0 M0 F g s w [] := ⟨by simp, by simp, by simp, by simp⟩

theorem tok_row (h : Sim w0 M0 F0 F g s a w) {k i : Nat} {xs : List (Option C)} (hl : s.lb k = some (.tok xs)) {u : Value} (hu : RepAC w F s.lb g (.tk k i) u) :
    ∃ us : List Value, g.hd k = .agg us.toArray ∧ us[i]? = some u ∧ OwnTs w xs us (g.ds k) := by
  simp only [RepAC] at hu
  obtain ⟨_, B, hB, hq⟩ := hu
  rw [hl] at hB
  obtain rfl := Option.some.inj hB
  obtain ⟨us, hq1, hq2⟩ := hq
  obtain ⟨us', h1, h2⟩ := h.lb k _ hl
  rw [hq1] at h1
  obtain rfl : us = us' := by simpa using h1
  exact ⟨us, hq1, hq2, h2⟩

/-- An owned value is taken out of a token. -/
theorem Sim.takeTok (h : Sim w0 M0 F0 F g s a w) {S : List Nat} (ho : Off w0 M0 F g s w S) {k i : Nat} {xs : List (Option C)} {x : C} (hl : s.lb k = some (.tok xs)) (hx : xs[i]? = some (some x)) {u : Value} (hu : RepAC w F s.lb g (.tk k i) u) :
    ∃ g' Si, Sim w0 M0 F0 F g' (s.put k (.tok (xs.set i none))) a w ∧ Off w0 M0 F g' (s.put k (.tok (xs.set i none))) w (S ++ Si) ∧ Own w x u Si ∧
      ∀ v u, RepAV w F s.lb g v u → RepAV w F (s.put k (.tok (xs.set i none))).lb g' v u := by
  obtain ⟨us, h1, h2, h3⟩ := tok_row h hl hu
  obtain ⟨u', SA, Si, SB, h4, h5, h6, h7, _⟩ := OwnTs.get _ _ _ _ _ h3 hx
  rw [h2] at h4
  obtain rfl := Option.some.inj h4
  have hnd := h.nd k _ hl
  have hso := h.so k _ hl
  simp only [SoftOk] at hso
  rw [h5] at hnd hso
  have hsub : ∀ b, b ∈ SA ++ SB → b ∈ g.ds k := fun b hb => by rw [h5]; simp at hb ⊢; rcases hb with hb | hb <;> simp [hb]
  have hsi : ∀ b, b ∈ Si → b ∈ g.ds k := fun b hb => by rw [h5]; simp [hb]
  have hsep : ∀ b, b ∈ SA ++ SB → b ∉ Si := fun b hb hb' => by
    rw [List.nodup_append] at hnd
    obtain ⟨_, n2, n3⟩ := hnd
    rw [List.nodup_append] at n2
    rcases List.mem_append.1 hb with hb | hb
    · exact n3 b hb b (by simp [hb']) rfl
    · exact n2.2.2 b hb' b hb rfl
  have hnd' : (SA ++ SB).Nodup := by
    rw [List.nodup_append] at hnd ⊢
    obtain ⟨n1, n2, n3⟩ := hnd
    rw [List.nodup_append] at n2
    exact ⟨n1, n2.2.1, fun x hx y hy => n3 x hx y (by simp [hy])⟩
  have hndi : Si.Nodup := by
    rw [List.nodup_append] at hnd
    have := hnd.2.1
    rw [List.nodup_append] at this
    exact this.1
  have hc : ∀ B, s.lb k = some B → (∀ n u, okOwnB B (g.hd k) n u → okOwnB (.tok (xs.set i none)) (g.hd k) n u) ∧ (∀ off u, okPtrB B (g.bl k) off u → okPtrB (.tok (xs.set i none)) (g.bl k) off u) ∧
      (∀ n i' off u, okEpB B (g.hd k) n i' off u → okEpB (.tok (xs.set i none)) (g.hd k) n i' off u) ∧ (∀ i' u, okTkB B (g.hd k) i' u → okTkB (.tok (xs.set i none)) (g.hd k) i' u) := by
    intro B hB
    rw [hl] at hB
    obtain rfl := Option.some.inj hB
    exact ⟨fun _ _ h => h, fun _ _ h => h, fun _ _ _ _ h => h, fun _ _ h => h⟩
  refine ⟨g.upd k (g.bl k) (g.hd k) (SA ++ SB), Si, h.putLB hc ?_ ?_ hnd' ?_ ?_, ?_, h6, ?_⟩
  · exact ⟨us, by simp [Gh.upd, h1], by simpa [Gh.upd] using h7 none [] rfl⟩
  · simp only [SoftOk, Gh.upd, if_true]
    exact fun b hb o => hso b (by simp at hb ⊢; rcases hb with hb | hb <;> simp [hb]) o
  · intro l' B hne hB b hb hb'
    exact h.dj l' k B _ hne hB hl b hb' (hsub b hb)
  · intro b hb
    exact h.nw k _ hl b (hsub b hb)
  · refine ⟨?_, ?_, ?_, ?_⟩
    · rw [List.nodup_append]
      exact ⟨ho.nd, hndi, fun x hx y hy hxy => by subst hxy; exact ho.dj k _ hl x (hsi x hy) hx⟩
    · intro b hb
      rcases List.mem_append.1 hb with hb | hb
      · exact ho.un b hb
      · exact hso b (by simp [hb])
    · intro l B hB b hb hb'
      by_cases e : l = k
      · subst e
        simp only [Gh.upd, if_true] at hb
        rcases List.mem_append.1 hb' with hb' | hb'
        · exact ho.dj l _ hl b (hsub b hb) hb'
        · exact hsep b hb hb'
      · simp only [St.put_lb, if_neg e] at hB
        simp only [Gh.upd, if_neg e] at hb
        rcases List.mem_append.1 hb' with hb' | hb'
        · exact ho.dj l B hB b hb hb'
        · exact h.dj l k B _ e hB hl b hb (hsi b hb')
    · intro b hb
      rcases List.mem_append.1 hb with hb | hb
      · exact ho.nw b hb
      · exact h.nw k _ hl b (hsi b hb)
  · exact fun v u hv => RepAV.mono (Stays.refl _ _) (Keeps.upd hc) v u hv

theorem OwnTs.give : ∀ (os : List (Option C)) (us : List Value) (S : List Nat) (i : Nat) (c : C) (u : Value) (Si : List Nat), OwnTs w os us S → os[i]? = some none → us[i]? = some u → Own w c u Si →
    ∃ SA SB, S = SA ++ SB ∧ OwnTs w (os.set i (some c)) us (SA ++ (Si ++ SB))
  | [], _, _, i, _, _, _, _, h, _, _ => by simp at h
  | o :: os, us, S, 0, c, u, Si, h, hi, hu, hc => by
    simp only [OwnTs] at h
    obtain ⟨u0, us', S1, S2, rfl, rfl, h3, h4⟩ := h
    simp at hi hu; subst hi hu
    have h3 : S1 = [] := h3
    subst h3
    refine ⟨[], S2, rfl, ?_⟩
    simp only [List.set_cons_zero, OwnTs, List.nil_append]
    exact ⟨u0, us', Si, S2, rfl, rfl, hc, h4⟩
  | o :: os, us, S, i + 1, c, u, Si, h, hi, hu, hc => by
    simp only [OwnTs] at h
    obtain ⟨u0, us', S1, S2, rfl, rfl, h3, h4⟩ := h
    obtain ⟨SA, SB, rfl, k2⟩ := OwnTs.give os us' S2 i c u Si h4 (by simpa using hi) (by simpa using hu) hc
    refine ⟨S1 ++ SA, SB, by simp, ?_⟩
    simp only [List.set_cons_succ, OwnTs]
    exact ⟨u0, us', S1, SA ++ (Si ++ SB), rfl, by simp, h3, k2⟩

/-- An owned value is given back to a token. -/
theorem Sim.giveTok (h : Sim w0 M0 F0 F g s a w) {S Si : List Nat} (ho : Off w0 M0 F g s w (Si ++ S)) {k i : Nat} {xs : List (Option C)} {x : C} (hl : s.lb k = some (.tok xs)) (hx : xs[i]? = some none) {u : Value} (hu : RepAC w F s.lb g (.tk k i) u) (hown : Own w x u Si) :
    ∃ g', Sim w0 M0 F0 F g' (s.put k (.tok (xs.set i (some x)))) a w ∧ Off w0 M0 F g' (s.put k (.tok (xs.set i (some x)))) w S ∧
      ∀ v u, RepAV w F s.lb g v u → RepAV w F (s.put k (.tok (xs.set i (some x)))).lb g' v u := by
  obtain ⟨us, h1, h2, h3⟩ := tok_row h hl hu
  obtain ⟨SA, SB, h5, h7⟩ := OwnTs.give _ _ _ _ _ _ _ h3 hx h2 hown
  have hnd := h.nd k _ hl
  have hso := h.so k _ hl
  simp only [SoftOk] at hso
  have hmem : ∀ b, b ∈ SA ++ (Si ++ SB) ↔ b ∈ g.ds k ∨ b ∈ Si := fun b => by rw [h5]; simp only [List.mem_append]; grind
  have hond := ho.nd
  rw [List.nodup_append] at hond
  have hnd' : (SA ++ (Si ++ SB)).Nodup := by
    rw [h5] at hnd
    have hd := ho.dj k _ hl
    rw [h5] at hd
    rw [List.nodup_append] at hnd ⊢
    obtain ⟨n1, n2, n3⟩ := hnd
    refine ⟨n1, ?_, fun x hx y hy hxy => ?_⟩
    · rw [List.nodup_append]
      exact ⟨hond.1, n2, fun x hx y hy hxy => by subst hxy; exact hd x (by simp [hy]) (by simp [hx])⟩
    · subst hxy
      rcases List.mem_append.1 hy with hy | hy
      · exact hd x (by simp [hx]) (by simp [hy])
      · exact n3 x hx x hy rfl
  have hc : ∀ B, s.lb k = some B → (∀ n u, okOwnB B (g.hd k) n u → okOwnB (.tok (xs.set i (some x))) (g.hd k) n u) ∧ (∀ off u, okPtrB B (g.bl k) off u → okPtrB (.tok (xs.set i (some x))) (g.bl k) off u) ∧
      (∀ n i' off u, okEpB B (g.hd k) n i' off u → okEpB (.tok (xs.set i (some x))) (g.hd k) n i' off u) ∧ (∀ i' u, okTkB B (g.hd k) i' u → okTkB (.tok (xs.set i (some x))) (g.hd k) i' u) := by
    intro B hB
    rw [hl] at hB
    obtain rfl := Option.some.inj hB
    exact ⟨fun _ _ h => h, fun _ _ h => h, fun _ _ _ _ h => h, fun _ _ h => h⟩
  refine ⟨g.upd k (g.bl k) (g.hd k) (SA ++ (Si ++ SB)), h.putLB hc ?_ ?_ hnd' ?_ ?_, ?_, ?_⟩
  · exact ⟨us, by simp [Gh.upd, h1], by simpa [Gh.upd] using h7⟩
  · simp only [SoftOk, Gh.upd, if_true]
    intro b hb o
    rcases (hmem b).1 hb with hb | hb
    · exact hso b hb o
    · exact ho.un b (by simp [hb]) o
  · intro l' B hne hB b hb hb'
    rcases (hmem b).1 hb with hb | hb
    · exact h.dj l' k B _ hne hB hl b hb' hb
    · exact ho.dj l' B hB b hb' (by simp [hb])
  · intro b hb
    rcases (hmem b).1 hb with hb | hb
    · exact h.nw k _ hl b hb
    · exact ho.nw b (by simp [hb])
  · refine ⟨hond.2.1, fun b hb => ho.un b (by simp [hb]), ?_, fun b hb => ho.nw b (by simp [hb])⟩
    intro l B hB b hb hb'
    by_cases e : l = k
    · subst e
      simp only [Gh.upd, if_true] at hb
      rcases (hmem b).1 hb with hb | hb
      · exact ho.dj l _ hl b hb (by simp [hb'])
      · exact hond.2.2 b hb b hb' rfl
    · simp only [St.put_lb, if_neg e] at hB
      simp only [Gh.upd, if_neg e] at hb
      exact ho.dj l B hB b hb (by simp [hb'])
  · exact fun v u hv => RepAV.mono (Stays.refl _ _) (Keeps.upd hc) v u hv
end

/-! ### All holes of a call's arguments -/
def updL (k : Nat) (B : LB) (lb : Lk) : Lk := fun l => if l = k then some B else lb l
def takeC : AC → AC → Lk → (Lk → Prop) → Prop
  | .tk k i, .m x, lb, K => (match lb k with
    | some (.tok xs) => xs[i]? = some (some x) ∧ K (updL k (.tok (xs.set i none)) lb)
    | _ => False)
  | .c y, .c y', lb, K => y = y' ∧ K lb
  | _, _, _, _ => False
def takeCs : List AC → List AC → Lk → (Lk → Prop) → Prop
  | [], [], lb, K => K lb
  | a :: as, d :: ds, lb, K => takeC a d lb fun lb => takeCs as ds lb K
  | _, _, _, _ => False
def takeV : AV → AV → Lk → (Lk → Prop) → Prop
  | .one a, .one d, lb, K => takeC a d lb K
  | .agg as, .agg ds, lb, K => takeCs as ds lb K
  | _, _, _, _ => False
def takeVs : List AV → List AV → Lk → (Lk → Prop) → Prop
  | [], [], lb, K => K lb
  | a :: as, d :: ds, lb, K => takeV a d lb fun lb => takeVs as ds lb K
  | _, _, _, _ => False
def giveC : AC → AC → Lk → (Lk → Prop) → Prop
  | .tk k i, .m x, lb, K => (match lb k with
    | some (.tok xs) => xs[i]? = some none ∧ K (updL k (.tok (xs.set i (some x))) lb)
    | _ => False)
  | .c _, .c _, lb, K => K lb
  | _, _, _, _ => False
def giveCs : List AC → List AC → Lk → (Lk → Prop) → Prop
  | [], [], lb, K => K lb
  | a :: as, d :: ds, lb, K => giveC a d lb fun lb => giveCs as ds lb K
  | _, _, _, _ => False
def giveV : AV → AV → Lk → (Lk → Prop) → Prop
  | .one a, .one d, lb, K => giveC a d lb K
  | .agg as, .agg ds, lb, K => giveCs as ds lb K
  | _, _, _, _ => False
def giveVs : List AV → List AV → Lk → (Lk → Prop) → Prop
  | [], [], lb, K => K lb
  | a :: as, d :: ds, lb, K => giveV a d lb fun lb => giveVs as ds lb K
  | _, _, _, _ => False

def St.withLb (s : St) (lb : Lk) : St := { s with lb := lb }

section
variable {w0 : World} {M0 : Ms} {F0 F : Fz} {a : Act} {w w' : World}
theorem put_withLb (s : St) (lb : Lk) (k : Nat) (B : LB) : (s.withLb lb).put k B = s.withLb (updL k B lb) := rfl
theorem withLb_lb (s : St) (lb : Lk) : (s.withLb lb).lb = lb := rfl

/-- Sim, blocks off it, and values that go on to be represented. -/
structure Rest (w0 : World) (M0 : Ms) (F0 F : Fz) (s : St) (lb : Lk) (a : Act) (w : World) (S : List Nat) (vs : List AV) (us : List Value) : Prop where
  ex : ∃ g, Sim w0 M0 F0 F g (s.withLb lb) a w ∧ Off w0 M0 F g (s.withLb lb) w S ∧ RepAVs w F lb g vs us

theorem repAVs_imp {lb lb' : Lk} {g g' : Gh} {w w' : World} {F F' : Fz} (h : ∀ v u, RepAV w F lb g v u → RepAV w' F' lb' g' v u) : ∀ {vs : List AV} {us : List Value}, RepAVs w F lb g vs us → RepAVs w' F' lb' g' vs us
  | [], _, k => by simpa only [RepAVs] using k
  | v :: vs, us, k => by
    simp only [RepAVs] at k ⊢
    obtain ⟨u, us', rfl, k1, k2⟩ := k
    exact ⟨u, us', rfl, h _ _ k1, repAVs_imp h k2⟩

theorem takeC_sound {s : St} {vs : List AV} {us : List Value} {c d : AC} {u : Value} (hget : ∀ lb g, RepAVs w F lb g vs us → RepAC w F lb g c u) {lb : Lk} {K : Lk → Prop} (hk : takeC c d lb K) {S : List Nat} (hr : Rest w0 M0 F0 F s lb a w S vs us) :
    ∃ lb' Si, K lb' ∧ Rest w0 M0 F0 F s lb' a w (S ++ Si) vs us ∧ RepMC w F d u Si := by
  unfold takeC at hk
  split at hk
  · rename_i k i x lb K
    split at hk
    · rename_i xs hl
      obtain ⟨hx, hk⟩ := hk
      obtain ⟨g, h1, h2, h3⟩ := hr.ex
      obtain ⟨g', Si, k1, k2, k3, k4⟩ := h1.takeTok h2 (by rw [withLb_lb]; exact hl) hx (hget _ _ h3)
      rw [put_withLb] at k1 k2 k4
      exact ⟨_, Si, hk, ⟨g', k1, k2, repAVs_imp k4 h3⟩, k3⟩
    · exact hk.elim
  · obtain ⟨rfl, hk⟩ := hk
    refine ⟨_, [], hk, by simpa using hr, ?_⟩
    obtain ⟨g, h1, h2, h3⟩ := hr.ex
    refine ⟨?_, rfl⟩
    simpa only [RepAC] using hget _ _ h3
  · exact hk.elim
theorem takeCs_sound {s : St} {vs : List AV} {us : List Value} : ∀ {cs ds : List AC} {ws : List Value} (_ : ∀ lb g, RepAVs w F lb g vs us → RepACs w F lb g cs ws) {lb : Lk} {K : Lk → Prop} (_ : takeCs cs ds lb K) {S : List Nat} (_ : Rest w0 M0 F0 F s lb a w S vs us),
    ∃ lb' Si, K lb' ∧ Rest w0 M0 F0 F s lb' a w (S ++ Si) vs us ∧ RepMCs w F ds ws Si
  | [], [], ws, hget, lb, K, hk, S, hr => by
    obtain ⟨g, _, _, h3⟩ := hr.ex
    have := hget _ _ h3
    simp only [RepACs] at this
    exact ⟨lb, [], hk, by simpa using hr, this, rfl⟩
  | c :: cs, d :: ds, ws, hget, lb, K, hk, S, hr => by
    simp only [takeCs] at hk
    obtain ⟨g, _, _, h3⟩ := hr.ex
    have h4 := hget _ _ h3
    simp only [RepACs] at h4
    obtain ⟨u, ws', rfl, _, _⟩ := h4
    obtain ⟨lb1, S1, k1, k2, k3⟩ := takeC_sound (c := c) (u := u) (fun lb g h => by
      have := hget lb g h
      simp only [RepACs] at this
      obtain ⟨u', us', e, h5, _⟩ := this
      obtain ⟨rfl, rfl⟩ := List.cons.inj e
      exact h5) hk hr
    obtain ⟨lb2, S2, j1, j2, j3⟩ := takeCs_sound (cs := cs) (ds := ds) (ws := ws') (fun lb g h => by
      have := hget lb g h
      simp only [RepACs] at this
      obtain ⟨u', us', e, _, h5⟩ := this
      obtain ⟨rfl, rfl⟩ := List.cons.inj e
      exact h5) k1 k2
    exact ⟨lb2, S1 ++ S2, j1, by simpa [List.append_assoc] using j2, u, ws', S1, S2, rfl, rfl, k3, j3⟩
  | [], _ :: _, _, _, _, _, hk, _, _ => hk.elim
  | _ :: _, [], _, _, _, _, hk, _, _ => hk.elim
theorem takeV_sound {s : St} {vs : List AV} {us : List Value} {c d : AV} {u : Value} (hget : ∀ lb g, RepAVs w F lb g vs us → RepAV w F lb g c u) {lb : Lk} {K : Lk → Prop} (hk : takeV c d lb K) {S : List Nat} (hr : Rest w0 M0 F0 F s lb a w S vs us) :
    ∃ lb' Si, K lb' ∧ Rest w0 M0 F0 F s lb' a w (S ++ Si) vs us ∧ RepMV w F d u Si := by
  unfold takeV at hk
  split at hk
  · exact takeC_sound (fun lb g h => by have := hget lb g h; simpa only [RepAV] using this) hk hr
  · obtain ⟨g, _, _, h3⟩ := hr.ex
    have h4 := hget _ _ h3
    simp only [RepAV] at h4
    obtain ⟨ws, rfl, _⟩ := h4
    obtain ⟨lb', Si, k1, k2, k3⟩ := takeCs_sound (ws := ws) (fun lb g h => by
      have := hget lb g h
      simp only [RepAV] at this
      obtain ⟨ws', e, h5⟩ := this
      obtain rfl : ws = ws' := by simpa using e
      exact h5) hk hr
    exact ⟨lb', Si, k1, k2, ws, rfl, k3⟩
  · exact hk.elim
theorem takeVs_sound {s : St} {vs : List AV} {us : List Value} : ∀ {cs ds : List AV} {ws : List Value} (_ : ∀ lb g, RepAVs w F lb g vs us → RepAVs w F lb g cs ws) {lb : Lk} {K : Lk → Prop} (_ : takeVs cs ds lb K) {S : List Nat} (_ : Rest w0 M0 F0 F s lb a w S vs us),
    ∃ lb' Si, K lb' ∧ Rest w0 M0 F0 F s lb' a w (S ++ Si) vs us ∧ RepMVs w F ds ws Si
  | [], [], ws, hget, lb, K, hk, S, hr => by
    obtain ⟨g, _, _, h3⟩ := hr.ex
    have := hget _ _ h3
    simp only [RepAVs] at this
    exact ⟨lb, [], hk, by simpa using hr, this, rfl⟩
  | c :: cs, d :: ds, ws, hget, lb, K, hk, S, hr => by
    simp only [takeVs] at hk
    obtain ⟨g, _, _, h3⟩ := hr.ex
    have h4 := hget _ _ h3
    simp only [RepAVs] at h4
    obtain ⟨u, ws', rfl, _, _⟩ := h4
    obtain ⟨lb1, S1, k1, k2, k3⟩ := takeV_sound (c := c) (u := u) (fun lb g h => by
      have := hget lb g h
      simp only [RepAVs] at this
      obtain ⟨u', us', e, h5, _⟩ := this
      obtain ⟨rfl, rfl⟩ := List.cons.inj e
      exact h5) hk hr
    obtain ⟨lb2, S2, j1, j2, j3⟩ := takeVs_sound (cs := cs) (ds := ds) (ws := ws') (fun lb g h => by
      have := hget lb g h
      simp only [RepAVs] at this
      obtain ⟨u', us', e, _, h5⟩ := this
      obtain ⟨rfl, rfl⟩ := List.cons.inj e
      exact h5) k1 k2
    exact ⟨lb2, S1 ++ S2, j1, by simpa [List.append_assoc] using j2, u, ws', S1, S2, rfl, rfl, k3, j3⟩
  | [], _ :: _, _, _, _, _, hk, _, _ => hk.elim
  | _ :: _, [], _, _, _, _, hk, _, _ => hk.elim

theorem giveC_sound {s : St} {vs : List AV} {us : List Value} {c d : AC} {u : Value} (hget : ∀ lb g, RepAVs w F lb g vs us → RepAC w F lb g c u) {lb : Lk} {K : Lk → Prop} (hk : giveC c d lb K) {S Si : List Nat} (hm : RepMC w F d u Si) (hr : Rest w0 M0 F0 F s lb a w (Si ++ S) vs us) :
    ∃ lb', K lb' ∧ Rest w0 M0 F0 F s lb' a w S vs us := by
  unfold giveC at hk
  split at hk
  · rename_i k i x lb K
    split at hk
    · rename_i xs hl
      obtain ⟨hx, hk⟩ := hk
      obtain ⟨g, h1, h2, h3⟩ := hr.ex
      obtain ⟨g', k1, k2, k4⟩ := h1.giveTok h2 (by rw [withLb_lb]; exact hl) hx (hget _ _ h3) hm
      rw [put_withLb] at k1 k2 k4
      exact ⟨_, hk, ⟨g', k1, k2, repAVs_imp k4 h3⟩⟩
    · exact hk.elim
  · obtain ⟨_, rfl⟩ := hm
    exact ⟨_, hk, by simpa using hr⟩
  · exact hk.elim
theorem giveCs_sound {s : St} {vs : List AV} {us : List Value} : ∀ {cs ds : List AC} {ws : List Value} (_ : ∀ lb g, RepAVs w F lb g vs us → RepACs w F lb g cs ws) {lb : Lk} {K : Lk → Prop} (_ : giveCs cs ds lb K) {S Si : List Nat} (_ : RepMCs w F ds ws Si) (_ : Rest w0 M0 F0 F s lb a w (Si ++ S) vs us),
    ∃ lb', K lb' ∧ Rest w0 M0 F0 F s lb' a w S vs us
  | [], [], ws, hget, lb, K, hk, S, Si, hm, hr => by
    obtain ⟨_, rfl⟩ := hm
    exact ⟨lb, hk, by simpa using hr⟩
  | c :: cs, d :: ds, ws, hget, lb, K, hk, S, Si, hm, hr => by
    simp only [giveCs] at hk
    simp only [RepMCs] at hm
    obtain ⟨u, ws', S1, S2, rfl, rfl, m1, m2⟩ := hm
    obtain ⟨lb1, k1, k2⟩ := giveC_sound (c := c) (u := u) (fun lb g h => by
      have := hget lb g h
      simp only [RepACs] at this
      obtain ⟨u', us', e, h5, _⟩ := this
      obtain ⟨rfl, rfl⟩ := List.cons.inj e
      exact h5) hk m1 (by simpa [List.append_assoc] using hr)
    exact giveCs_sound (cs := cs) (ds := ds) (ws := ws') (fun lb g h => by
      have := hget lb g h
      simp only [RepACs] at this
      obtain ⟨u', us', e, _, h5⟩ := this
      obtain ⟨rfl, rfl⟩ := List.cons.inj e
      exact h5) k1 m2 k2
  | [], _ :: _, _, _, _, _, hk, _, _, _, _ => hk.elim
  | _ :: _, [], _, _, _, _, hk, _, _, _, _ => hk.elim
theorem giveV_sound {s : St} {vs : List AV} {us : List Value} {c d : AV} {u : Value} (hget : ∀ lb g, RepAVs w F lb g vs us → RepAV w F lb g c u) {lb : Lk} {K : Lk → Prop} (hk : giveV c d lb K) {S Si : List Nat} (hm : RepMV w F d u Si) (hr : Rest w0 M0 F0 F s lb a w (Si ++ S) vs us) :
    ∃ lb', K lb' ∧ Rest w0 M0 F0 F s lb' a w S vs us := by
  unfold giveV at hk
  split at hk
  · exact giveC_sound (fun lb g h => by have := hget lb g h; simpa only [RepAV] using this) hk hm hr
  · obtain ⟨ws, rfl, hm⟩ := hm
    exact giveCs_sound (fun lb g h => by
      have := hget lb g h
      simp only [RepAV] at this
      obtain ⟨ws', e, h5⟩ := this
      obtain rfl : ws = ws' := by simpa using e
      exact h5) hk hm hr
  · exact hk.elim
theorem giveVs_sound {s : St} {vs : List AV} {us : List Value} : ∀ {cs ds : List AV} {ws : List Value} (_ : ∀ lb g, RepAVs w F lb g vs us → RepAVs w F lb g cs ws) {lb : Lk} {K : Lk → Prop} (_ : giveVs cs ds lb K) {S Si : List Nat} (_ : RepMVs w F ds ws Si) (_ : Rest w0 M0 F0 F s lb a w (Si ++ S) vs us),
    ∃ lb', K lb' ∧ Rest w0 M0 F0 F s lb' a w S vs us
  | [], [], ws, hget, lb, K, hk, S, Si, hm, hr => by
    obtain ⟨_, rfl⟩ := hm
    exact ⟨lb, hk, by simpa using hr⟩
  | c :: cs, d :: ds, ws, hget, lb, K, hk, S, Si, hm, hr => by
    simp only [giveVs] at hk
    simp only [RepMVs] at hm
    obtain ⟨u, ws', S1, S2, rfl, rfl, m1, m2⟩ := hm
    obtain ⟨lb1, k1, k2⟩ := giveV_sound (c := c) (u := u) (fun lb g h => by
      have := hget lb g h
      simp only [RepAVs] at this
      obtain ⟨u', us', e, h5, _⟩ := this
      obtain ⟨rfl, rfl⟩ := List.cons.inj e
      exact h5) hk m1 (by simpa [List.append_assoc] using hr)
    exact giveVs_sound (cs := cs) (ds := ds) (ws := ws') (fun lb g h => by
      have := hget lb g h
      simp only [RepAVs] at this
      obtain ⟨u', us', e, _, h5⟩ := this
      obtain ⟨rfl, rfl⟩ := List.cons.inj e
      exact h5) k1 m2 k2
  | [], _ :: _, _, _, _, _, hk, _, _, _, _ => hk.elim
  | _ :: _, [], _, _, _, _, hk, _, _, _, _ => hk.elim

/-- **A call that turns what it is lent.** -/
theorem mut_sound {g : Gh} {s : St} (h : Sim w0 M0 F0 F g s a w) {fid : FuncId} {vs ds ds' : List AV} {us : List Value} {r : AV} (hv : RepAVs w F s.lb g vs us) (hsat : SatM P fid ds ds' r) {K : Lk → Prop} (hk : takeVs vs ds s.lb fun lb => giveVs vs ds' lb K) :
    Calls P fid us.toArray w fun e w' => ∃ v lb' g', e = .returned v ∧ K lb' ∧ Sim w0 M0 F0 F g' (s.withLb lb') a w' ∧ RepAV w' F noLk g0 r v := by
  have hr0 : Rest w0 M0 F0 F s s.lb a w [] vs us := ⟨g, h, Off.nil, hv⟩
  obtain ⟨lb1, S, k1, k2, k3⟩ := takeVs_sound (fun _ _ h => h) hk hr0
  rw [List.nil_append] at k2
  obtain ⟨g1, h1, o1, v1⟩ := k2.ex
  refine (hsat.2.2 w F us S h1.f2 k3 o1.nd (fun b hb => ⟨(o1.nw b hb).2, o1.un b hb⟩)).mono ?_
  rintro e w' ⟨v, S', rfl, hr, hm, hnd, hS, hos, ht, ho, hsz, hfr⟩
  have nS : ∀ b o, F b o → b ∉ S := fun b o hf hb => o1.un b hb o hf
  have hsame : ∀ b, b < w.heap.size → b ∉ S → w'.heap[b]? = w.heap[b]? := hfr
  have h2 : Sim w0 M0 F0 F g1 (s.withLb lb1) a w' := h1.grows ⟨⟨fun _ _ hb => hb, fun b o hb => cell_of_heap (hsame b (h1.f2 b o hb) (nS b o hb)) o⟩, fun l B hl b hb => hsame b (h1.nw l B hl b hb).2 (o1.dj l B hl b hb), h1.so, fun _ _ hb => .inl hb,
    fun b o hb => Nat.lt_of_lt_of_le (h1.f2 b o hb) hsz, hos, ht, ho, hsz, fun k hk hm => hsame k (Nat.lt_of_lt_of_le hk h1.size) (fun hb => by
      rcases (o1.nw k hb).1 with hq | hq
      · omega
      · exact hm hq)⟩
  have o2 : Off w0 M0 F g1 (s.withLb lb1) w' (S' ++ []) := by
    rw [List.append_nil]
    refine ⟨hnd, fun b hb o hf => ?_, fun l B hl b hb hb' => ?_, fun b hb => ⟨?_, (hS b hb).2⟩⟩
    · rcases (hS b hb).1 with hq | hq
      · exact o1.un b hq o hf
      · have := h1.f2 b o hf; omega
    · rcases (hS b hb').1 with hq | hq
      · exact o1.dj l B hl b hb hq
      · have := (h1.nw l B hl b hb).2; omega
    · rcases (hS b hb).1 with hq | hq
      · exact (o1.nw b hq).1
      · exact .inl (Nat.le_trans h1.size hq)
  have v2 : RepAVs w' F lb1 g1 vs us := RepAVs.mono ⟨fun _ _ hb => hb, fun b o hb => cell_of_heap (hsame b (h1.f2 b o hb) (nS b o hb)) o⟩ (Keeps.refl _ _) _ _ v1
  obtain ⟨lb2, j1, j2⟩ := giveVs_sound (fun _ _ h => h) k1 hm ⟨g1, h2, o2, v2⟩
  obtain ⟨g2, j3, _, _⟩ := j2.ex
  exact ⟨v, lb2, g2, rfl, j1, j3, hr⟩
end
end Go.Ai
