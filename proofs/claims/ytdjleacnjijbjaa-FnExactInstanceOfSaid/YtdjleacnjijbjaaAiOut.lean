/- Functions whose results are owned, and functions that write what they are given: their contracts, from their code. -/
import Derived.Test.YtdjleacnjijbjaaAiFun
namespace Go.Ai
set_option linter.unusedVariables false
set_option linter.unusedSimpArgs false
open Go.RowKit

variable {P : Program} {tab : Tab}

/-- A cell that owns what it holds. -/
def isO : AC → Bool
  | .c (.v _) => true
  | .nil => true
  | .d _ => true
  | .m _ => true
  | _ => false

section
variable {w0 : World} {M0 : Ms} {F0 F : Fz} {g : Gh} {s : St} {a : Act} {w w' : World} {lb : Lk}
theorem own_nil {u : Value} (h : u = .slice none 0 0) : Own w (.sl []) u [] := by
  simp [Own, h]
theorem isO_own {x : AC} {u : Value} {S : List Nat} (ho : isO x = true) (h : RepCell w F lb g x u S) : Own w (toC x) u S := by
  cases x
  case c x =>
    cases x with
    | v x =>
      obtain ⟨h, rfl⟩ := h
      simp only [RepAC, Rd] at h
      simp only [toC, Own]
      exact ⟨h.1, h.2, trivial⟩
    | sl rows => cases ho
  case nil =>
    obtain ⟨h, rfl⟩ := h
    simp only [RepAC] at h
    exact own_nil h
  case d x => exact h.1
  case m x => exact h
  all_goals cases ho
theorem isOs_own : ∀ {xs : List AC} {us : List Value} {S : List Nat}, (∀ x, x ∈ xs → isO x = true) → RepCells w F lb g xs us S → OwnCells w (xs.map toC) us S
  | [], us, S, _, h => by simp only [RepCells] at h; simp only [List.map_nil, OwnCells]; exact h
  | x :: xs, us, S, ho, h => by
    simp only [RepCells] at h
    obtain ⟨u, us', S1, S2, rfl, rfl, h1, h2⟩ := h
    simp only [List.map_cons, OwnCells]
    exact ⟨u, us', S1, S2, rfl, rfl, isO_own (ho x (by simp)) h1, isOs_own (fun y hy => ho y (by simp [hy])) h2⟩
theorem isOr_own {sz : Nat} : ∀ {rows : List (List AC)} {us : List Value} {S : List Nat}, (∀ r, r ∈ rows → r.length = sz) → (∀ r, r ∈ rows → ∀ x, x ∈ r → isO x = true) → RepCells w F lb g rows.flatten us S → OwnRows w sz (rows.map fun r => r.map toC) us S
  | [], us, S, _, _, h => by simp only [List.flatten_nil, RepCells] at h; simp only [List.map_nil, OwnRows]; exact h
  | r :: rows, us, S, hl, ho, h => by
    rw [List.flatten_cons] at h
    obtain ⟨u1, u2, S1, S2, rfl, rfl, h1, h2⟩ := RepCells.append_inv _ _ _ _ h
    simp only [List.map_cons, OwnRows]
    exact ⟨u1, u2, S1, S2, rfl, rfl, by simpa using hl r (by simp), isOs_own (ho r (by simp)) h1, isOr_own (fun q hq => hl q (by simp [hq])) (fun q hq => ho q (by simp [hq])) h2⟩

end

/-! ### Results that are owned -/
def retC : AC → AC → Lk → (Lk → Prop) → Prop
  | .tk k i, .c x, lb, K => (match lb k with
    | some (.tok xs) => xs[i]? = some (some x) ∧ K (updL k (.tok (xs.set i none)) lb)
    | _ => False)
  | .own l n, .c (.sl rows'), lb, K => (match lb l with
    | some (.arr _ _ rows _) => n = rows.length ∧ (∀ r, r ∈ rows → ∀ x, x ∈ r → isO x = true) ∧ (rows.map fun r => r.map toC) = rows' ∧ K (updL l .dead lb)
    | _ => False)
  | .nil, .c (.sl []), lb, K => K lb
  | .c (.v x), .c (.v x'), lb, K => x = x' ∧ K lb
  | _, _, _, _ => False
def retCs : List AC → List AC → Lk → (Lk → Prop) → Prop
  | [], [], lb, K => K lb
  | a :: as, d :: ds, lb, K => retC a d lb fun lb => retCs as ds lb K
  | _, _, _, _ => False
def retV : AV → AV → Lk → (Lk → Prop) → Prop
  | .one a, .one d, lb, K => retC a d lb K
  | .agg as, .agg ds, lb, K => retCs as ds lb K
  | _, _, _, _ => False
def retVs : List AV → List AV → Lk → (Lk → Prop) → Prop
  | [], [], lb, K => K lb
  | a :: as, d :: ds, lb, K => retV a d lb fun lb => retVs as ds lb K
  | _, _, _, _ => False

section
variable {w0 : World} {M0 : Ms} {F0 F F' : Fz} {a : Act} {w w' : World} {lb : Lk} {g : Gh}
/-- The locals alone, nothing being asked of what is frozen: the call is at its end. -/
structure Bare (w : World) (F : Fz) (lb : Lk) (g : Gh) : Prop where
  rep : ∀ l B, lb l = some B → RepLB w F lb g l B
  nd : ∀ l B, lb l = some B → (g.ds l).Nodup
  dj : ∀ l l' B B', l ≠ l' → lb l = some B → lb l' = some B' → ∀ b, b ∈ g.ds l → b ∉ g.ds l'
theorem Sim.bare {s : St} (h : Sim w0 M0 F0 F g s a w) : Bare w F s.lb g := ⟨h.lb, h.nd, h.dj⟩
structure Last (w : World) (F : Fz) (Z : List Nat) (lb : Lk) (S : List Nat) (vs : List AV) (us : List Value) : Prop where
  ex : ∃ g, Bare w F lb g ∧ S.Nodup ∧ (∀ l B, lb l = some B → ∀ b, b ∈ g.ds l → b ∉ S ∧ b ∈ Z) ∧ (∀ b, b ∈ S → b ∈ Z) ∧ RepAVs w F lb g vs us

theorem Bare.put (h : Bare w F lb g) {l : Nat} {B B' : LB} {S' : List Nat} (hl : lb l = some B) (hS : ∀ b, b ∈ S' → b ∈ g.ds l) (hnd : S'.Nodup)
    (hc : (∀ n u, okOwnB B (g.hd l) n u → okOwnB B' (g.hd l) n u) ∧ (∀ off u, okPtrB B (g.bl l) off u → okPtrB B' (g.bl l) off u) ∧
      (∀ n i off u, okEpB B (g.hd l) n i off u → okEpB B' (g.hd l) n i off u) ∧ (∀ i u, okTkB B (g.hd l) i u → okTkB B' (g.hd l) i u))
    (hr : RepLB w F (updL l B' lb) (g.upd l (g.bl l) (g.hd l) S') l B') : Bare w F (updL l B' lb) (g.upd l (g.bl l) (g.hd l) S') ∧ Keeps lb g (updL l B' lb) (g.upd l (g.bl l) (g.hd l) S') := by
  have K : Keeps lb g (updL l B' lb) (g.upd l (g.bl l) (g.hd l) S') := Keeps.upd (fun B0 hB => by rw [hl] at hB; obtain rfl := Option.some.inj hB; exact hc)
  have ne : ∀ k, k ≠ l → (g.upd l (g.bl l) (g.hd l) S').bl k = g.bl k ∧ (g.upd l (g.bl l) (g.hd l) S').hd k = g.hd k ∧ (g.upd l (g.bl l) (g.hd l) S').ds k = g.ds k := fun k hk => by simp [Gh.upd, hk]
  have at_ : ∀ k B, k ≠ l → (updL l B' lb) k = some B → lb k = some B := fun k B hk hB => by simpa [updL, hk] using hB
  have at_l : ∀ B, (updL l B' lb) l = some B → B = B' := fun B hB => by simpa [updL, eq_comm] using hB
  have dl : (g.upd l (g.bl l) (g.hd l) S').ds l = S' := by simp [Gh.upd]
  refine ⟨⟨fun k Bk hB => ?_, fun k Bk hB => ?_, fun k k' Bk Bk' hkk hB hB' => ?_⟩, K⟩
  · by_cases e : k = l
    · subst e; rw [at_l Bk hB]; exact hr
    · exact RepLB.mono (Stays.refl _ _) K (ne k e).1 (ne k e).2.1 (ne k e).2.2 (fun _ _ => rfl) (h.rep k Bk (at_ k Bk e hB))
  · by_cases e : k = l
    · subst e; rw [dl]; exact hnd
    · rw [(ne k e).2.2]; exact h.nd k Bk (at_ k Bk e hB)
  · by_cases e : k = l
    · subst e
      rw [dl, (ne k' (Ne.symm hkk)).2.2]
      exact fun b hb => h.dj k k' B Bk' hkk hl (at_ k' Bk' (Ne.symm hkk) hB') b (hS b hb)
    · by_cases e' : k' = l
      · subst e'
        rw [dl, (ne k e).2.2]
        exact fun b hb hb' => h.dj k k' Bk B e (at_ k Bk e hB) hl b hb (hS b hb')
      · rw [(ne k e).2.2, (ne k' e').2.2]
        exact h.dj k k' Bk Bk' hkk (at_ k Bk e hB) (at_ k' Bk' e' hB')

theorem bare_row (h : Bare w F lb g) {l n : Nat} {e : TypeId} {sz : Nat} {rows : List (List AC)} {fz : Bool} (hl : lb l = some (.arr e sz rows fz)) (hn : n = rows.length) (ho : ∀ r, r ∈ rows → ∀ x, x ∈ r → isO x = true) {u : Value} (hu : RepAC w F lb g (.own l n) u) :
    Own w (.sl (rows.map fun r => r.map toC)) u (g.ds l) := by
  simp only [RepAC] at hu
  obtain ⟨_, B, hB, hq⟩ := hu
  rw [hl] at hB
  obtain rfl := Option.some.inj hB
  have hux := hq.2 hn
  obtain ⟨hsz, hrl, xs, S, hown, hcells, hds⟩ := h.rep l _ hl
  have hr := isOr_own hrl ho hcells
  simp only [Own]
  obtain ⟨hxl, hrow⟩ := hown
  rcases hrow with ⟨k1, k2⟩ | ⟨gg, cap, cur, k1, _, hh, hle, hcm, hcs, htk⟩
  · have : rows = [] := List.eq_nil_of_length_eq_zero k2
    subst this
    simp only [List.map_nil, OwnRows] at hr
    left
    refine ⟨by rw [hux, k1], rfl, ?_⟩
    rw [hds, k1, hr.2]; rfl
  · right
    refine ⟨gg, cap, cur, e, sz, S, by rw [hux, k1]; simp, hh, by simpa using hle, hcm, hcs, hsz, by rw [hds, k1]; rfl, ?_⟩
    rw [List.length_map, htk]
    exact hr

theorem retC_sound {Z : List Nat} {vs : List AV} {us : List Value} {c d : AC} {u : Value} (hget : ∀ lb g, RepAVs w F lb g vs us → RepAC w F lb g c u) {lb : Lk} {K : Lk → Prop} (hk : retC c d lb K) {S : List Nat} (hr : Last w F Z lb S vs us) :
    ∃ lb' Si x, d = .c x ∧ K lb' ∧ Last w F Z lb' (S ++ Si) vs us ∧ Own w x u Si := by
  unfold retC at hk
  split at hk
  · rename_i lb K k i x
    split at hk
    · rename_i xs hl
      obtain ⟨hx, hk⟩ := hk
      obtain ⟨g, h1, h2, h3, h3z, h4⟩ := hr.ex
      have hu := hget _ _ h4
      simp only [RepAC] at hu
      obtain ⟨_, B, hB, hq⟩ := hu
      rw [hl] at hB
      obtain rfl := Option.some.inj hB
      obtain ⟨us', hq1, hq2⟩ := hq
      obtain ⟨us'', j1, j2⟩ := h1.rep k _ hl
      rw [hq1] at j1
      obtain rfl : us' = us'' := by simpa using j1
      obtain ⟨u', SA, Si, SB, k4, k5, k6, k7, _⟩ := OwnTs.get _ _ _ _ _ j2 hx
      rw [hq2] at k4
      obtain rfl := Option.some.inj k4
      have hnd := h1.nd k _ hl
      rw [k5] at hnd
      rw [List.nodup_append] at hnd
      obtain ⟨n1, n2, n3⟩ := hnd
      rw [List.nodup_append] at n2
      have hsub : ∀ b, b ∈ SA ++ SB → b ∈ g.ds k := fun b hb => by rw [k5]; simp at hb ⊢; rcases hb with hb | hb <;> simp [hb]
      have hsi : ∀ b, b ∈ Si → b ∈ g.ds k := fun b hb => by rw [k5]; simp [hb]
      obtain ⟨b1, b2⟩ := h1.put (B' := .tok (xs.set i none)) (S' := SA ++ SB) hl hsub (by rw [List.nodup_append]; exact ⟨n1, n2.2.1, fun x hx y hy => n3 x hx y (by simp [hy])⟩) ⟨fun _ _ h => h, fun _ _ h => h, fun _ _ _ _ h => h, fun _ _ h => h⟩
        ⟨us', by simp [Gh.upd, hq1], by simpa [Gh.upd] using k7 none [] rfl⟩
      refine ⟨_, Si, x, rfl, hk, ⟨_, b1, ?_, ?_, ?_, RepAVs.mono (Stays.refl _ _) b2 _ _ h4⟩, k6⟩
      · rw [List.nodup_append]
        exact ⟨h2, n2.1, fun x hx y hy hxy => by subst hxy; exact (h3 k _ hl x (hsi x hy)).1 hx⟩
      · intro l B hB b hb
        by_cases e : l = k
        · subst e
          simp only [Gh.upd, if_true] at hb
          refine ⟨fun hb' => ?_, (h3 l _ hl b (hsub b hb)).2⟩
          rcases List.mem_append.1 hb' with hb' | hb'
          · exact (h3 l _ hl b (hsub b hb)).1 hb'
          · rcases List.mem_append.1 hb with hb | hb
            · exact n3 b hb b (by simp [hb']) rfl
            · exact n2.2.2 b hb' b hb rfl
        · simp only [updL, if_neg e] at hB
          simp only [Gh.upd, if_neg e] at hb
          refine ⟨fun hb' => ?_, (h3 l B hB b hb).2⟩
          rcases List.mem_append.1 hb' with hb' | hb'
          · exact (h3 l B hB b hb).1 hb'
          · exact h1.dj l k B _ e hB hl b hb (hsi b hb')
      · intro b hb
        rcases List.mem_append.1 hb with hb | hb
        · exact h3z b hb
        · exact (h3 k _ hl b (hsi b hb)).2
    · exact hk.elim
  · rename_i lb K l n rows'
    split at hk
    · rename_i e sz rows fz hl
      obtain ⟨hn, ho, rfl, hk⟩ := hk
      obtain ⟨g, h1, h2, h3, h3z, h4⟩ := hr.ex
      have hu := hget _ _ h4
      have hown := bare_row h1 hl hn ho hu
      obtain ⟨b1, b2⟩ := h1.put (B' := .dead) (S' := []) hl (fun b hb => by cases hb) (by simp) ⟨fun _ _ _ => trivial, fun _ _ _ => trivial, fun _ _ _ _ _ => trivial, fun _ _ _ => trivial⟩ trivial
      refine ⟨_, g.ds l, _, rfl, hk, ⟨_, b1, ?_, ?_, ?_, RepAVs.mono (Stays.refl _ _) b2 _ _ h4⟩, hown⟩
      · rw [List.nodup_append]
        exact ⟨h2, h1.nd l _ hl, fun x hx y hy hxy => by subst hxy; exact (h3 l _ hl x hy).1 hx⟩
      · intro l' B hB b hb
        by_cases e : l' = l
        · subst e
          simp [Gh.upd] at hb
        · simp only [updL, if_neg e] at hB
          simp only [Gh.upd, if_neg e] at hb
          refine ⟨fun hb' => ?_, (h3 l' B hB b hb).2⟩
          rcases List.mem_append.1 hb' with hb' | hb'
          · exact (h3 l' B hB b hb).1 hb'
          · exact h1.dj l' l B _ e hB hl b hb hb'
      · intro b hb
        rcases List.mem_append.1 hb with hb | hb
        · exact h3z b hb
        · exact (h3 l _ hl b hb).2
    · exact hk.elim
  · obtain ⟨g, _, _, _, _, h4⟩ := hr.ex
    have hu := hget _ _ h4
    simp only [RepAC] at hu
    exact ⟨_, [], _, rfl, hk, by simpa using hr, own_nil hu⟩
  · obtain ⟨rfl, hk⟩ := hk
    obtain ⟨g, _, _, _, _, h4⟩ := hr.ex
    have hu := hget _ _ h4
    simp only [RepAC, Rd] at hu
    exact ⟨_, [], _, rfl, hk, by simpa using hr, by simp only [Own]; exact ⟨hu.1, hu.2, trivial⟩⟩
  · exact hk.elim
theorem retCs_sound {Z : List Nat} {vs : List AV} {us : List Value} : ∀ {cs ds : List AC} {ws : List Value} (_ : ∀ lb g, RepAVs w F lb g vs us → RepACs w F lb g cs ws) {lb : Lk} {K : Lk → Prop} (_ : retCs cs ds lb K) {S : List Nat} (_ : Last w F Z lb S vs us),
    ∃ lb' Si xs, ds = List.map AC.c xs ∧ K lb' ∧ Last w F Z lb' (S ++ Si) vs us ∧ OwnCells w xs ws Si
  | [], [], ws, hget, lb, K, hk, S, hr => by
    obtain ⟨g, _, _, _, _, h4⟩ := hr.ex
    have := hget _ _ h4
    simp only [RepACs] at this
    exact ⟨lb, [], [], rfl, hk, by simpa using hr, this, rfl⟩
  | c :: cs, d :: ds, ws, hget, lb, K, hk, S, hr => by
    simp only [retCs] at hk
    obtain ⟨g, _, _, _, _, h4⟩ := hr.ex
    have h5 := hget _ _ h4
    simp only [RepACs] at h5
    obtain ⟨u, ws', rfl, _, _⟩ := h5
    obtain ⟨lb1, S1, x, rfl, k1, k2, k3⟩ := retC_sound (c := c) (u := u) (fun lb g h => by
      have := hget lb g h
      simp only [RepACs] at this
      obtain ⟨u', us', e, h5, _⟩ := this
      obtain ⟨rfl, rfl⟩ := List.cons.inj e
      exact h5) hk hr
    obtain ⟨lb2, S2, xs, rfl, j1, j2, j3⟩ := retCs_sound (cs := cs) (ds := ds) (ws := ws') (fun lb g h => by
      have := hget lb g h
      simp only [RepACs] at this
      obtain ⟨u', us', e, _, h5⟩ := this
      obtain ⟨rfl, rfl⟩ := List.cons.inj e
      exact h5) k1 k2
    exact ⟨lb2, S1 ++ S2, x :: xs, rfl, j1, by simpa [List.append_assoc] using j2, u, ws', S1, S2, rfl, rfl, k3, j3⟩
  | [], _ :: _, _, _, _, _, hk, _, _ => hk.elim
  | _ :: _, [], _, _, _, _, hk, _, _ => hk.elim
theorem retV_sound {Z : List Nat} {vs : List AV} {us : List Value} {c d : AV} {u : Value} (hget : ∀ lb g, RepAVs w F lb g vs us → RepAV w F lb g c u) {lb : Lk} {K : Lk → Prop} (hk : retV c d lb K) {S : List Nat} (hr : Last w F Z lb S vs us) :
    ∃ lb' Si, K lb' ∧ Last w F Z lb' (S ++ Si) vs us ∧ OwnR1 w d u Si := by
  unfold retV at hk
  split at hk
  · obtain ⟨lb', Si, x, rfl, k1, k2, k3⟩ := retC_sound (fun lb g h => by have := hget lb g h; simpa only [RepAV] using this) hk hr
    exact ⟨lb', Si, k1, k2, k3⟩
  · obtain ⟨g, _, _, _, _, h4⟩ := hr.ex
    have h5 := hget _ _ h4
    simp only [RepAV] at h5
    obtain ⟨ws, rfl, _⟩ := h5
    obtain ⟨lb', Si, xs, rfl, k1, k2, k3⟩ := retCs_sound (ws := ws) (fun lb g h => by
      have := hget lb g h
      simp only [RepAV] at this
      obtain ⟨ws', e, h5⟩ := this
      obtain rfl : ws = ws' := by simpa using e
      exact h5) hk hr
    exact ⟨lb', Si, k1, k2, xs, ws, rfl, rfl, k3⟩
  · exact hk.elim
theorem retVs_sound {Z : List Nat} {vs : List AV} {us : List Value} : ∀ {cs ds : List AV} {ws : List Value} (_ : ∀ lb g, RepAVs w F lb g vs us → RepAVs w F lb g cs ws) {lb : Lk} {K : Lk → Prop} (_ : retVs cs ds lb K) {S : List Nat} (_ : Last w F Z lb S vs us),
    ∃ lb' Si, K lb' ∧ Last w F Z lb' (S ++ Si) vs us ∧ OwnRs w ds ws Si
  | [], [], ws, hget, lb, K, hk, S, hr => by
    obtain ⟨g, _, _, _, _, h4⟩ := hr.ex
    have := hget _ _ h4
    simp only [RepAVs] at this
    exact ⟨lb, [], hk, by simpa using hr, this, rfl⟩
  | c :: cs, d :: ds, ws, hget, lb, K, hk, S, hr => by
    simp only [retVs] at hk
    obtain ⟨g, _, _, _, _, h4⟩ := hr.ex
    have h5 := hget _ _ h4
    simp only [RepAVs] at h5
    obtain ⟨u, ws', rfl, _, _⟩ := h5
    obtain ⟨lb1, S1, k1, k2, k3⟩ := retV_sound (c := c) (u := u) (fun lb g h => by
      have := hget lb g h
      simp only [RepAVs] at this
      obtain ⟨u', us', e, h5, _⟩ := this
      obtain ⟨rfl, rfl⟩ := List.cons.inj e
      exact h5) hk hr
    obtain ⟨lb2, S2, j1, j2, j3⟩ := retVs_sound (cs := cs) (ds := ds) (ws := ws') (fun lb g h => by
      have := hget lb g h
      simp only [RepAVs] at this
      obtain ⟨u', us', e, _, h5⟩ := this
      obtain ⟨rfl, rfl⟩ := List.cons.inj e
      exact h5) k1 k2
    exact ⟨lb2, S1 ++ S2, j1, by simpa [List.append_assoc] using j2, u, ws', S1, S2, rfl, rfl, k3, j3⟩
  | [], _ :: _, _, _, _, _, hk, _, _ => hk.elim
  | _ :: _, [], _, _, _, _, hk, _, _ => hk.elim
end

def retFS (tab : Tab) (rs : List ResultVar) (ds : List AV) (s : St) : Prop :=
  match resVs tab s rs with
  | some (p, vs) => p ∧ retVs vs ds s.lb fun _ => True
  | none => False
def retFA (tab : Tab) (rs : List ResultVar) (ds : List AV) : Exit → St → Prop
  | .normal, s => retFS tab rs ds s
  | .ret, s => retFS tab rs ds s
  | _, _ => False

theorem OwnRs.len {w : World} : ∀ {rs : List AV} {us : List Value} {S : List Nat}, OwnRs w rs us S → us.length = rs.length
  | [], _, _, h => by simp only [OwnRs] at h; simp [h.1]
  | r :: rs, us, S, h => by
    simp only [OwnRs] at h
    obtain ⟨u, us', S1, S2, rfl, rfl, _, h2⟩ := h
    simp [OwnRs.len h2]

theorem ownR_of_Rs {w : World} {ds : List AV} {r : AV} {us : List Value} {S : List Nat} (hds : joinR ds = r) (htup : ∀ vs, r = .tup vs → ds = vs) (h : OwnRs w ds us S) : OwnR w r (joinU us) S := by
  have hl := h.len
  match ds, us, hl, hds with
  | [d], [u], _, hds =>
    simp only [joinR] at hds
    subst hds
    simp only [OwnRs] at h
    obtain ⟨u', us'', S1, S2, e, rfl, h1, rfl, rfl⟩ := h
    obtain ⟨rfl, _⟩ := List.cons.inj e
    have h2 : OwnR w d u (S1 ++ []) := by
      rw [List.append_nil]
      cases d with
      | tup vs => exact h1.elim
      | _ => exact h1
    exact h2
  | [], [], _, hds =>
    simp only [joinR] at hds
    subst hds
    exact ⟨[], rfl, h⟩
  | d :: d' :: ds, u :: u' :: us, _, hds =>
    simp only [joinR] at hds
    subst hds
    exact ⟨_, rfl, h⟩

/-- **A contract with an owned result, from a function's code.** -/
theorem satF_of_code (ds : List AV) {r : AV} (hds : joinR ds = r) (htup : ∀ vs, r = .tup vs → ds = vs) (hT : TabOk P tab) (hm : P.follows .mixedOrders = true) {f : FuncId} {fn : Func} {c : Code} {args : List AV} {rs : List ResultVar} {n : Nat} (hf : P.funcs[f]? = some fn) (hb : fn.body = some c) (hr : fn.results.toList = rs) (hn : fn.ntmps = n) (hname : fn.name ≠ "runtime.NumGoroutine")
    (hok : okCode c = true) (hlen : args.length ≤ n) (h : codeK P tab c (retFA tab rs ds) (mk n (enumA 0 args) [])) : SatF P f args r := by
  subst hr hn
  refine ⟨⟨fn, hf, hname, by rw [hb]; simp⟩, fun w F us hF hrep => ?_⟩
  refine calls_of_wp hf hb (wp_mono (codeK_sound hT hm c _ _ hok h w ⟨[], []⟩ F _ w ⟨F, g0, entry_sim hF hlen hrep⟩) ?_)
  rintro e a' w' ⟨s', hq, F1, g1, hs'⟩
  have main : retFS tab fn.results.toList ds s' → ∃ v, (results fn a'.tmps).run P w' = .ok v w' ∧ ∃ v' S, Ending.returned v = .returned v' ∧ Below w.heap.size w w' ∧ OwnR w' r v' S ∧ S.Nodup ∧ ∀ b, b ∈ S → w.heap.size ≤ b ∧ b < w'.heap.size := by
    intro hq
    unfold retFS at hq
    split at hq
    case h_2 => exact hq.elim
    rename_i p vs ho
    obtain ⟨hp, hret⟩ := hq
    obtain ⟨us', hrun, hargs⟩ := results_run hT hs' rfl ho hp
    obtain ⟨Z, hZ⟩ : ∃ Z : List Nat, ∀ b, b ∈ Z ↔ w.heap.size ≤ b ∧ b < w'.heap.size := ⟨(List.range w'.heap.size).filter (fun b => decide (w.heap.size ≤ b)), fun b => by simp [and_comm]⟩
    have hlast : Last w' F1 Z s'.lb [] vs us' := ⟨g1, hs'.bare, by simp, fun l B hl b hb => ⟨by simp, (hZ b).2 ⟨(hs'.nw l B hl b hb).1.resolve_right (fun hq => by cases hq), (hs'.nw l B hl b hb).2⟩⟩, by simp, hargs⟩
    obtain ⟨lb', S, _, hL, hown⟩ := retVs_sound (fun _ _ h => h) hret hlast
    rw [List.nil_append] at hL
    obtain ⟨_, _, k1, _, k2, _⟩ := hL.ex
    exact ⟨_, hrun, _, S, rfl, ⟨hs'.os, hs'.tape, hs'.output, hs'.size, fun k hk => hs'.block k hk (fun h => by cases h)⟩, ownR_of_Rs hds htup hown, k1, fun b hb => (hZ b).1 (k2 b hb)⟩
  cases e with
  | normal => exact ⟨hs'.df, main hq⟩
  | ret => exact ⟨hs'.df, main hq⟩
  | _ => exact hq.elim
end Go.Ai
