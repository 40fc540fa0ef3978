/- Functions that write what they are given: their contracts, from their code; owned values in rows are taken out and put back. -/
import Derived.Test.YtdjleacnjijbjaaAiOut
namespace Go.Ai
set_option linter.unusedVariables false
set_option linter.unusedSimpArgs false
open Go.RowKit

variable {P : Program} {tab : Tab}

/-! ### Structs with owned slices, as arguments -/
def entCs (T : Nat) : Nat → List AC → List AC
  | _, [] => []
  | j, .m _ :: as => .tk T j :: entCs T (j + 1) as
  | j, a :: as => a :: entCs T j as
def hoCs : List AC → List (Option C)
  | [] => []
  | .m x :: as => some x :: hoCs as
  | _ :: as => hoCs as
def entV (T j : Nat) : AV → AV
  | .one (.m _) => .one (.tk T j)
  | .agg as => .agg (entCs T j as)
  | v => v
def hoV : AV → List (Option C)
  | .one (.m x) => [some x]
  | .agg as => hoCs as
  | _ => []
def entVs (T : Nat) : Nat → List AV → List AV
  | _, [] => []
  | j, v :: vs => entV T j v :: entVs T (j + (hoV v).length) vs
def hoVs : List AV → List (Option C)
  | [] => []
  | v :: vs => hoV v ++ hoVs vs
def plainMC : AC → Bool
  | .m _ => true
  | a => plainA a
def plainMV : AV → Bool
  | .one a => plainMC a
  | .agg as => as.all plainMC
  | _ => false

section
variable {w w' : World} {F F' : Fz} {T : Nat} {X : List (Option C)}
theorem noLk_rep {lb : Lk} {g : Gh} {a : AC} {u : Value} (h : RepAC w F noLk g0 a u) : RepAC w F lb g a u := RepAC.mono (Stays.refl w F) ⟨fun l B hl => by simp [noLk] at hl⟩ _ _ h
theorem entCs_rep : ∀ {as : List AC} {us : List Value} {S : List Nat}, RepMCs w F as us S → ∃ hs, OwnTs w (hoCs as) hs S ∧ hs.length = (hoCs as).length ∧ ∀ (lb : Lk) (g : Gh) (HS : List Value) (i : Nat), lb T = some (.tok X) → g.hd T = .agg HS.toArray →
    (∀ (j : Nat) x, hs[j]? = some x → HS[i + j]? = some x) → RepACs w F lb g (entCs T i as) us
  | [], us, S, h => by
    simp only [RepMCs] at h
    obtain ⟨rfl, rfl⟩ := h
    exact ⟨[], ⟨rfl, rfl⟩, rfl, fun _ _ _ _ _ _ _ => rfl⟩
  | a :: as, us, S, h => by
    simp only [RepMCs] at h
    obtain ⟨u, us', S1, S2, rfl, rfl, h1, h2⟩ := h
    obtain ⟨hs, k1, k2, k3⟩ := entCs_rep h2
    have plain : S1 = [] → RepAC w F noLk g0 a u → hoCs (a :: as) = hoCs as → (∀ i, entCs T i (a :: as) = a :: entCs T i as) → ∃ hs, OwnTs w (hoCs (a :: as)) hs (S1 ++ S2) ∧ hs.length = (hoCs (a :: as)).length ∧ ∀ (lb : Lk) (g : Gh) (HS : List Value) (i : Nat), lb T = some (.tok X) → g.hd T = .agg HS.toArray →
        (∀ (j : Nat) x, hs[j]? = some x → HS[i + j]? = some x) → RepACs w F lb g (entCs T i (a :: as)) (u :: us') := by
      intro e1 e2 e3 e4
      subst e1
      rw [e3]
      refine ⟨hs, by simpa using k1, k2, fun lb g HS i hl hg hu => ?_⟩
      rw [e4]
      exact ⟨u, us', rfl, noLk_rep e2, k3 lb g HS i hl hg hu⟩
    cases a
    case m x =>
      refine ⟨u :: hs, ⟨u, hs, S1, S2, rfl, rfl, h1, k1⟩, by simp [hoCs, k2], fun lb g HS i hl hg hu => ?_⟩
      simp only [entCs, RepACs]
      refine ⟨u, us', rfl, ?_, k3 lb g HS (i + 1) hl hg (fun j x hj => by have := hu (j + 1) x (by simpa using hj); rwa [show i + (j + 1) = i + 1 + j by omega] at this)⟩
      simp only [RepAC]
      exact ⟨Own.one h1, _, hl, HS, hg, by simpa using hu 0 u (by simp)⟩
    all_goals exact plain h1.2 h1.1 rfl (fun _ => rfl)
theorem entV_rep {v : AV} {u : Value} {S : List Nat} (h : RepMV w F v u S) : ∃ hs, OwnTs w (hoV v) hs S ∧ hs.length = (hoV v).length ∧ ∀ (lb : Lk) (g : Gh) (HS : List Value) (i : Nat), lb T = some (.tok X) → g.hd T = .agg HS.toArray →
    (∀ (j : Nat) x, hs[j]? = some x → HS[i + j]? = some x) → RepAV w F lb g (entV T i v) u := by
  cases v with
  | one a =>
    simp only [RepMV] at h
    cases a
    case m x =>
      refine ⟨[u], ⟨u, [], S, [], rfl, by simp, h, rfl, rfl⟩, rfl, fun lb g HS i hl hg hu => ?_⟩
      simp only [entV, RepAV, RepAC]
      exact ⟨Own.one h, _, hl, HS, hg, by simpa using hu 0 u (by simp)⟩
    all_goals
      obtain ⟨h, rfl⟩ := h
      exact ⟨[], ⟨rfl, rfl⟩, rfl, fun lb g HS i hl hg hu => by simp only [entV, RepAV]; exact noLk_rep h⟩
  | agg as =>
    simp only [RepMV] at h
    obtain ⟨us, rfl, h⟩ := h
    obtain ⟨hs, k1, k2, k3⟩ := entCs_rep (T := T) (X := X) h
    exact ⟨hs, k1, k2, fun lb g HS i hl hg hu => by simp only [entV, RepAV]; exact ⟨us, rfl, k3 lb g HS i hl hg hu⟩⟩
  | tup vs => exact h.elim
  | any => exact h.elim
theorem entVs_rep : ∀ {vs : List AV} {us : List Value} {S : List Nat}, RepMVs w F vs us S → ∃ hs, OwnTs w (hoVs vs) hs S ∧ hs.length = (hoVs vs).length ∧ ∀ (lb : Lk) (g : Gh) (HS : List Value) (i : Nat), lb T = some (.tok X) → g.hd T = .agg HS.toArray →
    (∀ (j : Nat) x, hs[j]? = some x → HS[i + j]? = some x) → RepAVs w F lb g (entVs T i vs) us
  | [], us, S, h => by
    simp only [RepMVs] at h
    obtain ⟨rfl, rfl⟩ := h
    exact ⟨[], ⟨rfl, rfl⟩, rfl, fun _ _ _ _ _ _ _ => rfl⟩
  | v :: vs, us, S, h => by
    simp only [RepMVs] at h
    obtain ⟨u, us', S1, S2, rfl, rfl, h1, h2⟩ := h
    obtain ⟨k1, a1, b1, c1⟩ := entV_rep (T := T) (X := X) h1
    obtain ⟨k2, a2, b2, c2⟩ := entVs_rep h2
    refine ⟨k1 ++ k2, OwnTs.append a1 a2, by simp [hoVs, b1, b2], fun lb g HS i hl hg hu => ?_⟩
    simp only [entVs, RepAVs]
    refine ⟨u, us', rfl, c1 lb g HS i hl hg (fun j x hj => hu j x (by rw [List.getElem?_append_left (List.getElem?_eq_some_iff.1 hj).1]; exact hj)), c2 lb g HS _ hl hg (fun j x hj => ?_)⟩
    have := hu (k1.length + j) x (by rw [List.getElem?_append_right (by omega), Nat.add_sub_cancel_left]; exact hj)
    rwa [← Nat.add_assoc, b1] at this

variable {lb : Lk} {g : Gh} {HS : List Value}
theorem tk_val (hl : lb T = some (.tok X)) (hg : g.hd T = .agg HS.toArray) {i : Nat} {u : Value} (h : RepAC w F lb g (.tk T i) u) : HS[i]? = some u := by
  simp only [RepAC] at h
  obtain ⟨_, B, hB, hq⟩ := h
  rw [hl] at hB
  obtain rfl := Option.some.inj hB
  obtain ⟨us, h1, h2⟩ := hq
  rw [hg] at h1
  obtain rfl : HS = us := by simpa using h1
  exact h2
theorem OwnTs.append_inv {w : World} : ∀ {os os' : List (Option C)} {us : List Value} {S : List Nat}, OwnTs w (os ++ os') us S → ∃ u1 u2 S1 S2, us = u1 ++ u2 ∧ S = S1 ++ S2 ∧ u1.length = os.length ∧ OwnTs w os u1 S1 ∧ OwnTs w os' u2 S2
  | [], os', us, S, h => ⟨[], us, [], S, rfl, rfl, rfl, ⟨rfl, rfl⟩, h⟩
  | o :: os, os', us, S, h => by
    simp only [List.cons_append, OwnTs] at h
    obtain ⟨u, us', S1, S2, rfl, rfl, h1, h2⟩ := h
    obtain ⟨u1, u2, T1, T2, rfl, rfl, k1, k2, k3⟩ := OwnTs.append_inv h2
    exact ⟨u :: u1, u2, S1 ++ T1, T2, rfl, by simp, by simp [k1], ⟨u, u1, S1, T1, rfl, rfl, h1, k2⟩, k3⟩
theorem entCs_back (hl : lb T = some (.tok X)) (hg : g.hd T = .agg HS.toArray) : ∀ {as : List AC} {us hs : List Value} {S : List Nat} {i : Nat}, as.all plainMC = true → RepACs w F' lb g (entCs T i as) us → OwnTs w (hoCs as) hs S → (∀ (j : Nat) x, hs[j]? = some x → HS[i + j]? = some x) → RepMCs w F as us S
  | [], us, hs, S, i, _, h, ho, _ => by
    simp only [entCs, RepACs] at h
    simp only [hoCs, OwnTs] at ho
    exact ⟨h, ho.2⟩
  | a :: as, us, hs, S, i, hp, h, ho, hu => by
    simp only [List.all_cons, Bool.and_eq_true] at hp
    have plain : plainA a = true → hoCs (a :: as) = hoCs as → entCs T i (a :: as) = a :: entCs T i as → (∀ u S, RepAC w F noLk g0 a u ∧ S = [] → RepMC w F a u S) → RepMCs w F (a :: as) us S := by
      intro e1 e2 e3 e4
      rw [e2] at ho
      rw [e3] at h
      simp only [RepACs] at h
      obtain ⟨u, us', rfl, h1, h2⟩ := h
      exact ⟨u, us', [], S, rfl, rfl, e4 _ _ ⟨plainA_rep e1 h1, rfl⟩, entCs_back hl hg hp.2 h2 ho hu⟩
    cases a
    case m x =>
      simp only [entCs, RepACs] at h
      obtain ⟨u, us', rfl, h1, h2⟩ := h
      simp only [hoCs, OwnTs] at ho
      obtain ⟨u0, hs', S1, S2, rfl, rfl, o1, o2⟩ := ho
      have e1 := tk_val hl hg h1
      have e2 := hu 0 u0 (by simp)
      rw [Nat.add_zero, e1] at e2
      obtain rfl := Option.some.inj e2
      exact ⟨u, us', S1, S2, rfl, rfl, o1, entCs_back hl hg hp.2 h2 o2 (fun j x hj => by have := hu (j + 1) x (by simpa using hj); rwa [show i + (j + 1) = i + 1 + j by omega] at this)⟩
    case c x => exact plain hp.1 rfl rfl (fun _ _ h => h)
    all_goals exact absurd hp.1 (by simp [plainMC, plainA])
theorem entV_back (hl : lb T = some (.tok X)) (hg : g.hd T = .agg HS.toArray) {v : AV} {u : Value} {hs : List Value} {S : List Nat} {i : Nat} (hp : plainMV v = true) (h : RepAV w F' lb g (entV T i v) u) (ho : OwnTs w (hoV v) hs S) (hu : ∀ (j : Nat) x, hs[j]? = some x → HS[i + j]? = some x) : RepMV w F v u S := by
  cases v with
  | one a =>
    cases a
    case m x =>
      simp only [entV, RepAV] at h
      simp only [hoV, OwnTs] at ho
      obtain ⟨u0, hs', S1, S2, rfl, rfl, o1, rfl, rfl⟩ := ho
      have e1 := tk_val hl hg h
      have e2 := hu 0 u0 (by simp)
      rw [Nat.add_zero, e1] at e2
      obtain rfl := Option.some.inj e2
      rw [List.append_nil]
      exact o1
    case c x =>
      simp only [entV, RepAV] at h
      simp only [hoV, OwnTs] at ho
      exact ⟨plainA_rep hp h, ho.2⟩
    all_goals exact absurd hp (by simp [plainMV, plainMC, plainA])
  | agg as =>
    simp only [entV, RepAV] at h
    obtain ⟨us, rfl, h⟩ := h
    exact ⟨us, rfl, entCs_back hl hg hp h ho hu⟩
  | tup vs => cases hp
  | any => cases hp
theorem entVs_back (hl : lb T = some (.tok X)) (hg : g.hd T = .agg HS.toArray) : ∀ {vs : List AV} {us hs : List Value} {S : List Nat} {i : Nat}, vs.all plainMV = true → RepAVs w F' lb g (entVs T i vs) us → OwnTs w (hoVs vs) hs S → (∀ (j : Nat) x, hs[j]? = some x → HS[i + j]? = some x) → RepMVs w F vs us S
  | [], us, hs, S, i, _, h, ho, _ => by
    simp only [entVs, RepAVs] at h
    simp only [hoVs, OwnTs] at ho
    exact ⟨h, ho.2⟩
  | v :: vs, us, hs, S, i, hp, h, ho, hu => by
    simp only [List.all_cons, Bool.and_eq_true] at hp
    simp only [entVs, RepAVs] at h
    obtain ⟨u, us', rfl, h1, h2⟩ := h
    simp only [hoVs] at ho
    obtain ⟨h1', h2', S1, S2, rfl, rfl, hlen, o1, o2⟩ := OwnTs.append_inv ho
    refine ⟨u, us', S1, S2, rfl, rfl, entV_back hl hg hp.1 h1 o1 (fun j x hj => hu j x (by rw [List.getElem?_append_left (List.getElem?_eq_some_iff.1 hj).1]; exact hj)), entVs_back hl hg hp.2 h2 o2 (fun j x hj => ?_)⟩
    have := hu (h1'.length + j) x (by rw [List.getElem?_append_right (by omega), Nat.add_sub_cancel_left]; exact hj)
    rwa [← Nat.add_assoc, hlen] at this
end

def retMS (tab : Tab) (rs : List ResultVar) (r : AV) (K : St → Prop) (s : St) : Prop :=
  match resVs tab s rs with
  | some (p, vs) => p ∧ joinR vs = r ∧ K s
  | none => False
def retMA (tab : Tab) (rs : List ResultVar) (r : AV) (K : St → Prop) : Exit → St → Prop
  | .normal, s => retMS tab rs r K s
  | .ret, s => retMS tab rs r K s
  | _, _ => False

theorem join_rep {w : World} {F : Fz} {lb : Lk} {g : Gh} {vs : List AV} {us : List Value} (h : RepAVs w F lb g vs us) : RepAV w F lb g (joinR vs) (joinU us) := by
  match vs, us, h with
  | [], us, h => simp only [RepAVs] at h; subst h; exact ⟨[], rfl, rfl⟩
  | [v], us, h =>
    simp only [RepAVs] at h
    obtain ⟨u, us', rfl, h1, rfl⟩ := h
    exact h1
  | v :: v' :: vs, us, h =>
    have h' := h
    simp only [RepAVs] at h
    obtain ⟨u, us', rfl, h1, u', us'', rfl, h2, h3⟩ := h
    exact ⟨_, rfl, h'⟩

/-- What a state at the end says of a token that was there at the beginning. -/
def Turned (T : Nat) (X : List (Option C)) (G : List AV) (s : St) : Prop := s.lb T = some (.tok X) ∧ s.gh = G

/-- **A contract that writes, from a function's code**: structs. -/
theorem satM_of_code (T : Nat) (hT : TabOk P tab) (hm : P.follows .mixedOrders = true) {f : FuncId} {fn : Func} {c : Code} {args args' : List AV} {r : AV} {rs : List ResultVar} {n : Nat} (hf : P.funcs[f]? = some fn) (hb : fn.body = some c) (hr : fn.results.toList = rs) (hn : fn.ntmps = n) (hname : fn.name ≠ "runtime.NumGoroutine")
    (hok : okCode c = true) (hlen : args.length ≤ n) (hpr : plainR r = true) (hpa : args'.all plainMV = true) (hsame : entVs T 0 args' = entVs T 0 args)
    (h : codeK P tab c (retMA tab rs r (Turned T (hoVs args') (entVs T 0 args))) (mk n (enumA 0 (entVs T 0 args)) [(T, .tok (hoVs args))] (entVs T 0 args))) : SatM P f args args' r := by
  subst hr hn
  refine ⟨⟨fn, hf, hname, by rw [hb]; simp⟩, hpr, fun w F us S hF hrep hnd hS => ?_⟩
  obtain ⟨hs, k1, k2, k3⟩ := entVs_rep (T := T) (X := hoVs args) hrep
  have hargs : ∀ (lb : Lk) (g : Gh), lb T = some (.tok (hoVs args)) → g.hd T = .agg hs.toArray → RepAVs w F lb g (entVs T 0 args) us := fun lb g hl hg => k3 lb g hs 0 hl hg (fun j x hj => by simpa using hj)
  let g1 : Gh := ⟨fun _ => 0, fun _ => .agg hs.toArray, fun _ => S⟩
  have one : ∀ l B, lookB [(T, LB.tok (hoVs args))] l = some B → l = T ∧ B = .tok (hoVs args) := by
    intro l B hl
    simp only [lookB] at hl
    split at hl
    · exact ⟨‹_›, (Option.some.inj hl).symm⟩
    · cases hl
  have hA := hargs (lookB [(T, LB.tok (hoVs args))]) g1 (by simp [lookB]) rfl
  have lenA : ∀ (as : List AV) (i : Nat), (entVs T i as).length = as.length := by
    intro as
    induction as with
    | nil => intro i; rfl
    | cons a as ih => intro i; simp [entVs, ih]
  have hsim : Sim w ⟨S, us⟩ F F g1 (mk fn.ntmps (enumA 0 (entVs T 0 args)) [(T, .tok (hoVs args))] (entVs T 0 args)) { tmps := us.toArray ++ Array.replicate (fn.ntmps - us.toArray.size) undef, defers := [] } w := {
    sz := by have := RepAVs.len _ _ hA; simp [mk_n]; have := lenA args 0; omega
    df := rfl
    sl := fun i => by
      have e : us.toArray ++ Array.replicate (fn.ntmps - us.toArray.size) undef = (us ++ List.replicate (fn.ntmps - us.length) undef).toArray := by simp
      simp only [mk_sl, mk_lb, e, getD_toArray]
      rcases enumA_rep (entVs T 0 args) us 0 i (List.replicate (fn.ntmps - us.length) undef) hA with h | ⟨_, _, h⟩
      · rw [h]; simp only [RepAV]
      · exact h
    gh := hA
    lb := fun l B hl => by
      obtain ⟨rfl, rfl⟩ := one l B hl
      exact ⟨hs, rfl, k1⟩
    so := fun l B hl => by
      obtain ⟨rfl, rfl⟩ := one l B hl
      exact fun b hb o => (hS b hb).2 o
    nd := fun l B hl => hnd
    dj := fun l l' B B' hne hl hl' => by
      obtain ⟨rfl, _⟩ := one l B hl
      obtain ⟨rfl, _⟩ := one l' B' hl'
      exact absurd rfl hne
    nw := fun l B hl b hb => ⟨.inr hb, (hS b hb).1⟩
    f0 := fun _ _ h => h
    f1 := fun _ _ h => .inl h
    f2 := hF
    os := rfl
    tape := rfl
    output := rfl
    size := Nat.le_refl _
    block := fun _ _ _ => rfl }
  refine calls_of_wp hf hb (wp_mono (codeK_sound hT hm c _ _ hok h w ⟨S, us⟩ F _ w ⟨F, g1, hsim⟩) ?_)
  rintro e a' w' ⟨s', hq, F1, g2, hs'⟩
  have main : retMS tab fn.results.toList r (Turned T (hoVs args') (entVs T 0 args)) s' → ∃ v, (results fn a'.tmps).run P w' = .ok v w' ∧ ∃ v' S', Ending.returned v = .returned v' ∧ RepAV w' F noLk g0 r v' ∧ RepMVs w' F args' us S' ∧ S'.Nodup ∧ (∀ b, b ∈ S' → (b ∈ S ∨ w.heap.size ≤ b) ∧ b < w'.heap.size) ∧
      w'.os = w.os ∧ w'.tape = w.tape ∧ w'.output = w.output ∧ w.heap.size ≤ w'.heap.size ∧ ∀ k, k < w.heap.size → k ∉ S → w'.heap[k]? = w.heap[k]? := by
    intro hq
    unfold retMS at hq
    split at hq
    case h_2 => exact hq.elim
    rename_i p vs ho
    obtain ⟨hp, rfl, hl, hgh⟩ := hq
    obtain ⟨us', hrun, hargs'⟩ := results_run hT hs' rfl ho hp
    obtain ⟨HS, j1, j2⟩ := hs'.lb T _ hl
    have hg := hs'.gh
    rw [hgh, ← hsame] at hg
    refine ⟨_, hrun, _, g2.ds T, rfl, plainR_rep hpr (join_rep hargs'), entVs_back hl j1 hpa hg j2 (fun j x hj => by simpa using hj), hs'.nd T _ hl, fun b hb => ?_, hs'.os, hs'.tape, hs'.output, hs'.size, fun k hk hk' => hs'.block k hk hk'⟩
    obtain ⟨q1, q2⟩ := hs'.nw T _ hl b hb
    exact ⟨q1.symm, q2⟩
  cases e with
  | normal => exact ⟨hs'.df, main hq⟩
  | ret => exact ⟨hs'.df, main hq⟩
  | _ => exact hq.elim
end Go.Ai
