/- Functions that write what they are given: their contracts, from their code; owned values in rows are taken out and put back. -/
import Derived.Test.YtmddjojbaompiaaGreatAiOut
set_option linter.unusedVariables false
set_option linter.unusedSimpArgs false
namespace Go.Ai
open Go.RowKit
variable {P : Program} {tab : Tab}
def entCs (T : Nat) : Nat → List AC → List AC
 | _, [] => []
 | j, .m _ :: as => .tk T j :: entCs T (j + 1) as
 | j, a :: as => a :: entCs T j as
def hoCs : List AC → List (Option C)
 | [] => []
 | .m x :: as => some x :: hoCs as
 | _ :: as => hoCs as
def entV (T j : Nat) : AV → AV
 | .one (.m _) => .one (.tk T j)
 | .agg as => .agg (entCs T j as)
 | v => v
def hoV : AV → List (Option C)
 | .one (.m x) => [some x]
 | .agg as => hoCs as
 | _ => []
def entVs (T : Nat) : Nat → List AV → List AV
 | _, [] => []
 | j, v :: vs => entV T j v :: entVs T (j + (hoV v).length) vs
def hoVs : List AV → List (Option C)
 | [] => []
 | v :: vs => hoV v ++ hoVs vs
def plainMC : AC → Bool
 | .m _ => true
 | a => plainA a
def plainMV : AV → Bool
 | .one a => plainMC a
 | .agg as => as.all plainMC
 | _ => false
section
variable {w w' : World} {F F' : Fz} {T : Nat} {X : List (Option C)}
theorem noLk_rep {lb : Lk} {g : Gh} {a : AC} {u : Value} (h : RepAC w F noLk g0 a u) : RepAC w F lb g a u := RepAC.mono (Stays.refl w F) ⟨fun l B hl => by simp [noLk] at hl⟩ _ _ h
theorem entCs_rep : ∀ {as : List AC} {us : List Value} {S : List Nat}, RepMCs w F as us S → ∃ hs, OwnTs w (hoCs as) hs S ∧ hs.length = (hoCs as).length ∧ ∀ (lb : Lk) (g : Gh) (HS : List Value) (i : Nat), lb T = some (.tok X) → g.hd T = .agg HS.toArray →
  (∀ (j : Nat) x, hs[j]? = some x → HS[i + j]? = some x) → RepACs w F lb g (entCs T i as) us
 | [], us, S, h => by
  simp only [RepMCs] at h
  obtain ⟨rfl, rfl⟩ := h
  exact ⟨[], ⟨rfl, rfl⟩, rfl, fun _ _ _ _ _ _ _ => rfl⟩
 | a :: as, us, S, h => by
  simp only [RepMCs] at h
  obtain ⟨u, us', S1, S2, rfl, rfl, h1, h2⟩ := h
  obtain ⟨hs, k1, k2, k3⟩ := entCs_rep h2
  have plain : S1 = [] → RepAC w F noLk g0 a u → hoCs (a :: as) = hoCs as → (∀ i, entCs T i (a :: as) = a :: entCs T i as) → ∃ hs, OwnTs w (hoCs (a :: as)) hs (S1 ++ S2) ∧ hs.length = (hoCs (a :: as)).length ∧ ∀ (lb : Lk) (g : Gh) (HS : List Value) (i : Nat), lb T = some (.tok X) → g.hd T = .agg HS.toArray →
    (∀ (j : Nat) x, hs[j]? = some x → HS[i + j]? = some x) → RepACs w F lb g (entCs T i (a :: as)) (u :: us') := by
   intro e1 e2 e3 e4
   subst e1
   rw [e3]
   refine ⟨hs, by simpa using k1, k2, fun lb g HS i hl hg hu => ?_⟩
   rw [e4]
   exact ⟨u, us', rfl, noLk_rep e2, k3 lb g HS i hl hg hu⟩
  cases a
  case m x =>
   refine ⟨u :: hs, ⟨u, hs, S1, S2, rfl, rfl, h1, k1⟩, by simp [hoCs, k2], fun lb g HS i hl hg hu => ?_⟩
   simp only [entCs, RepACs]
   refine ⟨u, us', rfl, ?_, k3 lb g HS (i + 1) hl hg (fun j x hj => by have := hu (j + 1) x (by simpa using hj); rwa [show i + (j + 1) = i + 1 + j by omega] at this)⟩
   simp only [RepAC]
   exact ⟨Own.one h1, _, hl, HS, hg, by simpa using hu 0 u (by simp)⟩
  all_goals exact plain h1.2 h1.1 rfl (fun _ => rfl)
theorem entV_rep {v : AV} {u : Value} {S : List Nat} (h : RepMV w F v u S) : ∃ hs, OwnTs w (hoV v) hs S ∧ hs.length = (hoV v).length ∧ ∀ (lb : Lk) (g : Gh) (HS : List Value) (i : Nat), lb T = some (.tok X) → g.hd T = .agg HS.toArray →
  (∀ (j : Nat) x, hs[j]? = some x → HS[i + j]? = some x) → RepAV w F lb g (entV T i v) u := by
 cases v with
 | one a =>
  simp only [RepMV] at h
  cases a
  case m x =>
   refine ⟨[u], ⟨u, [], S, [], rfl, by simp, h, rfl, rfl⟩, rfl, fun lb g HS i hl hg hu => ?_⟩
   simp only [entV, RepAV, RepAC]
   exact ⟨Own.one h, _, hl, HS, hg, by simpa using hu 0 u (by simp)⟩
  all_goals
   obtain ⟨h, rfl⟩ := h
   exact ⟨[], ⟨rfl, rfl⟩, rfl, fun lb g HS i hl hg hu => by simp only [entV, RepAV]; exact noLk_rep h⟩
 | agg as =>
  simp only [RepMV] at h
  obtain ⟨us, rfl, h⟩ := h
  obtain ⟨hs, k1, k2, k3⟩ := entCs_rep (T := T) (X := X) h
  exact ⟨hs, k1, k2, fun lb g HS i hl hg hu => by simp only [entV, RepAV]; exact ⟨us, rfl, k3 lb g HS i hl hg hu⟩⟩
 | tup vs => exact h.elim
 | any => exact h.elim
theorem entVs_rep : ∀ {vs : List AV} {us : List Value} {S : List Nat}, RepMVs w F vs us S → ∃ hs, OwnTs w (hoVs vs) hs S ∧ hs.length = (hoVs vs).length ∧ ∀ (lb : Lk) (g : Gh) (HS : List Value) (i : Nat), lb T = some (.tok X) → g.hd T = .agg HS.toArray →
  (∀ (j : Nat) x, hs[j]? = some x → HS[i + j]? = some x) → RepAVs w F lb g (entVs T i vs) us
 | [], us, S, h => by
  simp only [RepMVs] at h
  obtain ⟨rfl, rfl⟩ := h
  exact ⟨[], ⟨rfl, rfl⟩, rfl, fun _ _ _ _ _ _ _ => rfl⟩
 | v :: vs, us, S, h => by
  simp only [RepMVs] at h
  obtain ⟨u, us', S1, S2, rfl, rfl, h1, h2⟩ := h
  obtain ⟨k1, a1, b1, c1⟩ := entV_rep (T := T) (X := X) h1
  obtain ⟨k2, a2, b2, c2⟩ := entVs_rep h2
  refine ⟨k1 ++ k2, OwnTs.append a1 a2, by simp [hoVs, b1, b2], fun lb g HS i hl hg hu => ?_⟩
  simp only [entVs, RepAVs]
  refine ⟨u, us', rfl, c1 lb g HS i hl hg (fun j x hj => hu j x (by rw [List.getElem?_append_left (List.getElem?_eq_some_iff.1 hj).1]; exact hj)), c2 lb g HS _ hl hg (fun j x hj => ?_)⟩
  have := hu (k1.length + j) x (by rw [List.getElem?_append_right (by omega), Nat.add_sub_cancel_left]; exact hj)
  rwa [← Nat.add_assoc, b1] at this
variable {lb : Lk} {g : Gh} {HS : List Value}
theorem tk_val (hl : lb T = some (.tok X)) (hg : g.hd T = .agg HS.toArray) {i : Nat} {u : Value} (h : RepAC w F lb g (.tk T i) u) : HS[i]? = some u := by
 simp only [RepAC] at h
 obtain ⟨_, B, hB, hq⟩ := h
 rw [hl] at hB
 obtain rfl := Option.some.inj hB
 obtain ⟨us, h1, h2⟩ := hq
 rw [hg] at h1
 obtain rfl : HS = us := by simpa using h1
 exact h2
theorem OwnTs.append_inv {w : World} : ∀ {os os' : List (Option C)} {us : List Value} {S : List Nat}, OwnTs w (os ++ os') us S → ∃ u1 u2 S1 S2, us = u1 ++ u2 ∧ S = S1 ++ S2 ∧ u1.length = os.length ∧ OwnTs w os u1 S1 ∧ OwnTs w os' u2 S2
 | [], os', us, S, h => ⟨[], us, [], S, rfl, rfl, rfl, ⟨rfl, rfl⟩, h⟩
 | o :: os, os', us, S, h => by
  simp only [List.cons_append, OwnTs] at h
  obtain ⟨u, us', S1, S2, rfl, rfl, h1, h2⟩ := h
  obtain ⟨u1, u2, T1, T2, rfl, rfl, k1, k2, k3⟩ := OwnTs.append_inv h2
  exact ⟨u :: u1, u2, S1 ++ T1, T2, rfl, by simp, by simp [k1], ⟨u, u1, S1, T1, rfl, rfl, h1, k2⟩, k3⟩
theorem entCs_back (hl : lb T = some (.tok X)) (hg : g.hd T = .agg HS.toArray) : ∀ {as : List AC} {us hs : List Value} {S : List Nat} {i : Nat}, as.all plainMC = true → RepACs w F' lb g (entCs T i as) us → OwnTs w (hoCs as) hs S → (∀ (j : Nat) x, hs[j]? = some x → HS[i + j]? = some x) → RepMCs w F as us S
 | [], us, hs, S, i, _, h, ho, _ => by
  simp only [entCs, RepACs] at h
  simp only [hoCs, OwnTs] at ho
  exact ⟨h, ho.2⟩
 | a :: as, us, hs, S, i, hp, h, ho, hu => by
  simp only [List.all_cons, Bool.and_eq_true] at hp
  have plain : plainA a = true → hoCs (a :: as) = hoCs as → entCs T i (a :: as) = a :: entCs T i as → (∀ u S, RepAC w F noLk g0 a u ∧ S = [] → RepMC w F a u S) → RepMCs w F (a :: as) us S := by
   intro e1 e2 e3 e4
   rw [e2] at ho
   rw [e3] at h
   simp only [RepACs] at h
   obtain ⟨u, us', rfl, h1, h2⟩ := h
   exact ⟨u, us', [], S, rfl, rfl, e4 _ _ ⟨plainA_rep e1 h1, rfl⟩, entCs_back hl hg hp.2 h2 ho hu⟩
  cases a
  case m x =>
   simp only [entCs, RepACs] at h
   obtain ⟨u, us', rfl, h1, h2⟩ := h
   simp only [hoCs, OwnTs] at ho
   obtain ⟨u0, hs', S1, S2, rfl, rfl, o1, o2⟩ := ho
   have e1 := tk_val hl hg h1
   have e2 := hu 0 u0 (by simp)
   rw [Nat.add_zero, e1] at e2
   obtain rfl := Option.some.inj e2
   exact ⟨u, us', S1, S2, rfl, rfl, o1, entCs_back hl hg hp.2 h2 o2 (fun j x hj => by have := hu (j + 1) x (by simpa using hj); rwa [show i + (j + 1) = i + 1 + j by omega] at this)⟩
  case c x => exact plain hp.1 rfl rfl (fun _ _ h => h)
  all_goals exact absurd hp.1 (by simp [plainMC, plainA])
theorem entV_back (hl : lb T = some (.tok X)) (hg : g.hd T = .agg HS.toArray) {v : AV} {u : Value} {hs : List Value} {S : List Nat} {i : Nat} (hp : plainMV v = true) (h : RepAV w F' lb g (entV T i v) u) (ho : OwnTs w (hoV v) hs S) (hu : ∀ (j : Nat) x, hs[j]? = some x → HS[i + j]? = some x) : RepMV w F v u S := by
 cases v with
 | one a =>
  cases a
  case m x =>
   simp only [entV, RepAV] at h
   simp only [hoV, OwnTs] at ho
   obtain ⟨u0, hs', S1, S2, rfl, rfl, o1, rfl, rfl⟩ := ho
   have e1 := tk_val hl hg h
   have e2 := hu 0 u0 (by simp)
   rw [Nat.add_zero, e1] at e2
   obtain rfl := Option.some.inj e2
   rw [List.append_nil]
   exact o1
  case c x =>
   simp only [entV, RepAV] at h
   simp only [hoV, OwnTs] at ho
   exact ⟨plainA_rep hp h, ho.2⟩
  all_goals exact absurd hp (by simp [plainMV, plainMC, plainA])
 | agg as =>
  simp only [entV, RepAV] at h
  obtain ⟨us, rfl, h⟩ := h
  exact ⟨us, rfl, entCs_back hl hg hp h ho hu⟩
 | tup vs => cases hp
 | any => cases hp
theorem entVs_back (hl : lb T = some (.tok X)) (hg : g.hd T = .agg HS.toArray) : ∀ {vs : List AV} {us hs : List Value} {S : List Nat} {i : Nat}, vs.all plainMV = true → RepAVs w F' lb g (entVs T i vs) us → OwnTs w (hoVs vs) hs S → (∀ (j : Nat) x, hs[j]? = some x → HS[i + j]? = some x) → RepMVs w F vs us S
 | [], us, hs, S, i, _, h, ho, _ => by
  simp only [entVs, RepAVs] at h
  simp only [hoVs, OwnTs] at ho
  exact ⟨h, ho.2⟩
 | v :: vs, us, hs, S, i, hp, h, ho, hu => by
  simp only [List.all_cons, Bool.and_eq_true] at hp
  simp only [entVs, RepAVs] at h
  obtain ⟨u, us', rfl, h1, h2⟩ := h
  simp only [hoVs] at ho
  obtain ⟨h1', h2', S1, S2, rfl, rfl, hlen, o1, o2⟩ := OwnTs.append_inv ho
  refine ⟨u, us', S1, S2, rfl, rfl, entV_back hl hg hp.1 h1 o1 (fun j x hj => hu j x (by rw [List.getElem?_append_left (List.getElem?_eq_some_iff.1 hj).1]; exact hj)), entVs_back hl hg hp.2 h2 o2 (fun j x hj => ?_)⟩
  have := hu (h1'.length + j) x (by rw [List.getElem?_append_right (by omega), Nat.add_sub_cancel_left]; exact hj)
  rwa [← Nat.add_assoc, hlen] at this
end
def retMS (tab : Tab) (rs : List ResultVar) (r : AV) (K : St → Prop) (s : St) : Prop :=
 match resVs tab s rs with
 | some (p, vs) => p ∧ joinR vs = r ∧ K s
 | none => False
def retMA (tab : Tab) (rs : List ResultVar) (r : AV) (K : St → Prop) : Exit → St → Prop
 | .normal, s => retMS tab rs r K s
 | .ret, s => retMS tab rs r K s
 | _, _ => False
theorem join_rep {w : World} {F : Fz} {lb : Lk} {g : Gh} {vs : List AV} {us : List Value} (h : RepAVs w F lb g vs us) : RepAV w F lb g (joinR vs) (joinU us) := by
 match vs, us, h with
 | [], us, h => simp only [RepAVs] at h; subst h; exact ⟨[], rfl, rfl⟩
 | [v], us, h =>
  simp only [RepAVs] at h
  obtain ⟨u, us', rfl, h1, rfl⟩ := h
  exact h1
 | v :: v' :: vs, us, h =>
  have h' := h
  simp only [RepAVs] at h
  obtain ⟨u, us', rfl, h1, u', us'', rfl, h2, h3⟩ := h
  exact ⟨_, rfl, h'⟩
def Turned (T : Nat) (X : List (Option C)) (G : List AV) (s : St) : Prop := s.lb T = some (.tok X) ∧ s.gh = G
theorem satM_of_code (T : Nat) (hT : TabOk P tab) (hm : P.follows .mixedOrders = true) {f : FuncId} {fn : Func} {c : Code} {args args' : List AV} {r : AV} {rs : List ResultVar} {n : Nat} (hf : P.funcs[f]? = some fn) (hb : fn.body = some c) (hr : fn.results.toList = rs) (hn : fn.ntmps = n) (hname : fn.name ≠ "runtime.NumGoroutine")
  (hok : okCode c = true) (hlen : args.length ≤ n) (hpr : plainR r = true) (hpa : args'.all plainMV = true) (hsame : entVs T 0 args' = entVs T 0 args)
  (h : codeK P tab c (retMA tab rs r (Turned T (hoVs args') (entVs T 0 args))) (mk n (enumA 0 (entVs T 0 args)) [(T, .tok (hoVs args))] (entVs T 0 args))) : SatM P f args args' r := by
 subst hr hn
 refine ⟨⟨fn, hf, hname, by rw [hb]; simp⟩, hpr, fun w F us S hF hrep hnd hS => ?_⟩
 obtain ⟨hs, k1, k2, k3⟩ := entVs_rep (T := T) (X := hoVs args) hrep
 have hargs : ∀ (lb : Lk) (g : Gh), lb T = some (.tok (hoVs args)) → g.hd T = .agg hs.toArray → RepAVs w F lb g (entVs T 0 args) us := fun lb g hl hg => k3 lb g hs 0 hl hg (fun j x hj => by simpa using hj)
 let g1 : Gh := ⟨fun _ => 0, fun _ => .agg hs.toArray, fun _ => S⟩
 have one : ∀ l B, lookB [(T, LB.tok (hoVs args))] l = some B → l = T ∧ B = .tok (hoVs args) := by
  intro l B hl
  simp only [lookB] at hl
  split at hl
  ·exact ⟨‹_›, (Option.some.inj hl).symm⟩
  ·cases hl
 have hA := hargs (lookB [(T, LB.tok (hoVs args))]) g1 (by simp [lookB]) rfl
 have lenA : ∀ (as : List AV) (i : Nat), (entVs T i as).length = as.length := by
  intro as
  induction as with
  | nil => intro i; rfl
  | cons a as ih => intro i; simp [entVs, ih]
 have hsim : Sim w ⟨S, us⟩ F F g1 (mk fn.ntmps (enumA 0 (entVs T 0 args)) [(T, .tok (hoVs args))] (entVs T 0 args)) { tmps := us.toArray ++ Array.replicate (fn.ntmps - us.toArray.size) undef, defers := [] } w := {
  sz := by have := RepAVs.len _ _ hA; simp [mk_n]; have := lenA args 0; omega
  df := rfl
  sl := fun i => by
   have e : us.toArray ++ Array.replicate (fn.ntmps - us.toArray.size) undef = (us ++ List.replicate (fn.ntmps - us.length) undef).toArray := by simp
   simp only [mk_sl, mk_lb, e, getD_toArray]
   rcases enumA_rep (entVs T 0 args) us 0 i (List.replicate (fn.ntmps - us.length) undef) hA with h | ⟨_, _, h⟩
   ·rw [h]; simp only [RepAV]
   ·exact h
  gh := hA
  lb := fun l B hl => by
   obtain ⟨rfl, rfl⟩ := one l B hl
   exact ⟨hs, rfl, k1⟩
  so := fun l B hl => by
   obtain ⟨rfl, rfl⟩ := one l B hl
   exact fun b hb o => (hS b hb).2 o
  nd := fun l B hl => hnd
  dj := fun l l' B B' hne hl hl' => by
   obtain ⟨rfl, _⟩ := one l B hl
   obtain ⟨rfl, _⟩ := one l' B' hl'
   exact absurd rfl hne
  nw := fun l B hl b hb => ⟨.inr hb, (hS b hb).1⟩
  f0 := fun _ _ h => h
  f1 := fun _ _ h => .inl h
  f2 := hF.lt
  tb := hF.tb.start (fun b hb => (hS b hb).2)
  os := rfl
  tape := rfl
  output := rfl
  size := Nat.le_refl _
  block := fun _ _ _ => rfl }
 refine calls_of_wp hf hb (wp_mono (codeK_sound hT hm c _ _ hok h w ⟨S, us⟩ F _ w ⟨F, g1, hsim⟩) ?_)
 rintro e a' w' ⟨s', hq, F1, g2, hs'⟩
 have main : retMS tab fn.results.toList r (Turned T (hoVs args') (entVs T 0 args)) s' → ∃ v, (results fn a'.tmps).run P w' = .ok v w' ∧ ∃ v' S', Ending.returned v = .returned v' ∧ RepAV w' F noLk g0 r v' ∧ RepMVs w' F args' us S' ∧ S'.Nodup ∧ (∀ b, b ∈ S' → (b ∈ S ∨ w.heap.size ≤ b) ∧ b < w'.heap.size) ∧
   w'.os = w.os ∧ w'.tape = w.tape ∧ w'.output = w.output ∧ w.heap.size ≤ w'.heap.size ∧ ∀ k, k < w.heap.size → k ∉ S → w'.heap[k]? = w.heap[k]? := by
  intro hq
  unfold retMS at hq
  split at hq
  case h_2 => exact hq.elim
  rename_i p vs ho
  obtain ⟨hp, rfl, hl, hgh⟩ := hq
  obtain ⟨us', hrun, hargs'⟩ := results_run hT hs' rfl ho hp
  obtain ⟨HS, j1, j2⟩ := hs'.lb T _ hl
  have hg := hs'.gh
  rw [hgh, ← hsame] at hg
  refine ⟨_, hrun, _, g2.ds T, rfl, plainR_rep hpr (join_rep hargs'), entVs_back hl j1 hpa hg j2 (fun j x hj => by simpa using hj), hs'.nd T _ hl, fun b hb => ?_, hs'.os, hs'.tape, hs'.output, hs'.size, fun k hk hk' => hs'.block k hk hk'⟩
  obtain ⟨q1, q2⟩ := hs'.nw T _ hl b hb
  exact ⟨q1.symm, q2⟩
 cases e with
 | normal => exact ⟨hs'.df, main hq⟩
 | ret => exact ⟨hs'.df, main hq⟩
 | _ => exact hq.elim
end Go.Ai
/- Functions that write a slice they are given; owned values in rows, taken out and put back. -/
namespace Go.Ai
open Go.RowKit
variable {P : Program} {tab : Tab}
section
variable {w : World} {F : Fz} {lb : Lk} {g : Gh}
theorem mC_cell {c : C} {u : Value} {S : List Nat} (h : Own w c u S) : RepCell w F lb g (mC c) u S := by
 cases c with
 | v x =>
  simp only [Own] at h
  obtain ⟨h1, h2, rfl⟩ := h
  refine ⟨?_, rfl⟩
  show RepAC w F lb g (.c (.v x)) u
  simp only [RepAC, Rd]; exact ⟨h1, h2⟩
 | sl r => exact h
theorem mCs_cells : ∀ {cs : List C} {us : List Value} {S : List Nat}, OwnCells w cs us S → RepCells w F lb g (cs.map mC) us S
 | [], us, S, h => by simp only [OwnCells] at h; exact h
 | c :: cs, us, S, h => by
  simp only [OwnCells] at h
  obtain ⟨u, us', S1, S2, rfl, rfl, h1, h2⟩ := h
  exact ⟨u, us', S1, S2, rfl, rfl, mC_cell h1, mCs_cells h2⟩
theorem mCr_cells {sz : Nat} : ∀ {rows : List (List C)} {us : List Value} {S : List Nat}, OwnRows w sz rows us S → RepCells w F lb g (rows.map fun r => r.map mC).flatten us S
 | [], us, S, h => by simp only [OwnRows] at h; exact h
 | r :: rows, us, S, h => by
  simp only [OwnRows] at h
  obtain ⟨u1, u2, S1, S2, rfl, rfl, _, h1, h2⟩ := h
  rw [List.map_cons, List.flatten_cons]
  exact RepCells.append _ _ _ _ _ _ (mCs_cells h1) (mCr_cells h2)
theorem ownRows_sz {sz : Nat} : ∀ {rows : List (List C)} {us : List Value} {S : List Nat}, OwnRows w sz rows us S → ∀ r, r ∈ rows → r.length = sz
 | [], _, _, _, _, hr => by cases hr
 | r :: rows, us, S, h, q, hq => by
  simp only [OwnRows] at h
  obtain ⟨u1, u2, S1, S2, rfl, rfl, h0, h1, h2⟩ := h
  rcases List.mem_cons.1 hq with rfl | hq
  ·exact h0
  ·exact ownRows_sz h2 q hq
theorem plains_rest {F' : Fz} : ∀ {vs : List AV} {us : List Value} {S : List Nat}, vs.all plainR1 = true → RepMVs w F vs us S → S = [] ∧ RepAVs w F lb g vs us
 | [], us, S, _, h => by simp only [RepMVs] at h; exact ⟨h.2, h.1⟩
 | v :: vs, us, S, hp, h => by
  simp only [List.all_cons, Bool.and_eq_true] at hp
  simp only [RepMVs] at h
  obtain ⟨u, us', S1, S2, rfl, rfl, h1, h2⟩ := h
  obtain ⟨k1, k2⟩ := plains_rest (F' := F') hp.2 h2
  have : S1 = [] ∧ RepAV w F lb g v u := by
   cases v with
   | one a =>
    simp only [RepMV] at h1
    cases a <;> first | exact ⟨h1.2, by simp only [RepAV]; exact noLk_rep h1.1⟩ | exact absurd hp.1 (by simp [plainR1, plainA])
   | agg as =>
    obtain ⟨ws, rfl, h1⟩ := h1
    have : ∀ (as : List AC) (ws : List Value) (S : List Nat), as.all plainA = true → RepMCs w F as ws S → S = [] ∧ RepACs w F lb g as ws := by
     intro as
     induction as with
     | nil => intro ws S _ h; simp only [RepMCs] at h; exact ⟨h.2, h.1⟩
     | cons a as ih =>
      intro ws S hp h
      simp only [List.all_cons, Bool.and_eq_true] at hp
      simp only [RepMCs] at h
      obtain ⟨u, us', S1, S2, rfl, rfl, h1, h2⟩ := h
      obtain ⟨k1, k2⟩ := ih _ _ hp.2 h2
      cases a <;> first | (obtain ⟨h1, rfl⟩ := h1; exact ⟨by simp [k1], _, _, rfl, noLk_rep h1, k2⟩) | exact absurd hp.1 (by simp [plainA])
    obtain ⟨j1, j2⟩ := this as ws S1 hp.1 h1
    exact ⟨j1, by simp only [RepAV]; exact ⟨ws, rfl, j2⟩⟩
   | tup vs => exact h1.elim
   | any => exact h1.elim
  exact ⟨by simp [this.1, k1], u, us', rfl, this.2, k2⟩
theorem rest_back {F' : Fz} : ∀ {vs : List AV} {us : List Value}, vs.all plainR1 = true → RepAVs w F' lb g vs us → RepMVs w F vs us []
 | [], us, _, h => by simp only [RepAVs] at h; exact ⟨h, rfl⟩
 | v :: vs, us, hp, h => by
  simp only [List.all_cons, Bool.and_eq_true] at hp
  simp only [RepAVs] at h
  obtain ⟨u, us', rfl, h1, h2⟩ := h
  refine ⟨u, us', [], [], rfl, rfl, ?_, rest_back hp.2 h2⟩
  have h3 : RepAV w F noLk g0 v u := plainR1_rep hp.1 h1
  cases v with
  | one a =>
   simp only [RepAV] at h3
   cases a <;> first | exact ⟨h3, rfl⟩ | exact absurd hp.1 (by simp [plainR1, plainA])
  | agg as =>
   simp only [RepAV] at h3
   obtain ⟨ws, rfl, h3⟩ := h3
   refine ⟨ws, rfl, ?_⟩
   have : ∀ (as : List AC) (ws : List Value), as.all plainA = true → RepACs w F noLk g0 as ws → RepMCs w F as ws [] := by
    intro as
    induction as with
    | nil => intro ws _ h; simp only [RepACs] at h; exact ⟨h, rfl⟩
    | cons a as ih =>
     intro ws hp h
     simp only [List.all_cons, Bool.and_eq_true] at hp
     simp only [RepACs] at h
     obtain ⟨u, us', rfl, h1, h2⟩ := h
     refine ⟨u, us', [], [], rfl, rfl, ?_, ih _ hp.2 h2⟩
     cases a <;> first | exact ⟨h1, rfl⟩ | exact absurd hp.1 (by simp [plainA])
   exact this as ws hp.1 h3
  | tup vs => exact absurd hp.1 (by simp [plainR1])
  | any => exact absurd hp.1 (by simp [plainR1])
end
def TurnedRow (L n : Nat) (rows' : List (List C)) (s : St) : Prop :=
 match s.lb L with
 | some (.arr _ _ R _) => n = R.length ∧ (∀ r, r ∈ R → ∀ x, x ∈ r → isO x = true) ∧ (R.map fun r => r.map toC) = rows' ∧ s.gh = [.one (.own L n)]
 | _ => False
theorem satM_slice (L sz : Nat) (hT : TabOk P tab) (hm : P.follows .mixedOrders = true) {f : FuncId} {fn : Func} {c : Code} {rows rows' : List (List C)} {rest : List AV} {r : AV} {rs : List ResultVar} {n : Nat} (hf : P.funcs[f]? = some fn) (hb : fn.body = some c) (hr : fn.results.toList = rs) (hn : fn.ntmps = n) (hname : fn.name ≠ "runtime.NumGoroutine")
  (hok : okCode c = true) (hlen : rest.length + 1 ≤ n) (hpr : plainR r = true) (hpa : rest.all plainR1 = true) (hne : rows ≠ []) (hsz : ∀ q, q ∈ rows → q.length = sz)
  (h : ∀ e, codeK P tab c (retMA tab rs r (TurnedRow L rows.length rows')) (mk n (enumA 0 (.one (.own L rows.length) :: rest)) [(L, .arr e sz (rows.map fun q => q.map mC) false)] [.one (.own L rows.length)])) :
  SatM P f (.one (.m (.sl rows)) :: rest) (.one (.m (.sl rows')) :: rest) r := by
 subst hr hn
 refine ⟨⟨fn, hf, hname, by rw [hb]; simp⟩, hpr, fun w F us S hF hrep hnd hS => ?_⟩
 simp only [RepMVs, RepMV, RepMC] at hrep
 obtain ⟨u, us', S1, S2, rfl, rfl, hown, hrest⟩ := hrep
 have hown0 := hown
 simp only [Own] at hown
 rcases hown with ⟨_, hq, _⟩ | ⟨b, cap, cs, e, sz', S', hu, hheap, hle, hcm, hcs, hpos, rfl, hrows⟩
 ·exact absurd hq hne
 have hszz : sz' = sz := by
  cases rows with
  | nil => exact absurd rfl hne
  | cons q rows => rw [← ownRows_sz hrows q (by simp), hsz q (by simp)]
 subst hszz
 let g1 : Gh := ⟨fun _ => 0, fun _ => u, fun _ => b :: S'⟩
 have one : ∀ l B, lookB [(L, LB.arr e sz' (rows.map fun q => q.map mC) false)] l = some B → l = L ∧ B = .arr e sz' (rows.map fun q => q.map mC) false := by
  intro l B hl
  simp only [lookB] at hl
  split at hl
  ·exact ⟨‹_›, (Option.some.inj hl).symm⟩
  ·cases hl
 obtain ⟨rfl, hrest'⟩ := plains_rest (lb := lookB [(L, LB.arr e sz' (rows.map fun q => q.map mC) false)]) (g := g1) (F' := F) hpa hrest
 rw [List.append_nil] at hnd hS
 have hhd : RepAV w F (lookB [(L, LB.arr e sz' (rows.map fun q => q.map mC) false)]) g1 (.one (.own L rows.length)) u := by
  simp only [RepAV, RepAC]
  exact ⟨hown0.one, _, by simp [lookB]; rfl, by simp [okOwnB, g1]⟩
 have hA : RepAVs w F (lookB [(L, LB.arr e sz' (rows.map fun q => q.map mC) false)]) g1 (.one (.own L rows.length) :: rest) (u :: us') := ⟨u, us', rfl, hhd, hrest'⟩
 have hsim : Sim w ⟨b :: S', [u]⟩ F F g1 (mk fn.ntmps (enumA 0 (.one (.own L rows.length) :: rest)) [(L, .arr e sz' (rows.map fun q => q.map mC) false)] [.one (.own L rows.length)]) { tmps := (u :: us').toArray ++ Array.replicate (fn.ntmps - (u :: us').toArray.size) undef, defers := [] } w := {
  sz := by
   have := RepAVs.len _ _ hrest'
   simp only [mk_n, Array.size_append, List.size_toArray, Array.size_replicate, List.length_cons]
   omega
  df := rfl
  sl := fun i => by
   have e : (u :: us').toArray ++ Array.replicate (fn.ntmps - (u :: us').toArray.size) undef = ((u :: us') ++ List.replicate (fn.ntmps - (u :: us').length) undef).toArray := by simp
   simp only [mk_sl, mk_lb, e, getD_toArray]
   rcases enumA_rep (.one (.own L rows.length) :: rest) (u :: us') 0 i (List.replicate (fn.ntmps - (u :: us').length) undef) hA with h | ⟨_, _, h⟩
   ·rw [h]; simp only [RepAV]
   ·exact h
  gh := ⟨u, [], rfl, hhd, rfl⟩
  lb := fun l B hl => by
   obtain ⟨rfl, rfl⟩ := one l B hl
   refine ⟨hpos, fun q hq => ?_, cs.toList.take (rows.length * sz'), S', ?_, mCr_cells hrows, by simp [g1, hu, blkOf, Value.ownBlock]⟩
   ·obtain ⟨q', hq', rfl⟩ := List.mem_map.1 hq
    rw [List.length_map]; exact hsz q' hq'
   ·have hmul : rows.length * sz' ≤ cap * sz' := Nat.mul_le_mul_right _ hle
    have hlen2 : (cs.toList.take (rows.length * sz')).length = (rows.map fun q => q.map mC).length * sz' := by
     have : cs.toList.length = cap * sz' := by simpa using hcs
     rw [List.length_take, List.length_map]
     omega
    refine ⟨hlen2, .inr ⟨b, cap, cs, by simp [g1, hu], Nat.zero_le _, hheap, by simpa using hle, hcm, hcs, by simp⟩⟩
  so := fun l B hl => by
   obtain ⟨rfl, rfl⟩ := one l B hl
   simp only [SoftOk]
   refine ⟨fun b' hb' o _ => (hS b' ?_).2 o, fun _ _ b' hb' o => (hS b' hb').2 o⟩
   simp [g1, hu, blkOf, Value.ownBlock] at hb'
   simp [hb']
  nd := fun l B hl => hnd
  dj := fun l l' B B' hne hl hl' => by
   obtain ⟨rfl, _⟩ := one l B hl
   obtain ⟨rfl, _⟩ := one l' B' hl'
   exact absurd rfl hne
  nw := fun l B hl b' hb => ⟨.inr hb, (hS b' hb).1⟩
  f0 := fun _ _ h => h
  f1 := fun _ _ h => .inl h
  f2 := hF.lt
  tb := hF.tb.start (fun b hb => (hS b hb).2)
  os := rfl
  tape := rfl
  output := rfl
  size := Nat.le_refl _
  block := fun _ _ _ => rfl }
 refine calls_of_wp hf hb (wp_mono (codeK_sound hT hm c _ _ hok (h e) w ⟨b :: S', [u]⟩ F _ w ⟨F, g1, hsim⟩) ?_)
 rintro e a' w' ⟨s', hq, F1, g2, hs'⟩
 have main : retMS tab fn.results.toList r (TurnedRow L rows.length rows') s' → ∃ v, (results fn a'.tmps).run P w' = .ok v w' ∧ ∃ v' S'', Ending.returned v = .returned v' ∧ RepAV w' F noLk g0 r v' ∧ RepMVs w' F (.one (.m (.sl rows')) :: rest) (u :: us') S'' ∧ S''.Nodup ∧ (∀ b', b' ∈ S'' → (b' ∈ (b :: S') ++ [] ∨ w.heap.size ≤ b') ∧ b' < w'.heap.size) ∧
   w'.os = w.os ∧ w'.tape = w.tape ∧ w'.output = w.output ∧ w.heap.size ≤ w'.heap.size ∧ ∀ k, k < w.heap.size → k ∉ (b :: S') ++ [] → w'.heap[k]? = w.heap[k]? := by
  intro hq
  unfold retMS at hq
  split at hq
  case h_2 => exact hq.elim
  rename_i p vs ho
  obtain ⟨hp, rfl, hK⟩ := hq
  unfold TurnedRow at hK
  split at hK
  case h_2 => exact hK.elim
  rename_i e2 sz2 R fz2 hl
  obtain ⟨hnR, hO, rfl, hgh⟩ := hK
  obtain ⟨us2, hrun, hargs'⟩ := results_run hT hs' rfl ho hp
  have hg := hs'.gh
  rw [hgh] at hg
  simp only [RepAVs, RepAV] at hg
  obtain ⟨u', us3, e4, hg, _⟩ := hg
  obtain ⟨rfl, _⟩ := List.cons.inj e4
  have hown' := bare_own (hs'.lb L _ hl) hl hnR hO hg
  refine ⟨_, hrun, _, g2.ds L, rfl, plainR_rep hpr (join_rep hargs'), ⟨u, us', g2.ds L, [], rfl, by simp, hown', rest_back hpa (plainRs_rep (w' := w') (F' := F) (lb' := noLk) (g' := g0) hpa hrest')⟩, hs'.nd L _ hl, fun b' hb => ?_, hs'.os, hs'.tape, hs'.output, hs'.size, fun k hk hk' => hs'.block k hk (fun hq => hk' (by rw [List.append_nil]; exact hq))⟩
  obtain ⟨q1, q2⟩ := hs'.nw L _ hl b' hb
  exact ⟨q1.symm.imp (fun hq => by rw [List.append_nil]; exact hq) id, q2⟩
 cases e with
 | normal => exact ⟨hs'.df, main hq⟩
 | ret => exact ⟨hs'.df, main hq⟩
 | _ => exact hq.elim
theorem satM_nil {f : FuncId} {rest : List AV} {r : AV} (hpr : plainR r = true) (hpa : rest.all plainR1 = true) (h : Sat P f (.one (.c (.sl [])) :: rest) r) : SatM P f (.one (.m (.sl [])) :: rest) (.one (.m (.sl [])) :: rest) r := by
 refine ⟨h.1, hpr, fun w F us S hF hrep hnd hS => ?_⟩
 simp only [RepMVs, RepMV, RepMC] at hrep
 obtain ⟨u, us', S1, S2, rfl, rfl, hown, hrest⟩ := hrep
 obtain ⟨rfl, hrest'⟩ := plains_rest (lb := noLk) (g := g0) (F' := F) hpa hrest
 have hrd : Rd w F (.sl []) u := by
  have hown' := hown
  simp only [Own] at hown'
  simp only [Rd]
  rcases hown' with ⟨rfl, _, _⟩ | ⟨b, cap, cs, e, sz, S', rfl, hheap, hle, hcm, hcs, hpos, _, _⟩
  ·exact ⟨none, 0, 1, rfl, Nat.le_refl _, Nat.zero_le _, Nat.one_pos, fun _ => rfl, fun a ha => by cases ha⟩
  ·exact ⟨_, cap, sz, rfl, hle, hcm, hpos, fun h => (by cases h), fun a ha => by obtain rfl := Option.some.inj ha; exact ⟨fun _ => rfl, by simp only [RdRows]⟩⟩
 refine (h.2 w F (u :: us') hF ⟨u, us', rfl, by simpa only [RepAV, RepAC] using hrd, hrest'⟩).mono ?_
 rintro e w' ⟨v, F', rfl, hb, _, _, _, hr⟩
 rw [List.append_nil] at hnd hS ⊢
 refine ⟨v, S1, rfl, plainR_rep hpr hr, ⟨u, us', S1, [], rfl, by simp, Own.mono _ _ _ (fun b hb' => hb.block b (hS b hb').1) hown, rest_back hpa (plainRs_rep (w' := w') (F' := F) (lb' := noLk) (g' := g0) hpa hrest')⟩, hnd, fun b hb' => ⟨.inl hb', Nat.lt_of_lt_of_le (hS b hb').1 hb.size⟩, hb.os, hb.tape, hb.output, hb.size, fun k hk _ => hb.block k hk⟩
end Go.Ai
/- Owned values go from a token into a row's cell, and back. -/
namespace Go.Ai
open Go.RowKit
variable {w0 : World} {M0 : Ms} {F0 F F' : Fz} {g : Gh} {s : St} {a : Act} {w : World}
theorem Sim.two (h : Sim w0 M0 F0 F g s a w) {l T : Nat} (hne : l ≠ T) {B B' T' : LB} {vT : Value} {Sl ST : List Nat} (hl : s.lb l = some B) (old : Nat → Prop) (hold : ∀ b, old b → b ∈ g.ds l ∨ ∃ B0, s.lb T = some B0 ∧ b ∈ g.ds T)
  (hSl : ∀ b, b ∈ Sl → old b) (hST : ∀ b, b ∈ ST → old b) (nl : Sl.Nodup) (nT : ST.Nodup) (ndis : ∀ b, b ∈ Sl → b ∉ ST)
  (st : Stays w w F F') (hF : ∀ b o, F' b o → F b o ∨ old b)
  (K : Keeps s.lb g ((s.put l B').put T T').lb ((g.upd l (g.bl l) (g.hd l) Sl).upd T (g.bl T) vT ST))
  (rl : RepLB w F' ((s.put l B').put T T').lb ((g.upd l (g.bl l) (g.hd l) Sl).upd T (g.bl T) vT ST) l B')
  (rT : RepLB w F' ((s.put l B').put T T').lb ((g.upd l (g.bl l) (g.hd l) Sl).upd T (g.bl T) vT ST) T T')
  (ol : SoftOk F' ((g.upd l (g.bl l) (g.hd l) Sl).upd T (g.bl T) vT ST) l B') (oT : SoftOk F' ((g.upd l (g.bl l) (g.hd l) Sl).upd T (g.bl T) vT ST) T T') :
  Sim w0 M0 F0 F' ((g.upd l (g.bl l) (g.hd l) Sl).upd T (g.bl T) vT ST) ((s.put l B').put T T') a w := by
 have gne : ∀ k, k ≠ l → k ≠ T → ((g.upd l (g.bl l) (g.hd l) Sl).upd T (g.bl T) vT ST).bl k = g.bl k ∧ ((g.upd l (g.bl l) (g.hd l) Sl).upd T (g.bl T) vT ST).hd k = g.hd k ∧ ((g.upd l (g.bl l) (g.hd l) Sl).upd T (g.bl T) vT ST).ds k = g.ds k :=
  fun k h1 h2 => by simp [Gh.upd, h1, h2]
 have dl : ((g.upd l (g.bl l) (g.hd l) Sl).upd T (g.bl T) vT ST).ds l = Sl := by simp [Gh.upd, hne]
 have dT : ((g.upd l (g.bl l) (g.hd l) Sl).upd T (g.bl T) vT ST).ds T = ST := by simp [Gh.upd]
 have at_ : ∀ k Bk, k ≠ l → k ≠ T → ((s.put l B').put T T').lb k = some Bk → s.lb k = some Bk := fun k Bk h1 h2 hB => by simpa [St.put_lb, h1, h2] using hB
 have at_l : ∀ Bk, ((s.put l B').put T T').lb l = some Bk → Bk = B' := fun Bk hB => by simpa [St.put_lb, hne, eq_comm] using hB
 have at_T : ∀ Bk, ((s.put l B').put T T').lb T = some Bk → Bk = T' := fun Bk hB => by simpa [St.put_lb, eq_comm] using hB
 have oth : ∀ k Bk, k ≠ l → k ≠ T → s.lb k = some Bk → ∀ b, b ∈ g.ds k → ¬ old b := fun k Bk h1 h2 hB b hb ho => by
  rcases hold b ho with hq | ⟨B0, hB0, hq⟩
  ·exact h.dj k l Bk B h1 hB hl b hb hq
  ·exact h.dj k T Bk B0 h2 hB hB0 b hb hq
 have onw : ∀ b, old b → (w0.heap.size ≤ b ∨ b ∈ M0) ∧ b < w.heap.size := fun b ho => by
  rcases hold b ho with hq | ⟨B0, hB0, hq⟩
  ·exact h.nw l B hl b hq
  ·exact h.nw T B0 hB0 b hq
 exact {
  sz := h.sz
  df := h.df
  sl := fun i => RepAV.mono st K _ _ (h.sl i)
  gh := RepAVs.mono st K _ _ h.gh
  lb := fun k Bk hB => by
   by_cases e : k = l
   ·subst e; rw [at_l Bk hB]; exact rl
   ·by_cases e' : k = T
    ·subst e'; rw [at_T Bk hB]; exact rT
    ·exact RepLB.mono st K (gne k e e').1 (gne k e e').2.1 (gne k e e').2.2 (fun _ _ => rfl) (h.lb k Bk (at_ k Bk e e' hB))
  so := fun k Bk hB => by
   by_cases e : k = l
   ·subst e; rw [at_l Bk hB]; exact ol
   ·by_cases e' : k = T
    ·subst e'; rw [at_T Bk hB]; exact oT
    ·have hB0 := at_ k Bk e e' hB
     have hso := h.so k Bk hB0
     have hlb := h.lb k Bk hB0
     have ho := oth k Bk e e' hB0
     obtain ⟨g1, g2, g3⟩ := gne k e e'
     cases Bk with
     | var cells =>
      obtain ⟨_, _, _, _, hd⟩ := hlb
      simp only [SoftOk] at hso ⊢
      rw [g1]
      intro o hf
      rcases hF _ o hf with hq | hq
      ·exact hso o hq
      ·exact ho _ (by rw [hd]; simp) hq
     | arr e1 sz1 rows1 fz1 =>
      obtain ⟨_, _, _, _, _, _, hd⟩ := hlb
      simp only [SoftOk] at hso ⊢
      rw [g2, g3]
      refine ⟨fun b hb o hc hf => ?_, fun hz hn b hb o hf => ?_⟩
      ·rcases hF _ o hf with hq | hq
       ·exact hso.1 b hb o hc hq
       ·exact ho b (by rw [hd]; simp [hb]) hq
      ·rcases hF _ o hf with hq | hq
       ·exact hso.2 hz hn b hb o hq
       ·exact ho b hb hq
     | tok x =>
      simp only [SoftOk] at hso ⊢
      rw [g3]
      intro b hb o hf
      rcases hF _ o hf with hq | hq
      ·exact hso b hb o hq
      ·exact ho b hb hq
     | dead => trivial
  nd := fun k Bk hB => by
   by_cases e : k = l
   ·subst e; rw [dl]; exact nl
   ·by_cases e' : k = T
    ·subst e'; rw [dT]; exact nT
    ·rw [(gne k e e').2.2]; exact h.nd k Bk (at_ k Bk e e' hB)
  dj := fun k k' Bk Bk' hkk hB hB' b hb hb' => by
   by_cases e : k = l
   ·subst e
    rw [dl] at hb
    by_cases e' : k' = T
    ·subst e'; rw [dT] at hb'; exact ndis b hb hb'
    ·rw [(gne k' (Ne.symm hkk) e').2.2] at hb'
     exact oth k' Bk' (Ne.symm hkk) e' (at_ k' Bk' (Ne.symm hkk) e' hB') b hb' (hSl b hb)
   ·by_cases e1 : k = T
    ·subst e1
     rw [dT] at hb
     by_cases e' : k' = l
     ·subst e'; rw [dl] at hb'; exact ndis b hb' hb
     ·rw [(gne k' e' (Ne.symm hkk)).2.2] at hb'
      exact oth k' Bk' e' (Ne.symm hkk) (at_ k' Bk' e' (Ne.symm hkk) hB') b hb' (hST b hb)
    ·rw [(gne k e e1).2.2] at hb
     have hB0 := at_ k Bk e e1 hB
     by_cases e2 : k' = l
     ·subst e2; rw [dl] at hb'; exact oth k Bk e e1 hB0 b hb (hSl b hb')
     ·by_cases e3 : k' = T
      ·subst e3; rw [dT] at hb'; exact oth k Bk e e1 hB0 b hb (hST b hb')
      ·rw [(gne k' e2 e3).2.2] at hb'
       exact h.dj k k' Bk Bk' hkk hB0 (at_ k' Bk' e2 e3 hB') b hb hb'
  nw := fun k Bk hB b hb => by
   by_cases e : k = l
   ·subst e; rw [dl] at hb; exact onw b (hSl b hb)
   ·by_cases e' : k = T
    ·subst e'; rw [dT] at hb; exact onw b (hST b hb)
    ·rw [(gne k e e').2.2] at hb; exact h.nw k Bk (at_ k Bk e e' hB) b hb
  f0 := fun b o hb => st.up b o (h.f0 b o hb)
  f1 := fun b o hb => (hF b o hb).elim (h.f1 b o) (fun hq => .inr (onw b hq).1)
  f2 := fun b o hb => (hF b o hb).elim (h.f2 b o) (fun hq => (onw b hq).2)
  tb := h.tb
  os := h.os
  tape := h.tape
  output := h.output
  size := h.size
  block := h.block }
theorem RepCells.at {lb : Lk} {g : Gh} {rows : List (List AC)} {i c : Nat} {x : AC} {xs : List Value} {S : List Nat} (hi : i < rows.length) (hc : (rows.getD i [])[c]? = some x) (h : RepCells w F lb g rows.flatten xs S) :
  ∃ u SA Si SB, S = SA ++ (Si ++ SB) ∧ RepCell w F lb g x u Si ∧ ∀ {F' : Fz} {lb' : Lk} {g' : Gh} (x' : AC) (Si' : List Nat), Stays w w F F' → Keeps lb g lb' g' → RepCell w F' lb' g' x' u Si' → RepCells w F' lb' g' (rows.set i ((rows.getD i []).set c x')).flatten xs (SA ++ (Si' ++ SB)) := by
 obtain ⟨f1, _⟩ := flatten_set rows i [] hi
 have hcl := (List.getElem?_eq_some_iff.1 hc).1
 have hcx := (List.getElem?_eq_some_iff.1 hc).2
 have hrow : rows.getD i [] = (rows.getD i []).take c ++ ([x] ++ (rows.getD i []).drop (c + 1)) := by
  have h1 := List.drop_eq_getElem_cons hcl
  rw [hcx] at h1
  rw [List.singleton_append, ← h1, List.take_append_drop]
 rw [f1, hrow] at h
 obtain ⟨uA, uR, SA, SR, rfl, rfl, cA, cR⟩ := RepCells.append_inv _ _ _ _ h
 obtain ⟨uM, uB, SM, SB, rfl, rfl, cM, cB⟩ := RepCells.append_inv _ _ _ _ cR
 obtain ⟨u1, u2, T1, T2, rfl, rfl, c1, c2⟩ := RepCells.append_inv _ _ _ _ cM
 obtain ⟨u3, u4, T3, T4, rfl, rfl, c3, c4⟩ := RepCells.append_inv _ _ _ _ c2
 simp only [RepCells] at c3
 obtain ⟨u, us', T5, T6, rfl, rfl, hx, rfl, rfl⟩ := c3
 refine ⟨u, SA ++ T1, T5, T4 ++ SB, by simp, hx, fun {F'} {lb'} {g'} x' Si' st K hx' => ?_⟩
 have key : (rows.set i ((rows.getD i []).set c x')).flatten = (rows.take i).flatten ++ (((rows.getD i []).take c ++ ([x'] ++ (rows.getD i []).drop (c + 1))) ++ (rows.drop (i + 1)).flatten) := by
  rw [(flatten_set rows i ((rows.getD i []).set c x') hi).2, List.set_eq_take_append_cons_drop, if_pos hcl]
  rfl
 rw [key]
 have m := fun {as us S} (h : RepCells w F lb g as us S) => RepCells.mono (w' := w) st K as us S (fun _ _ => rfl) h
 have h3 : RepCells w F' lb' g' [x'] [u] Si' := ⟨u, [], Si', [], rfl, by simp, hx', rfl, rfl⟩
 have := RepCells.append _ _ _ _ _ _ (m cA) (RepCells.append _ _ _ _ _ _ (RepCells.append _ _ _ _ _ _ (m c1) (RepCells.append _ _ _ _ _ _ h3 (m c4))) (m cB))
 simpa [List.append_assoc] using this
theorem set_lens {rows : List (List AC)} {sz i c : Nat} {x : AC} (h : ∀ r, r ∈ rows → r.length = sz) (hi : i < rows.length) : ∀ r, r ∈ rows.set i ((rows.getD i []).set c x) → r.length = sz := by
 intro r hr
 rcases List.mem_or_eq_of_mem_set hr with hr | rfl
 ·exact h r hr
 ·rw [List.length_set]
  refine h _ ?_
  rw [List.getD_eq_getElem?_getD, List.getElem?_eq_getElem hi]
  exact List.getElem_mem hi
theorem Sim.takeCell (h : Sim w0 M0 F0 F g s a w) {l : Nat} {e : TypeId} {sz : Nat} {rows : List (List AC)} {i c T : Nat} {x : C} (hl : s.lb l = some (.arr e sz rows false)) (hi : i < rows.length) (hc : (rows.getD i [])[c]? = some (.m x)) (hT : s.lb T = none)
  (hn : noD rows = true) : ∃ g', Sim w0 M0 F0 F g' ((s.put l (.arr e sz (rows.set i ((rows.getD i []).set c (.tk T 0))) false)).put T (.tok [some x])) a w := by
 have hne : l ≠ T := fun e => by rw [← e, hl] at hT; cases hT
 have hun : ∀ b, b ∈ g.ds l → ∀ o, ¬ F b o := (h.so l _ hl).2 rfl hn
 obtain ⟨hsz, hrl, xs, S, hown, hcells, hds⟩ := h.lb l _ hl
 obtain ⟨u, SA, Si, SB, rfl, hx, hput⟩ := RepCells.at hi hc hcells
 have hx : Own w x u Si := hx
 have hnd := h.nd l _ hl
 rw [hds] at hnd
 have hnd0 := hnd
 simp only [List.nodup_append] at hnd
 obtain ⟨n1, ⟨n2, ⟨n3, n4, n5⟩, n6⟩, n7⟩ := hnd
 have K : Keeps s.lb g ((s.put l (.arr e sz (rows.set i ((rows.getD i []).set c (.tk T 0))) false)).put T (.tok [some x])).lb ((g.upd l (g.bl l) (g.hd l) (blkOf (g.hd l) ++ (SA ++ ([] ++ SB)))).upd T (g.bl T) (.agg [u].toArray) Si) := by
  constructor
  intro k Bk hB
  by_cases e1 : k = T
  ·subst e1; rw [hT] at hB; cases hB
  ·by_cases e2 : k = l
   ·subst e2
    rw [hl] at hB
    obtain rfl := Option.some.inj hB
    refine ⟨.arr e sz (rows.set i ((rows.getD i []).set c (.tk T 0))) false, by simp only [St.put_lb, if_neg e1, if_true], ?_⟩
    simp only [Gh.upd, if_neg e1, if_true, okOwnB, okEpB, List.length_set]
    exact ⟨fun _ _ h => h, fun _ _ h => h, fun _ _ _ _ h => h, fun _ _ h => h⟩
   ·refine ⟨Bk, by simp [St.put_lb, e1, e2, hB], ?_⟩
    simp only [Gh.upd, if_neg e1, if_neg e2]
    exact ⟨fun _ _ h => h, fun _ _ h => h, fun _ _ _ _ h => h, fun _ _ h => h⟩
 refine ⟨_, h.two hne (vT := .agg [u].toArray) (Sl := blkOf (g.hd l) ++ (SA ++ ([] ++ SB))) (ST := Si) hl (fun b => b ∈ g.ds l) (fun b hb => .inl hb) ?_ ?_ ?_ n3 ?_ (Stays.refl _ _) (fun b o hb => .inl hb) K ?_ ?_ ?_ ?_⟩
 ·intro b hb; rw [hds]; simp only [List.mem_append, List.nil_append] at hb ⊢; rcases hb with hb | hb | hb <;> simp [hb]
 ·intro b hb; rw [hds]; simp [hb]
 ·rw [List.nil_append]
  simp only [List.nodup_append]
  exact ⟨n1, ⟨n2, n4, fun x hx y hy => n6 x hx y (by simp [hy])⟩, fun x hx y hy => n7 x hx y (by simp only [List.mem_append] at hy ⊢; rcases hy with hy | hy <;> simp [hy])⟩
 ·intro b hb hb'
  simp only [List.nil_append, List.mem_append] at hb
  rcases hb with hb | hb | hb
  ·exact n7 b hb b (by simp [hb']) rfl
  ·exact n6 b hb b (by simp [hb']) rfl
  ·exact n5 b hb' b hb rfl
 ·refine ⟨hsz, set_lens hrl hi, xs, SA ++ ([] ++ SB), ?_, hput (.tk T 0) [] (Stays.refl _ _) K ⟨?_, rfl⟩, by simp [Gh.upd, hne]⟩
  ·simpa [Gh.upd, hne] using hown
  ·simp only [RepAC]
   exact ⟨Own.one hx, .tok [some x], by simp only [St.put_lb, if_true], [u], by simp [Gh.upd], rfl⟩
 ·exact ⟨[u], by simp [Gh.upd], u, [], Si, [], rfl, by simp [Gh.upd], hx, rfl, rfl⟩
 ·have hso := (h.so l _ hl).1
  refine ⟨by simpa [Gh.upd, hne] using hso, fun _ _ b hb o => hun b ?_ o⟩
  rw [hds]
  simp [Gh.upd, hne] at hb
  simp only [List.mem_append]
  rcases hb with hb | hb | hb <;> simp [hb]
 ·simp only [SoftOk, Gh.upd, if_true]
  exact fun b hb o => hun b (by rw [hds]; simp [hb]) o
end Go.Ai
