/- Functions that write what they are given: their contracts, from their code; owned values in rows are taken out and put back. -/
import Derived.Test.YtmddjojbaompiaaGreatAiOut
set_option linter.unusedVariables false
set_option linter.unusedSimpArgs false
namespace Go.Ai
open Go.RowKit
variable {P : Program} {tab : Tab}
def entCs (T : Nat) : Nat → List AC → List AC
 | _, [] => []
 | j, .m _ :: as => .tk T j :: entCs T (j + 1) as
 | j, a :: as => a :: entCs T j as
def hoCs : List AC → List (Option C)
 | [] => []
 | .m x :: as => some x :: hoCs as
 | _ :: as => hoCs as
def entV (T j : Nat) : AV → AV
 | .one (.m _) => .one (.tk T j)
 | .agg as => .agg (entCs T j as)
 | v => v
def hoV : AV → List (Option C)
 | .one (.m x) => [some x]
 | .agg as => hoCs as
 | _ => []
def entVs (T : Nat) : Nat → List AV → List AV
 | _, [] => []
 | j, v :: vs => entV T j v :: entVs T (j + (hoV v).length) vs
def hoVs : List AV → List (Option C)
 | [] => []
 | v :: vs => hoV v ++ hoVs vs
def plainMC : AC → Bool
 | .m _ => true
 | a => plainA a
def plainMV : AV → Bool
 | .one a => plainMC a
 | .agg as => as.all plainMC
 | _ => false
section
variable {w w' : World} {F F' : Fz} {T : Nat} {X : List (Option C)}
theorem noLk_rep {lb : Lk} {g : Gh} {a : AC} {u : Value} (h : RepAC w F noLk g0 a u) : RepAC w F lb g a u := RepAC.mono (Stays.refl w F) ⟨fun l B hl => by simp [noLk] at hl⟩ _ _ h
variable {lb : Lk} {g : Gh} {HS : List Value}
theorem OwnTs.append_inv {w : World} : ∀ {os os' : List (Option C)} {us : List Value} {S : List Nat}, OwnTs w (os ++ os') us S → ∃ u1 u2 S1 S2, us = u1 ++ u2 ∧ S = S1 ++ S2 ∧ u1.length = os.length ∧ OwnTs w os u1 S1 ∧ OwnTs w os' u2 S2
 | [], os', us, S, h => ⟨[], us, [], S, rfl, rfl, rfl, ⟨rfl, rfl⟩, h⟩
 | o :: os, os', us, S, h => by
  simp only [List.cons_append, OwnTs] at h
  obtain ⟨u, us', S1, S2, rfl, rfl, h1, h2⟩ := h
  obtain ⟨u1, u2, T1, T2, rfl, rfl, k1, k2, k3⟩ := OwnTs.append_inv h2
  exact ⟨u :: u1, u2, S1 ++ T1, T2, rfl, by simp, by simp [k1], ⟨u, u1, S1, T1, rfl, rfl, h1, k2⟩, k3⟩
end
def retMS (tab : Tab) (rs : List ResultVar) (r : AV) (K : St → Prop) (s : St) : Prop :=
 match resVs tab s rs with
 | some (p, vs) => p ∧ joinR vs = r ∧ K s
 | none => False
def retMA (tab : Tab) (rs : List ResultVar) (r : AV) (K : St → Prop) : Exit → St → Prop
 | .normal, s => retMS tab rs r K s
 | .ret, s => retMS tab rs r K s
 | _, _ => False
theorem join_rep {w : World} {F : Fz} {lb : Lk} {g : Gh} {vs : List AV} {us : List Value} (h : RepAVs w F lb g vs us) : RepAV w F lb g (joinR vs) (joinU us) := by
 match vs, us, h with
 | [], us, h => simp only [RepAVs] at h; subst h; exact ⟨[], rfl, rfl⟩
 | [v], us, h =>
  simp only [RepAVs] at h
  obtain ⟨u, us', rfl, h1, rfl⟩ := h
  exact h1
 | v :: v' :: vs, us, h =>
  have h' := h
  simp only [RepAVs] at h
  obtain ⟨u, us', rfl, h1, u', us'', rfl, h2, h3⟩ := h
  exact ⟨_, rfl, h'⟩
def Turned (T : Nat) (X : List (Option C)) (G : List AV) (s : St) : Prop := s.lb T = some (.tok X) ∧ s.gh = G
end Go.Ai
/- Functions that write a slice they are given; owned values in rows, taken out and put back. -/
namespace Go.Ai
open Go.RowKit
variable {P : Program} {tab : Tab}
section
variable {w : World} {F : Fz} {lb : Lk} {g : Gh}
theorem mC_cell {c : C} {u : Value} {S : List Nat} (h : Own w c u S) : RepCell w F lb g (mC c) u S := by
 cases c with
 | v x =>
  simp only [Own] at h
  obtain ⟨h1, h2, rfl⟩ := h
  refine ⟨?_, rfl⟩
  show RepAC w F lb g (.c (.v x)) u
  simp only [RepAC, Rd]; exact ⟨h1, h2⟩
 | sl r => exact h
theorem mCs_cells : ∀ {cs : List C} {us : List Value} {S : List Nat}, OwnCells w cs us S → RepCells w F lb g (cs.map mC) us S
 | [], us, S, h => by simp only [OwnCells] at h; exact h
 | c :: cs, us, S, h => by
  simp only [OwnCells] at h
  obtain ⟨u, us', S1, S2, rfl, rfl, h1, h2⟩ := h
  exact ⟨u, us', S1, S2, rfl, rfl, mC_cell h1, mCs_cells h2⟩
theorem mCr_cells {sz : Nat} : ∀ {rows : List (List C)} {us : List Value} {S : List Nat}, OwnRows w sz rows us S → RepCells w F lb g (rows.map fun r => r.map mC).flatten us S
 | [], us, S, h => by simp only [OwnRows] at h; exact h
 | r :: rows, us, S, h => by
  simp only [OwnRows] at h
  obtain ⟨u1, u2, S1, S2, rfl, rfl, _, h1, h2⟩ := h
  rw [List.map_cons, List.flatten_cons]
  exact RepCells.append _ _ _ _ _ _ (mCs_cells h1) (mCr_cells h2)
theorem ownRows_sz {sz : Nat} : ∀ {rows : List (List C)} {us : List Value} {S : List Nat}, OwnRows w sz rows us S → ∀ r, r ∈ rows → r.length = sz
 | [], _, _, _, _, hr => by cases hr
 | r :: rows, us, S, h, q, hq => by
  simp only [OwnRows] at h
  obtain ⟨u1, u2, S1, S2, rfl, rfl, h0, h1, h2⟩ := h
  rcases List.mem_cons.1 hq with rfl | hq
  ·exact h0
  ·exact ownRows_sz h2 q hq
theorem plains_rest {F' : Fz} : ∀ {vs : List AV} {us : List Value} {S : List Nat}, vs.all plainR1 = true → RepMVs w F vs us S → S = [] ∧ RepAVs w F lb g vs us
 | [], us, S, _, h => by simp only [RepMVs] at h; exact ⟨h.2, h.1⟩
 | v :: vs, us, S, hp, h => by
  simp only [List.all_cons, Bool.and_eq_true] at hp
  simp only [RepMVs] at h
  obtain ⟨u, us', S1, S2, rfl, rfl, h1, h2⟩ := h
  obtain ⟨k1, k2⟩ := plains_rest (F' := F') hp.2 h2
  have : S1 = [] ∧ RepAV w F lb g v u := by
   cases v with
   | one a =>
    simp only [RepMV] at h1
    cases a <;> first | exact ⟨h1.2, by simp only [RepAV]; exact noLk_rep h1.1⟩ | exact absurd hp.1 (by simp [plainR1, plainA])
   | agg as =>
    obtain ⟨ws, rfl, h1⟩ := h1
    have : ∀ (as : List AC) (ws : List Value) (S : List Nat), as.all plainA = true → RepMCs w F as ws S → S = [] ∧ RepACs w F lb g as ws := by
     intro as
     induction as with
     | nil => intro ws S _ h; simp only [RepMCs] at h; exact ⟨h.2, h.1⟩
     | cons a as ih =>
      intro ws S hp h
      simp only [List.all_cons, Bool.and_eq_true] at hp
      simp only [RepMCs] at h
      obtain ⟨u, us', S1, S2, rfl, rfl, h1, h2⟩ := h
      obtain ⟨k1, k2⟩ := ih _ _ hp.2 h2
      cases a <;> first | (obtain ⟨h1, rfl⟩ := h1; exact ⟨by simp [k1], _, _, rfl, noLk_rep h1, k2⟩) | exact absurd hp.1 (by simp [plainA])
    obtain ⟨j1, j2⟩ := this as ws S1 hp.1 h1
    exact ⟨j1, by simp only [RepAV]; exact ⟨ws, rfl, j2⟩⟩
   | tup vs => exact h1.elim
   | any => exact h1.elim
  exact ⟨by simp [this.1, k1], u, us', rfl, this.2, k2⟩
theorem rest_back {F' : Fz} : ∀ {vs : List AV} {us : List Value}, vs.all plainR1 = true → RepAVs w F' lb g vs us → RepMVs w F vs us []
 | [], us, _, h => by simp only [RepAVs] at h; exact ⟨h, rfl⟩
 | v :: vs, us, hp, h => by
  simp only [List.all_cons, Bool.and_eq_true] at hp
  simp only [RepAVs] at h
  obtain ⟨u, us', rfl, h1, h2⟩ := h
  refine ⟨u, us', [], [], rfl, rfl, ?_, rest_back hp.2 h2⟩
  have h3 : RepAV w F noLk g0 v u := plainR1_rep hp.1 h1
  cases v with
  | one a =>
   simp only [RepAV] at h3
   cases a <;> first | exact ⟨h3, rfl⟩ | exact absurd hp.1 (by simp [plainR1, plainA])
  | agg as =>
   simp only [RepAV] at h3
   obtain ⟨ws, rfl, h3⟩ := h3
   refine ⟨ws, rfl, ?_⟩
   have : ∀ (as : List AC) (ws : List Value), as.all plainA = true → RepACs w F noLk g0 as ws → RepMCs w F as ws [] := by
    intro as
    induction as with
    | nil => intro ws _ h; simp only [RepACs] at h; exact ⟨h, rfl⟩
    | cons a as ih =>
     intro ws hp h
     simp only [List.all_cons, Bool.and_eq_true] at hp
     simp only [RepACs] at h
     obtain ⟨u, us', rfl, h1, h2⟩ := h
     refine ⟨u, us', [], [], rfl, rfl, ?_, ih _ hp.2 h2⟩
     cases a <;> first | exact ⟨h1, rfl⟩ | exact absurd hp.1 (by simp [plainA])
   exact this as ws hp.1 h3
  | tup vs => exact absurd hp.1 (by simp [plainR1])
  | any => exact absurd hp.1 (by simp [plainR1])
end
def TurnedRow (L n : Nat) (rows' : List (List C)) (s : St) : Prop :=
 match s.lb L with
 | some (.arr _ _ R _) => n = R.length ∧ (∀ r, r ∈ R → ∀ x, x ∈ r → isO x = true) ∧ (R.map fun r => r.map toC) = rows' ∧ s.gh = [.one (.own L n)]
 | _ => False
theorem satM_slice (L sz : Nat) (hT : TabOk P tab) (hm : P.follows .mixedOrders = true) {f : FuncId} {fn : Func} {c : Code} {rows rows' : List (List C)} {rest : List AV} {r : AV} {rs : List ResultVar} {n : Nat} (hf : P.funcs[f]? = some fn) (hb : fn.body = some c) (hr : fn.results.toList = rs) (hn : fn.ntmps = n) (hname : fn.name ≠ "runtime.NumGoroutine")
  (hok : okCode c = true) (hlen : rest.length + 1 ≤ n) (hpr : plainR r = true) (hpa : rest.all plainR1 = true) (hne : rows ≠ []) (hsz : ∀ q, q ∈ rows → q.length = sz)
  (h : ∀ e, codeK P tab c (retMA tab rs r (TurnedRow L rows.length rows')) (mk n (enumA 0 (.one (.own L rows.length) :: rest)) [(L, .arr e sz (rows.map fun q => q.map mC) false)] [.one (.own L rows.length)])) :
  SatM P f (.one (.m (.sl rows)) :: rest) (.one (.m (.sl rows')) :: rest) r := by
 subst hr hn
 refine ⟨⟨fn, hf, hname, by rw [hb]; simp⟩, hpr, fun w F us S hF hrep hnd hS => ?_⟩
 simp only [RepMVs, RepMV, RepMC] at hrep
 obtain ⟨u, us', S1, S2, rfl, rfl, hown, hrest⟩ := hrep
 have hown0 := hown
 simp only [Own] at hown
 rcases hown with ⟨_, hq, _⟩ | ⟨b, cap, cs, e, sz', S', hu, hheap, hle, hcm, hcs, hpos, rfl, hrows⟩
 ·exact absurd hq hne
 have hszz : sz' = sz := by
  cases rows with
  | nil => exact absurd rfl hne
  | cons q rows => rw [← ownRows_sz hrows q (by simp), hsz q (by simp)]
 subst hszz
 let g1 : Gh := ⟨fun _ => 0, fun _ => u, fun _ => b :: S'⟩
 have one : ∀ l B, lookB [(L, LB.arr e sz' (rows.map fun q => q.map mC) false)] l = some B → l = L ∧ B = .arr e sz' (rows.map fun q => q.map mC) false := by
  intro l B hl
  simp only [lookB] at hl
  split at hl
  ·exact ⟨‹_›, (Option.some.inj hl).symm⟩
  ·cases hl
 obtain ⟨rfl, hrest'⟩ := plains_rest (lb := lookB [(L, LB.arr e sz' (rows.map fun q => q.map mC) false)]) (g := g1) (F' := F) hpa hrest
 rw [List.append_nil] at hnd hS
 have hhd : RepAV w F (lookB [(L, LB.arr e sz' (rows.map fun q => q.map mC) false)]) g1 (.one (.own L rows.length)) u := by
  simp only [RepAV, RepAC]
  exact ⟨hown0.one, _, by simp [lookB]; rfl, by simp [okOwnB, g1]⟩
 have hA : RepAVs w F (lookB [(L, LB.arr e sz' (rows.map fun q => q.map mC) false)]) g1 (.one (.own L rows.length) :: rest) (u :: us') := ⟨u, us', rfl, hhd, hrest'⟩
 have hsim : Sim w ⟨b :: S', [u]⟩ F F g1 (mk fn.ntmps (enumA 0 (.one (.own L rows.length) :: rest)) [(L, .arr e sz' (rows.map fun q => q.map mC) false)] [.one (.own L rows.length)]) { tmps := (u :: us').toArray ++ Array.replicate (fn.ntmps - (u :: us').toArray.size) undef, defers := [] } w := {
  sz := by
   have := RepAVs.len _ _ hrest'
   simp only [mk_n, Array.size_append, List.size_toArray, Array.size_replicate, List.length_cons]
   omega
  df := rfl
  sl := fun i => by
   have e : (u :: us').toArray ++ Array.replicate (fn.ntmps - (u :: us').toArray.size) undef = ((u :: us') ++ List.replicate (fn.ntmps - (u :: us').length) undef).toArray := by simp
   simp only [mk_sl, mk_lb, e, getD_toArray]
   rcases enumA_rep (.one (.own L rows.length) :: rest) (u :: us') 0 i (List.replicate (fn.ntmps - (u :: us').length) undef) hA with h | ⟨_, _, h⟩
   ·rw [h]; simp only [RepAV]
   ·exact h
  gh := ⟨u, [], rfl, hhd, rfl⟩
  lb := fun l B hl => by
   obtain ⟨rfl, rfl⟩ := one l B hl
   refine ⟨hpos, fun q hq => ?_, cs.toList.take (rows.length * sz'), S', ?_, mCr_cells hrows, by simp [g1, hu, blkOf, Value.ownBlock]⟩
   ·obtain ⟨q', hq', rfl⟩ := List.mem_map.1 hq
    rw [List.length_map]; exact hsz q' hq'
   ·have hmul : rows.length * sz' ≤ cap * sz' := Nat.mul_le_mul_right _ hle
    have hlen2 : (cs.toList.take (rows.length * sz')).length = (rows.map fun q => q.map mC).length * sz' := by
     have : cs.toList.length = cap * sz' := by simpa using hcs
     rw [List.length_take, List.length_map]
     omega
    refine ⟨hlen2, .inr ⟨b, cap, cs, by simp [g1, hu], Nat.zero_le _, hheap, by simpa using hle, hcm, hcs, by simp⟩⟩
  so := fun l B hl => by
   obtain ⟨rfl, rfl⟩ := one l B hl
   simp only [SoftOk]
   refine ⟨fun b' hb' o _ => (hS b' ?_).2 o, fun _ _ b' hb' o => (hS b' hb').2 o⟩
   simp [g1, hu, blkOf, Value.ownBlock] at hb'
   simp [hb']
  nd := fun l B hl => hnd
  dj := fun l l' B B' hne hl hl' => by
   obtain ⟨rfl, _⟩ := one l B hl
   obtain ⟨rfl, _⟩ := one l' B' hl'
   exact absurd rfl hne
  nw := fun l B hl b' hb => ⟨.inr hb, (hS b' hb).1⟩
  f0 := fun _ _ h => h
  f1 := fun _ _ h => .inl h
  f2 := hF.lt
  tb := hF.tb.start (fun b hb => (hS b hb).2)
  os := rfl
  tape := rfl
  output := rfl
  size := Nat.le_refl _
  block := fun _ _ _ => rfl }
 refine calls_of_wp hf hb (wp_mono (codeK_sound hT hm c _ _ hok (h e) w ⟨b :: S', [u]⟩ F _ w ⟨F, g1, hsim⟩) ?_)
 rintro e a' w' ⟨s', hq, F1, g2, hs'⟩
 have main : retMS tab fn.results.toList r (TurnedRow L rows.length rows') s' → ∃ v, (results fn a'.tmps).run P w' = .ok v w' ∧ ∃ v' S'', Ending.returned v = .returned v' ∧ RepAV w' F noLk g0 r v' ∧ RepMVs w' F (.one (.m (.sl rows')) :: rest) (u :: us') S'' ∧ S''.Nodup ∧ (∀ b', b' ∈ S'' → (b' ∈ (b :: S') ++ [] ∨ w.heap.size ≤ b') ∧ b' < w'.heap.size) ∧
   w'.os = w.os ∧ w'.tape = w.tape ∧ w'.output = w.output ∧ w.heap.size ≤ w'.heap.size ∧ ∀ k, k < w.heap.size → k ∉ (b :: S') ++ [] → w'.heap[k]? = w.heap[k]? := by
  intro hq
  unfold retMS at hq
  split at hq
  case h_2 => exact hq.elim
  rename_i p vs ho
  obtain ⟨hp, rfl, hK⟩ := hq
  unfold TurnedRow at hK
  split at hK
  case h_2 => exact hK.elim
  rename_i e2 sz2 R fz2 hl
  obtain ⟨hnR, hO, rfl, hgh⟩ := hK
  obtain ⟨us2, hrun, hargs'⟩ := results_run hT hs' rfl ho hp
  have hg := hs'.gh
  rw [hgh] at hg
  simp only [RepAVs, RepAV] at hg
  obtain ⟨u', us3, e4, hg, _⟩ := hg
  obtain ⟨rfl, _⟩ := List.cons.inj e4
  have hown' := bare_own (hs'.lb L _ hl) hl hnR hO hg
  refine ⟨_, hrun, _, g2.ds L, rfl, plainR_rep hpr (join_rep hargs'), ⟨u, us', g2.ds L, [], rfl, by simp, hown', rest_back hpa (plainRs_rep (w' := w') (F' := F) (lb' := noLk) (g' := g0) hpa hrest')⟩, hs'.nd L _ hl, fun b' hb => ?_, hs'.os, hs'.tape, hs'.output, hs'.size, fun k hk hk' => hs'.block k hk (fun hq => hk' (by rw [List.append_nil]; exact hq))⟩
  obtain ⟨q1, q2⟩ := hs'.nw L _ hl b' hb
  exact ⟨q1.symm.imp (fun hq => by rw [List.append_nil]; exact hq) id, q2⟩
 cases e with
 | normal => exact ⟨hs'.df, main hq⟩
 | ret => exact ⟨hs'.df, main hq⟩
 | _ => exact hq.elim
theorem satM_nil {f : FuncId} {rest : List AV} {r : AV} (hpr : plainR r = true) (hpa : rest.all plainR1 = true) (h : Sat P f (.one (.c (.sl [])) :: rest) r) : SatM P f (.one (.m (.sl [])) :: rest) (.one (.m (.sl [])) :: rest) r := by
 refine ⟨h.1, hpr, fun w F us S hF hrep hnd hS => ?_⟩
 simp only [RepMVs, RepMV, RepMC] at hrep
 obtain ⟨u, us', S1, S2, rfl, rfl, hown, hrest⟩ := hrep
 obtain ⟨rfl, hrest'⟩ := plains_rest (lb := noLk) (g := g0) (F' := F) hpa hrest
 have hrd : Rd w F (.sl []) u := by
  have hown' := hown
  simp only [Own] at hown'
  simp only [Rd]
  rcases hown' with ⟨rfl, _, _⟩ | ⟨b, cap, cs, e, sz, S', rfl, hheap, hle, hcm, hcs, hpos, _, _⟩
  ·exact ⟨none, 0, 1, rfl, Nat.le_refl _, Nat.zero_le _, Nat.one_pos, fun _ => rfl, fun a ha => by cases ha⟩
  ·exact ⟨_, cap, sz, rfl, hle, hcm, hpos, fun h => (by cases h), fun a ha => by obtain rfl := Option.some.inj ha; exact ⟨fun _ => rfl, by simp only [RdRows]⟩⟩
 refine (h.2 w F (u :: us') hF ⟨u, us', rfl, by simpa only [RepAV, RepAC] using hrd, hrest'⟩).mono ?_
 rintro e w' ⟨v, F', rfl, hb, _, _, _, hr⟩
 rw [List.append_nil] at hnd hS ⊢
 refine ⟨v, S1, rfl, plainR_rep hpr hr, ⟨u, us', S1, [], rfl, by simp, Own.mono _ _ _ (fun b hb' => hb.block b (hS b hb').1) hown, rest_back hpa (plainRs_rep (w' := w') (F' := F) (lb' := noLk) (g' := g0) hpa hrest')⟩, hnd, fun b hb' => ⟨.inl hb', Nat.lt_of_lt_of_le (hS b hb').1 hb.size⟩, hb.os, hb.tape, hb.output, hb.size, fun k hk _ => hb.block k hk⟩
end Go.Ai
/- Owned values go from a token into a row's cell, and back. -/
namespace Go.Ai
open Go.RowKit
variable {w0 : World} {M0 : Ms} {F0 F F' : Fz} {g : Gh} {s : St} {a : Act} {w : World}
theorem Sim.two (h : Sim w0 M0 F0 F g s a w) {l T : Nat} (hne : l ≠ T) {B B' T' : LB} {vT : Value} {Sl ST : List Nat} (hl : s.lb l = some B) (old : Nat → Prop) (hold : ∀ b, old b → b ∈ g.ds l ∨ ∃ B0, s.lb T = some B0 ∧ b ∈ g.ds T)
  (hSl : ∀ b, b ∈ Sl → old b) (hST : ∀ b, b ∈ ST → old b) (nl : Sl.Nodup) (nT : ST.Nodup) (ndis : ∀ b, b ∈ Sl → b ∉ ST)
  (st : Stays w w F F') (hF : ∀ b o, F' b o → F b o ∨ old b)
  (K : Keeps s.lb g ((s.put l B').put T T').lb ((g.upd l (g.bl l) (g.hd l) Sl).upd T (g.bl T) vT ST))
  (rl : RepLB w F' ((s.put l B').put T T').lb ((g.upd l (g.bl l) (g.hd l) Sl).upd T (g.bl T) vT ST) l B')
  (rT : RepLB w F' ((s.put l B').put T T').lb ((g.upd l (g.bl l) (g.hd l) Sl).upd T (g.bl T) vT ST) T T')
  (ol : SoftOk F' ((g.upd l (g.bl l) (g.hd l) Sl).upd T (g.bl T) vT ST) l B') (oT : SoftOk F' ((g.upd l (g.bl l) (g.hd l) Sl).upd T (g.bl T) vT ST) T T') :
  Sim w0 M0 F0 F' ((g.upd l (g.bl l) (g.hd l) Sl).upd T (g.bl T) vT ST) ((s.put l B').put T T') a w := by
 have gne : ∀ k, k ≠ l → k ≠ T → ((g.upd l (g.bl l) (g.hd l) Sl).upd T (g.bl T) vT ST).bl k = g.bl k ∧ ((g.upd l (g.bl l) (g.hd l) Sl).upd T (g.bl T) vT ST).hd k = g.hd k ∧ ((g.upd l (g.bl l) (g.hd l) Sl).upd T (g.bl T) vT ST).ds k = g.ds k :=
  fun k h1 h2 => by simp [Gh.upd, h1, h2]
 have dl : ((g.upd l (g.bl l) (g.hd l) Sl).upd T (g.bl T) vT ST).ds l = Sl := by simp [Gh.upd, hne]
 have dT : ((g.upd l (g.bl l) (g.hd l) Sl).upd T (g.bl T) vT ST).ds T = ST := by simp [Gh.upd]
 have at_ : ∀ k Bk, k ≠ l → k ≠ T → ((s.put l B').put T T').lb k = some Bk → s.lb k = some Bk := fun k Bk h1 h2 hB => by simpa [St.put_lb, h1, h2] using hB
 have at_l : ∀ Bk, ((s.put l B').put T T').lb l = some Bk → Bk = B' := fun Bk hB => by simpa [St.put_lb, hne, eq_comm] using hB
 have at_T : ∀ Bk, ((s.put l B').put T T').lb T = some Bk → Bk = T' := fun Bk hB => by simpa [St.put_lb, eq_comm] using hB
 have oth : ∀ k Bk, k ≠ l → k ≠ T → s.lb k = some Bk → ∀ b, b ∈ g.ds k → ¬ old b := fun k Bk h1 h2 hB b hb ho => by
  rcases hold b ho with hq | ⟨B0, hB0, hq⟩
  ·exact h.dj k l Bk B h1 hB hl b hb hq
  ·exact h.dj k T Bk B0 h2 hB hB0 b hb hq
 have onw : ∀ b, old b → (w0.heap.size ≤ b ∨ b ∈ M0) ∧ b < w.heap.size := fun b ho => by
  rcases hold b ho with hq | ⟨B0, hB0, hq⟩
  ·exact h.nw l B hl b hq
  ·exact h.nw T B0 hB0 b hq
 exact {
  sz := h.sz
  df := h.df
  sl := fun i => RepAV.mono st K _ _ (h.sl i)
  gh := RepAVs.mono st K _ _ h.gh
  lb := fun k Bk hB => by
   by_cases e : k = l
   ·subst e; rw [at_l Bk hB]; exact rl
   ·by_cases e' : k = T
    ·subst e'; rw [at_T Bk hB]; exact rT
    ·exact RepLB.mono st K (gne k e e').1 (gne k e e').2.1 (gne k e e').2.2 (fun _ _ => rfl) (h.lb k Bk (at_ k Bk e e' hB))
  so := fun k Bk hB => by
   by_cases e : k = l
   ·subst e; rw [at_l Bk hB]; exact ol
   ·by_cases e' : k = T
    ·subst e'; rw [at_T Bk hB]; exact oT
    ·have hB0 := at_ k Bk e e' hB
     have hso := h.so k Bk hB0
     have hlb := h.lb k Bk hB0
     have ho := oth k Bk e e' hB0
     obtain ⟨g1, g2, g3⟩ := gne k e e'
     cases Bk with
     | var cells =>
      obtain ⟨_, _, _, _, hd⟩ := hlb
      simp only [SoftOk] at hso ⊢
      rw [g1]
      intro o hf
      rcases hF _ o hf with hq | hq
      ·exact hso o hq
      ·exact ho _ (by rw [hd]; simp) hq
     | arr e1 sz1 rows1 fz1 =>
      obtain ⟨_, _, _, _, _, _, hd⟩ := hlb
      simp only [SoftOk] at hso ⊢
      rw [g2, g3]
      refine ⟨fun b hb o hc hf => ?_, fun hz hn b hb o hf => ?_⟩
      ·rcases hF _ o hf with hq | hq
       ·exact hso.1 b hb o hc hq
       ·exact ho b (by rw [hd]; simp [hb]) hq
      ·rcases hF _ o hf with hq | hq
       ·exact hso.2 hz hn b hb o hq
       ·exact ho b hb hq
     | tok x =>
      simp only [SoftOk] at hso ⊢
      rw [g3]
      intro b hb o hf
      rcases hF _ o hf with hq | hq
      ·exact hso b hb o hq
      ·exact ho b hb hq
     | dead => trivial
  nd := fun k Bk hB => by
   by_cases e : k = l
   ·subst e; rw [dl]; exact nl
   ·by_cases e' : k = T
    ·subst e'; rw [dT]; exact nT
    ·rw [(gne k e e').2.2]; exact h.nd k Bk (at_ k Bk e e' hB)
  dj := fun k k' Bk Bk' hkk hB hB' b hb hb' => by
   by_cases e : k = l
   ·subst e
    rw [dl] at hb
    by_cases e' : k' = T
    ·subst e'; rw [dT] at hb'; exact ndis b hb hb'
    ·rw [(gne k' (Ne.symm hkk) e').2.2] at hb'
     exact oth k' Bk' (Ne.symm hkk) e' (at_ k' Bk' (Ne.symm hkk) e' hB') b hb' (hSl b hb)
   ·by_cases e1 : k = T
    ·subst e1
     rw [dT] at hb
     by_cases e' : k' = l
     ·subst e'; rw [dl] at hb'; exact ndis b hb' hb
     ·rw [(gne k' e' (Ne.symm hkk)).2.2] at hb'
      exact oth k' Bk' e' (Ne.symm hkk) (at_ k' Bk' e' (Ne.symm hkk) hB') b hb' (hST b hb)
    ·rw [(gne k e e1).2.2] at hb
     have hB0 := at_ k Bk e e1 hB
     by_cases e2 : k' = l
     ·subst e2; rw [dl] at hb'; exact oth k Bk e e1 hB0 b hb (hSl b hb')
     ·by_cases e3 : k' = T
      ·subst e3; rw [dT] at hb'; exact oth k Bk e e1 hB0 b hb (hST b hb')
      ·rw [(gne k' e2 e3).2.2] at hb'
       exact h.dj k k' Bk Bk' hkk hB0 (at_ k' Bk' e2 e3 hB') b hb hb'
  nw := fun k Bk hB b hb => by
   by_cases e : k = l
   ·subst e; rw [dl] at hb; exact onw b (hSl b hb)
   ·by_cases e' : k = T
    ·subst e'; rw [dT] at hb; exact onw b (hST b hb)
    ·rw [(gne k e e').2.2] at hb; exact h.nw k Bk (at_ k Bk e e' hB) b hb
  f0 := fun b o hb => st.up b o (h.f0 b o hb)
  f1 := fun b o hb => (hF b o hb).elim (h.f1 b o) (fun hq => .inr (onw b hq).1)
  f2 := fun b o hb => (hF b o hb).elim (h.f2 b o) (fun hq => (onw b hq).2)
  tb := h.tb
  os := h.os
  tape := h.tape
  output := h.output
  size := h.size
  block := h.block }
theorem RepCells.at {lb : Lk} {g : Gh} {rows : List (List AC)} {i c : Nat} {x : AC} {xs : List Value} {S : List Nat} (hi : i < rows.length) (hc : (rows.getD i [])[c]? = some x) (h : RepCells w F lb g rows.flatten xs S) :
  ∃ u SA Si SB, S = SA ++ (Si ++ SB) ∧ RepCell w F lb g x u Si ∧ ∀ {F' : Fz} {lb' : Lk} {g' : Gh} (x' : AC) (Si' : List Nat), Stays w w F F' → Keeps lb g lb' g' → RepCell w F' lb' g' x' u Si' → RepCells w F' lb' g' (rows.set i ((rows.getD i []).set c x')).flatten xs (SA ++ (Si' ++ SB)) := by
 obtain ⟨f1, _⟩ := flatten_set rows i [] hi
 have hcl := (List.getElem?_eq_some_iff.1 hc).1
 have hcx := (List.getElem?_eq_some_iff.1 hc).2
 have hrow : rows.getD i [] = (rows.getD i []).take c ++ ([x] ++ (rows.getD i []).drop (c + 1)) := by
  have h1 := List.drop_eq_getElem_cons hcl
  rw [hcx] at h1
  rw [List.singleton_append, ← h1, List.take_append_drop]
 rw [f1, hrow] at h
 obtain ⟨uA, uR, SA, SR, rfl, rfl, cA, cR⟩ := RepCells.append_inv _ _ _ _ h
 obtain ⟨uM, uB, SM, SB, rfl, rfl, cM, cB⟩ := RepCells.append_inv _ _ _ _ cR
 obtain ⟨u1, u2, T1, T2, rfl, rfl, c1, c2⟩ := RepCells.append_inv _ _ _ _ cM
 obtain ⟨u3, u4, T3, T4, rfl, rfl, c3, c4⟩ := RepCells.append_inv _ _ _ _ c2
 simp only [RepCells] at c3
 obtain ⟨u, us', T5, T6, rfl, rfl, hx, rfl, rfl⟩ := c3
 refine ⟨u, SA ++ T1, T5, T4 ++ SB, by simp, hx, fun {F'} {lb'} {g'} x' Si' st K hx' => ?_⟩
 have key : (rows.set i ((rows.getD i []).set c x')).flatten = (rows.take i).flatten ++ (((rows.getD i []).take c ++ ([x'] ++ (rows.getD i []).drop (c + 1))) ++ (rows.drop (i + 1)).flatten) := by
  rw [(flatten_set rows i ((rows.getD i []).set c x') hi).2, List.set_eq_take_append_cons_drop, if_pos hcl]
  rfl
 rw [key]
 have m := fun {as us S} (h : RepCells w F lb g as us S) => RepCells.mono (w' := w) st K as us S (fun _ _ => rfl) h
 have h3 : RepCells w F' lb' g' [x'] [u] Si' := ⟨u, [], Si', [], rfl, by simp, hx', rfl, rfl⟩
 have := RepCells.append _ _ _ _ _ _ (m cA) (RepCells.append _ _ _ _ _ _ (RepCells.append _ _ _ _ _ _ (m c1) (RepCells.append _ _ _ _ _ _ h3 (m c4))) (m cB))
 simpa [List.append_assoc] using this
theorem set_lens {rows : List (List AC)} {sz i c : Nat} {x : AC} (h : ∀ r, r ∈ rows → r.length = sz) (hi : i < rows.length) : ∀ r, r ∈ rows.set i ((rows.getD i []).set c x) → r.length = sz := by
 intro r hr
 rcases List.mem_or_eq_of_mem_set hr with hr | rfl
 ·exact h r hr
 ·rw [List.length_set]
  refine h _ ?_
  rw [List.getD_eq_getElem?_getD, List.getElem?_eq_getElem hi]
  exact List.getElem_mem hi
end Go.Ai
