/- Functions that write a slice they are given; owned values in rows, taken out and put back. -/
import Derived.Test.YtdjleacnjijbjaaAiWrite
namespace Go.Ai
set_option linter.unusedVariables false
set_option linter.unusedSimpArgs false
open Go.RowKit

variable {P : Program} {tab : Tab}

def mC : C → AC
  | .v x => .c (.v x)
  | .sl r => .m (.sl r)

section
variable {w : World} {F : Fz} {lb : Lk} {g : Gh}
theorem mC_cell {c : C} {u : Value} {S : List Nat} (h : Own w c u S) : RepCell w F lb g (mC c) u S := by
  cases c with
  | v x =>
    simp only [Own] at h
    obtain ⟨h1, h2, rfl⟩ := h
    refine ⟨?_, rfl⟩
    show RepAC w F lb g (.c (.v x)) u
    simp only [RepAC, Rd]; exact ⟨h1, h2⟩
  | sl r => exact h
theorem mCs_cells : ∀ {cs : List C} {us : List Value} {S : List Nat}, OwnCells w cs us S → RepCells w F lb g (cs.map mC) us S
  | [], us, S, h => by simp only [OwnCells] at h; exact h
  | c :: cs, us, S, h => by
    simp only [OwnCells] at h
    obtain ⟨u, us', S1, S2, rfl, rfl, h1, h2⟩ := h
    exact ⟨u, us', S1, S2, rfl, rfl, mC_cell h1, mCs_cells h2⟩
theorem mCr_cells {sz : Nat} : ∀ {rows : List (List C)} {us : List Value} {S : List Nat}, OwnRows w sz rows us S → RepCells w F lb g (rows.map fun r => r.map mC).flatten us S
  | [], us, S, h => by simp only [OwnRows] at h; exact h
  | r :: rows, us, S, h => by
    simp only [OwnRows] at h
    obtain ⟨u1, u2, S1, S2, rfl, rfl, _, h1, h2⟩ := h
    rw [List.map_cons, List.flatten_cons]
    exact RepCells.append _ _ _ _ _ _ (mCs_cells h1) (mCr_cells h2)
theorem ownRows_sz {sz : Nat} : ∀ {rows : List (List C)} {us : List Value} {S : List Nat}, OwnRows w sz rows us S → ∀ r, r ∈ rows → r.length = sz
  | [], _, _, _, _, hr => by cases hr
  | r :: rows, us, S, h, q, hq => by
    simp only [OwnRows] at h
    obtain ⟨u1, u2, S1, S2, rfl, rfl, h0, h1, h2⟩ := h
    rcases List.mem_cons.1 hq with rfl | hq
    · exact h0
    · exact ownRows_sz h2 q hq
theorem plains_rest {F' : Fz} : ∀ {vs : List AV} {us : List Value} {S : List Nat}, vs.all plainR1 = true → RepMVs w F vs us S → S = [] ∧ RepAVs w F lb g vs us
  | [], us, S, _, h => by simp only [RepMVs] at h; exact ⟨h.2, h.1⟩
  | v :: vs, us, S, hp, h => by
    simp only [List.all_cons, Bool.and_eq_true] at hp
    simp only [RepMVs] at h
    obtain ⟨u, us', S1, S2, rfl, rfl, h1, h2⟩ := h
    obtain ⟨k1, k2⟩ := plains_rest (F' := F') hp.2 h2
    have : S1 = [] ∧ RepAV w F lb g v u := by
      cases v with
      | one a =>
        simp only [RepMV] at h1
        cases a <;> first | exact ⟨h1.2, by simp only [RepAV]; exact noLk_rep h1.1⟩ | exact absurd hp.1 (by simp [plainR1, plainA])
      | agg as =>
        obtain ⟨ws, rfl, h1⟩ := h1
        have : ∀ (as : List AC) (ws : List Value) (S : List Nat), as.all plainA = true → RepMCs w F as ws S → S = [] ∧ RepACs w F lb g as ws := by
          intro as
          induction as with
          | nil => intro ws S _ h; simp only [RepMCs] at h; exact ⟨h.2, h.1⟩
          | cons a as ih =>
            intro ws S hp h
            simp only [List.all_cons, Bool.and_eq_true] at hp
            simp only [RepMCs] at h
            obtain ⟨u, us', S1, S2, rfl, rfl, h1, h2⟩ := h
            obtain ⟨k1, k2⟩ := ih _ _ hp.2 h2
            cases a <;> first | (obtain ⟨h1, rfl⟩ := h1; exact ⟨by simp [k1], _, _, rfl, noLk_rep h1, k2⟩) | exact absurd hp.1 (by simp [plainA])
        obtain ⟨j1, j2⟩ := this as ws S1 hp.1 h1
        exact ⟨j1, by simp only [RepAV]; exact ⟨ws, rfl, j2⟩⟩
      | tup vs => exact h1.elim
      | any => exact h1.elim
    exact ⟨by simp [this.1, k1], u, us', rfl, this.2, k2⟩
theorem rest_back {F' : Fz} : ∀ {vs : List AV} {us : List Value}, vs.all plainR1 = true → RepAVs w F' lb g vs us → RepMVs w F vs us []
  | [], us, _, h => by simp only [RepAVs] at h; exact ⟨h, rfl⟩
  | v :: vs, us, hp, h => by
    simp only [List.all_cons, Bool.and_eq_true] at hp
    simp only [RepAVs] at h
    obtain ⟨u, us', rfl, h1, h2⟩ := h
    refine ⟨u, us', [], [], rfl, rfl, ?_, rest_back hp.2 h2⟩
    have h3 : RepAV w F noLk g0 v u := plainR1_rep hp.1 h1
    cases v with
    | one a =>
      simp only [RepAV] at h3
      cases a <;> first | exact ⟨h3, rfl⟩ | exact absurd hp.1 (by simp [plainR1, plainA])
    | agg as =>
      simp only [RepAV] at h3
      obtain ⟨ws, rfl, h3⟩ := h3
      refine ⟨ws, rfl, ?_⟩
      have : ∀ (as : List AC) (ws : List Value), as.all plainA = true → RepACs w F noLk g0 as ws → RepMCs w F as ws [] := by
        intro as
        induction as with
        | nil => intro ws _ h; simp only [RepACs] at h; exact ⟨h, rfl⟩
        | cons a as ih =>
          intro ws hp h
          simp only [List.all_cons, Bool.and_eq_true] at hp
          simp only [RepACs] at h
          obtain ⟨u, us', rfl, h1, h2⟩ := h
          refine ⟨u, us', [], [], rfl, rfl, ?_, ih _ hp.2 h2⟩
          cases a <;> first | exact ⟨h1, rfl⟩ | exact absurd hp.1 (by simp [plainA])
      exact this as ws hp.1 h3
    | tup vs => exact absurd hp.1 (by simp [plainR1])
    | any => exact absurd hp.1 (by simp [plainR1])
theorem bare_own {F : Fz} {l n : Nat} {e : TypeId} {sz : Nat} {rows : List (List AC)} {fz : Bool} (h : RepLB w F lb g l (.arr e sz rows fz)) (hl : lb l = some (.arr e sz rows fz)) (hn : n = rows.length) (ho : ∀ r, r ∈ rows → ∀ x, x ∈ r → isO x = true) {u : Value} (hu : RepAC w F lb g (.own l n) u) :
    Own w (.sl (rows.map fun r => r.map toC)) u (g.ds l) := by
  simp only [RepAC] at hu
  obtain ⟨_, B, hB, hq⟩ := hu
  rw [hl] at hB
  obtain rfl := Option.some.inj hB
  have hux := hq.2 hn
  obtain ⟨hsz, hrl, xs, S, hown, hcells, hds⟩ := h
  have hr := isOr_own hrl ho hcells
  simp only [Own]
  obtain ⟨hxl, hrow⟩ := hown
  rcases hrow with ⟨k1, k2⟩ | ⟨gg, cap, cur, k1, _, hh, hle, hcm, hcs, htk⟩
  · have : rows = [] := List.eq_nil_of_length_eq_zero k2
    subst this
    simp only [List.map_nil, OwnRows] at hr
    left
    refine ⟨by rw [hux, k1], rfl, ?_⟩
    rw [hds, k1, hr.2]; rfl
  · right
    refine ⟨gg, cap, cur, e, sz, S, by rw [hux, k1]; simp, hh, by simpa using hle, hcm, hcs, hsz, by rw [hds, k1]; rfl, ?_⟩
    rw [List.length_map, htk]
    exact hr
end

/-- What a state at the end says of a row that was there at the beginning. -/
def TurnedRow (L n : Nat) (rows' : List (List C)) (s : St) : Prop :=
  match s.lb L with
  | some (.arr _ _ R _) => n = R.length ∧ (∀ r, r ∈ R → ∀ x, x ∈ r → isO x = true) ∧ (R.map fun r => r.map toC) = rows' ∧ s.gh = [.one (.own L n)]
  | _ => False

/-- **A contract that writes, from a function's code**: a slice that is not empty. -/
theorem satM_slice (L sz : Nat) (hT : TabOk P tab) (hm : P.follows .mixedOrders = true) {f : FuncId} {fn : Func} {c : Code} {rows rows' : List (List C)} {rest : List AV} {r : AV} {rs : List ResultVar} {n : Nat} (hf : P.funcs[f]? = some fn) (hb : fn.body = some c) (hr : fn.results.toList = rs) (hn : fn.ntmps = n) (hname : fn.name ≠ "runtime.NumGoroutine")
    (hok : okCode c = true) (hlen : rest.length + 1 ≤ n) (hpr : plainR r = true) (hpa : rest.all plainR1 = true) (hne : rows ≠ []) (hsz : ∀ q, q ∈ rows → q.length = sz)
    (h : ∀ e, codeK P tab c (retMA tab rs r (TurnedRow L rows.length rows')) (mk n (enumA 0 (.one (.own L rows.length) :: rest)) [(L, .arr e sz (rows.map fun q => q.map mC) false)] [.one (.own L rows.length)])) :
    SatM P f (.one (.m (.sl rows)) :: rest) (.one (.m (.sl rows')) :: rest) r := by
  subst hr hn
  refine ⟨⟨fn, hf, hname, by rw [hb]; simp⟩, hpr, fun w F us S hF hrep hnd hS => ?_⟩
  simp only [RepMVs, RepMV, RepMC] at hrep
  obtain ⟨u, us', S1, S2, rfl, rfl, hown, hrest⟩ := hrep
  have hown0 := hown
  simp only [Own] at hown
  rcases hown with ⟨_, hq, _⟩ | ⟨b, cap, cs, e, sz', S', hu, hheap, hle, hcm, hcs, hpos, rfl, hrows⟩
  · exact absurd hq hne
  have hszz : sz' = sz := by
    cases rows with
    | nil => exact absurd rfl hne
    | cons q rows => rw [← ownRows_sz hrows q (by simp), hsz q (by simp)]
  subst hszz
  let g1 : Gh := ⟨fun _ => 0, fun _ => u, fun _ => b :: S'⟩
  have one : ∀ l B, lookB [(L, LB.arr e sz' (rows.map fun q => q.map mC) false)] l = some B → l = L ∧ B = .arr e sz' (rows.map fun q => q.map mC) false := by
    intro l B hl
    simp only [lookB] at hl
    split at hl
    · exact ⟨‹_›, (Option.some.inj hl).symm⟩
    · cases hl
  obtain ⟨rfl, hrest'⟩ := plains_rest (lb := lookB [(L, LB.arr e sz' (rows.map fun q => q.map mC) false)]) (g := g1) (F' := F) hpa hrest
  rw [List.append_nil] at hnd hS
  have hhd : RepAV w F (lookB [(L, LB.arr e sz' (rows.map fun q => q.map mC) false)]) g1 (.one (.own L rows.length)) u := by
    simp only [RepAV, RepAC]
    exact ⟨hown0.one, _, by simp [lookB]; rfl, by simp [okOwnB, g1]⟩
  have hA : RepAVs w F (lookB [(L, LB.arr e sz' (rows.map fun q => q.map mC) false)]) g1 (.one (.own L rows.length) :: rest) (u :: us') := ⟨u, us', rfl, hhd, hrest'⟩
  have hsim : Sim w ⟨b :: S', [u]⟩ F F g1 (mk fn.ntmps (enumA 0 (.one (.own L rows.length) :: rest)) [(L, .arr e sz' (rows.map fun q => q.map mC) false)] [.one (.own L rows.length)]) { tmps := (u :: us').toArray ++ Array.replicate (fn.ntmps - (u :: us').toArray.size) undef, defers := [] } w := {
    sz := by
      have := RepAVs.len _ _ hrest'
      simp only [mk_n, Array.size_append, List.size_toArray, Array.size_replicate, List.length_cons]
      omega
    df := rfl
    sl := fun i => by
      have e : (u :: us').toArray ++ Array.replicate (fn.ntmps - (u :: us').toArray.size) undef = ((u :: us') ++ List.replicate (fn.ntmps - (u :: us').length) undef).toArray := by simp
      simp only [mk_sl, mk_lb, e, getD_toArray]
      rcases enumA_rep (.one (.own L rows.length) :: rest) (u :: us') 0 i (List.replicate (fn.ntmps - (u :: us').length) undef) hA with h | ⟨_, _, h⟩
      · rw [h]; simp only [RepAV]
      · exact h
    gh := ⟨u, [], rfl, hhd, rfl⟩
    lb := fun l B hl => by
      obtain ⟨rfl, rfl⟩ := one l B hl
      refine ⟨hpos, fun q hq => ?_, cs.toList.take (rows.length * sz'), S', ?_, mCr_cells hrows, by simp [g1, hu, blkOf, Value.ownBlock]⟩
      · obtain ⟨q', hq', rfl⟩ := List.mem_map.1 hq
        rw [List.length_map]; exact hsz q' hq'
      · have hmul : rows.length * sz' ≤ cap * sz' := Nat.mul_le_mul_right _ hle
        have hlen2 : (cs.toList.take (rows.length * sz')).length = (rows.map fun q => q.map mC).length * sz' := by
          have : cs.toList.length = cap * sz' := by simpa using hcs
          rw [List.length_take, List.length_map]
          omega
        refine ⟨hlen2, .inr ⟨b, cap, cs, by simp [g1, hu], Nat.zero_le _, hheap, by simpa using hle, hcm, hcs, by simp⟩⟩
    so := fun l B hl => by
      obtain ⟨rfl, rfl⟩ := one l B hl
      simp only [SoftOk]
      refine ⟨fun b' hb' o _ => (hS b' ?_).2 o, fun _ _ b' hb' o => (hS b' hb').2 o⟩
      simp [g1, hu, blkOf, Value.ownBlock] at hb'
      simp [hb']
    nd := fun l B hl => hnd
    dj := fun l l' B B' hne hl hl' => by
      obtain ⟨rfl, _⟩ := one l B hl
      obtain ⟨rfl, _⟩ := one l' B' hl'
      exact absurd rfl hne
    nw := fun l B hl b' hb => ⟨.inr hb, (hS b' hb).1⟩
    f0 := fun _ _ h => h
    f1 := fun _ _ h => .inl h
    f2 := hF
    os := rfl
    tape := rfl
    output := rfl
    size := Nat.le_refl _
    block := fun _ _ _ => rfl }
  refine calls_of_wp hf hb (wp_mono (codeK_sound hT hm c _ _ hok (h e) w ⟨b :: S', [u]⟩ F _ w ⟨F, g1, hsim⟩) ?_)
  rintro e a' w' ⟨s', hq, F1, g2, hs'⟩
  have main : retMS tab fn.results.toList r (TurnedRow L rows.length rows') s' → ∃ v, (results fn a'.tmps).run P w' = .ok v w' ∧ ∃ v' S'', Ending.returned v = .returned v' ∧ RepAV w' F noLk g0 r v' ∧ RepMVs w' F (.one (.m (.sl rows')) :: rest) (u :: us') S'' ∧ S''.Nodup ∧ (∀ b', b' ∈ S'' → (b' ∈ (b :: S') ++ [] ∨ w.heap.size ≤ b') ∧ b' < w'.heap.size) ∧
      w'.os = w.os ∧ w'.tape = w.tape ∧ w'.output = w.output ∧ w.heap.size ≤ w'.heap.size ∧ ∀ k, k < w.heap.size → k ∉ (b :: S') ++ [] → w'.heap[k]? = w.heap[k]? := by
    intro hq
    unfold retMS at hq
    split at hq
    case h_2 => exact hq.elim
    rename_i p vs ho
    obtain ⟨hp, rfl, hK⟩ := hq
    unfold TurnedRow at hK
    split at hK
    case h_2 => exact hK.elim
    rename_i e2 sz2 R fz2 hl
    obtain ⟨hnR, hO, rfl, hgh⟩ := hK
    obtain ⟨us2, hrun, hargs'⟩ := results_run hT hs' rfl ho hp
    have hg := hs'.gh
    rw [hgh] at hg
    simp only [RepAVs, RepAV] at hg
    obtain ⟨u', us3, e4, hg, _⟩ := hg
    obtain ⟨rfl, _⟩ := List.cons.inj e4
    have hown' := bare_own (hs'.lb L _ hl) hl hnR hO hg
    refine ⟨_, hrun, _, g2.ds L, rfl, plainR_rep hpr (join_rep hargs'), ⟨u, us', g2.ds L, [], rfl, by simp, hown', rest_back hpa (plainRs_rep (w' := w') (F' := F) (lb' := noLk) (g' := g0) hpa hrest')⟩, hs'.nd L _ hl, fun b' hb => ?_, hs'.os, hs'.tape, hs'.output, hs'.size, fun k hk hk' => hs'.block k hk (fun hq => hk' (by rw [List.append_nil]; exact hq))⟩
    obtain ⟨q1, q2⟩ := hs'.nw L _ hl b' hb
    exact ⟨q1.symm.imp (fun hq => by rw [List.append_nil]; exact hq) id, q2⟩
  cases e with
  | normal => exact ⟨hs'.df, main hq⟩
  | ret => exact ⟨hs'.df, main hq⟩
  | _ => exact hq.elim

/-- A slice of no cells is as it was. -/
theorem satM_nil {f : FuncId} {rest : List AV} {r : AV} (hpr : plainR r = true) (hpa : rest.all plainR1 = true) (h : Sat P f (.one (.c (.sl [])) :: rest) r) : SatM P f (.one (.m (.sl [])) :: rest) (.one (.m (.sl [])) :: rest) r := by
  refine ⟨h.1, hpr, fun w F us S hF hrep hnd hS => ?_⟩
  simp only [RepMVs, RepMV, RepMC] at hrep
  obtain ⟨u, us', S1, S2, rfl, rfl, hown, hrest⟩ := hrep
  obtain ⟨rfl, hrest'⟩ := plains_rest (lb := noLk) (g := g0) (F' := F) hpa hrest
  have hrd : Rd w F (.sl []) u := by
    have hown' := hown
    simp only [Own] at hown'
    simp only [Rd]
    rcases hown' with ⟨rfl, _, _⟩ | ⟨b, cap, cs, e, sz, S', rfl, hheap, hle, hcm, hcs, hpos, _, _⟩
    · exact ⟨none, 0, 1, rfl, Nat.le_refl _, Nat.zero_le _, Nat.one_pos, fun _ => rfl, fun a ha => by cases ha⟩
    · exact ⟨_, cap, sz, rfl, hle, hcm, hpos, fun h => (by cases h), fun a ha => by obtain rfl := Option.some.inj ha; exact ⟨fun _ => rfl, by simp only [RdRows]⟩⟩
  refine (h.2 w F (u :: us') hF ⟨u, us', rfl, by simpa only [RepAV, RepAC] using hrd, hrest'⟩).mono ?_
  rintro e w' ⟨v, F', rfl, hb, _, _, _, hr⟩
  rw [List.append_nil] at hnd hS ⊢
  refine ⟨v, S1, rfl, plainR_rep hpr hr, ⟨u, us', S1, [], rfl, by simp, Own.mono _ _ _ (fun b hb' => hb.block b (hS b hb').1) hown, rest_back hpa (plainRs_rep (w' := w') (F' := F) (lb' := noLk) (g' := g0) hpa hrest')⟩, hnd, fun b hb' => ⟨.inl hb', Nat.lt_of_lt_of_le (hS b hb').1 hb.size⟩, hb.os, hb.tape, hb.output, hb.size, fun k hk _ => hb.block k hk⟩
end Go.Ai
