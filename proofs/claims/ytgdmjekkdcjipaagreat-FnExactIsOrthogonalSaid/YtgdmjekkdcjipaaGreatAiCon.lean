/- Calls: a contract on data; what a call makes of a state; one step of an operation, and that the model makes it. -/
import Derived.Test.YtgdmjekkdcjipaaGreatAiMem3
set_option linter.unusedVariables false
set_option linter.unusedSimpArgs false
namespace Go.Ai
open Go.RowKit
variable {P : Program} {tab : Tab} {w0 : World} {M0 : Ms} {F0 F F' : Fz} {g : Gh} {s : St} {a : Act} {w w' : World} {lb : Lk}
def noLk : Lk := fun _ => none
def g0 : Gh := ⟨fun _ => 0, fun _ => undef, fun _ => []⟩
def qG0 (P : Program) (f : FuncId) : Prop := ∃ fn, P.funcs[f]? = some fn ∧ fn.name ≠ "runtime.NumGoroutine" ∧ fn.body ≠ none
def Sat (P : Program) (f : FuncId) (args : List AV) (r : AV) : Prop :=
 qG0 P f ∧ ∀ (w : World) (F : Fz) (us : List Value), FzOk w F → RepAVs w F noLk g0 args us →
  Calls P f us.toArray w fun e w' => ∃ v F', e = .returned v ∧ Below w.heap.size w w' ∧ (∀ b o, F b o → F' b o) ∧ (∀ b o, F' b o → F b o ∨ w.heap.size ≤ b) ∧ (∀ b o, F' b o → b < w'.heap.size) ∧ RepAV w' F' noLk g0 r v
def unN : AC → AC
 | .d x => .c x
 | .m _ => .any
 | .nil => .c (.sl [])
 | .e1 => .c (.sl [])
 | .e0 => .c (.sl [])
 | a => a
theorem jr1 {u : Value} (h : ∃ a cap, u = .slice (some a) 0 cap ∧ cap ≤ maxLen ∧ (0 < cap → a.spot = none)) : Rd w F (.sl []) u := by
 obtain ⟨a, cap, rfl, h1, h2⟩ := h
 simp only [Rd]
 exact ⟨some a, cap, 1, rfl, Nat.zero_le _, h1, Nat.one_pos, fun h => (by cases h), fun b hb => by obtain rfl := Option.some.inj hb; exact ⟨h2, by simp only [RdRows]⟩⟩
theorem jq1 {u : Value} (h : ∃ A, u = .slice A 0 0) : Rd w F (.sl []) u := by
 obtain ⟨A, rfl⟩ := h
 simp only [Rd]
 exact ⟨A, 0, 1, rfl, Nat.zero_le _, Nat.zero_le _, Nat.one_pos, fun _ => rfl, fun b hb => ⟨fun h => absurd h (Nat.lt_irrefl _), by simp only [RdRows]⟩⟩
theorem kz1 {x : AC} {u : Value} {S : List Nat} (h : RepCell w F lb g x u S) : RepAC w F lb g (unN x) u := by
 cases x
 case e1 =>
  have h := h.1
  simp only [RepAC] at h
  show RepAC w F lb g (.c (.sl [])) _
  simp only [RepAC]
  exact jr1 h
 case e0 =>
  have h := h.1
  simp only [RepAC] at h
  show RepAC w F lb g (.c (.sl [])) _
  simp only [RepAC]
  exact jq1 h
 case nil =>
  have h := h.1
  simp only [RepAC] at h
  subst h
  show RepAC w F lb g (.c (.sl [])) _
  simp only [RepAC, Rd]
  exact ⟨none, 0, 1, rfl, Nat.le_refl _, Nat.zero_le _, Nat.one_pos, fun _ => rfl, fun a ha => by cases ha⟩
 case m y =>
  show RepAC w F lb g .any u
  simpa only [RepAC] using Own.one h
 case d y =>
  show RepAC w F lb g (.c y) u
  simp only [RepAC]
  exact h.2
 all_goals exact h.1
theorem RepCells.unN : ∀ {as : List AC} {us : List Value} {S : List Nat}, RepCells w F lb g as us S → RepACs w F lb g (as.map unN) us
 | [], _, _, h => by simp only [RepCells] at h; simp [RepACs, h]
 | x :: as, us, S, h => by
  simp only [RepCells] at h
  obtain ⟨u, us', S1, S2, rfl, rfl, h3, h4⟩ := h
  exact ⟨u, us', rfl, kz1 h3, RepCells.unN h4⟩
theorem jK0 (rows : List (List AC)) : (rows.map fun r => r.map unN).flatten = rows.flatten.map unN := by
 induction rows with
 | nil => rfl
 | cons r rs ih => simp only [List.map_cons, List.flatten_cons, List.map_append, ih]
def yx0 (lb : Lk) (a : AC) (x : C) : Prop :=
 match a with
 | .c y => x = y
 | .nil => x = .sl []
 | .e1 => x = .sl []
 | .e0 => x = .sl []
 | .own l n => ∃ e sz rows fz rows', lb l = some (.arr e sz rows fz) ∧ n = rows.length ∧ rows.map (fun r => r.map unN) = rows'.map (fun r => r.map .c) ∧ x = .sl rows'
 | _ => False
def jn0 (lb : Lk) : List AC → List AC → Prop
 | [], ys => ys = []
 | a :: as, ys => ∃ x ys', ys = .c x :: ys' ∧ yx0 lb a x ∧ jn0 lb as ys'
def wm0 (lb : Lk) (v d : AV) : Prop :=
 match v with
 | .one a => ∃ x, d = .one (.c x) ∧ yx0 lb a x
 | .agg as => ∃ ys, d = .agg ys ∧ jn0 lb as ys
 | _ => False
def zJ0 (lb : Lk) : List AV → List AV → Prop
 | [], ds => ds = []
 | v :: vs, ds => ∃ d ds', ds = d :: ds' ∧ wm0 lb v d ∧ zJ0 lb vs ds'
def AC.owns : AC → List Nat
 | .own l _ => [l]
 | _ => []
def AV.owns : AV → List Nat
 | .one a => a.owns
 | .agg as => as.flatMap AC.owns
 | _ => []
def LB.frz : LB → LB
 | .arr e sz rows _ => .arr e sz rows true
 | B => B
def St.frz (s : St) (l : Nat) : St := { s with lb := fun k => if k = l then (s.lb k).map LB.frz else s.lb k }
def St.frzs (s : St) (ls : List Nat) : St := ls.foldl St.frz s
@[simp] theorem St.frz_n (s : St) (l : Nat) : (s.frz l).n = s.n := rfl
@[simp] theorem St.frz_sl (s : St) (l : Nat) : (s.frz l).sl = s.sl := rfl
@[simp] theorem St.frz_gh (s : St) (l : Nat) : (s.frz l).gh = s.gh := rfl
@[simp] theorem St.frzs_n (ls : List Nat) : ∀ (s : St), (s.frzs ls).n = s.n := by
 induction ls with
 | nil => intro s; rfl
 | cons l ls ih => intro s; exact ih (s.frz l)
@[simp] theorem St.frzs_sl (ls : List Nat) : ∀ (s : St), (s.frzs ls).sl = s.sl := by
 induction ls with
 | nil => intro s; rfl
 | cons l ls ih => intro s; exact ih (s.frz l)
def Pre (g : Gh) (l len : Nat) : Fz := fun b o => b ∈ zV0 (g.hd l) ∧ o < len
theorem zc1 (s : St) (l : Nat) (g : Gh) : Keeps s.lb g (s.frz l).lb g := by
 constructor
 intro k B hB
 by_cases e : k = l
 ·subst e
  refine ⟨B.frz, by simp [St.frz, hB], ?_⟩
  cases B <;> exact ⟨fun _ _ h => h, fun _ _ h => h, fun _ _ _ _ h => h, fun _ _ h => h⟩
 ·exact ⟨B, by simp [St.frz, e, hB], fun _ _ h => h, fun _ _ h => h, fun _ _ _ _ h => h, fun _ _ h => h⟩
theorem Sim.freeze (h : Sim w0 M0 F0 F g s a w) (l : Nat) : ∃ F', Sim w0 M0 F0 F' g (s.frz l) a w ∧ (∀ b o, F b o → F' b o) ∧
  (∀ e sz rows fz, s.lb l = some (.arr e sz rows fz) → ∀ b o, b ∈ zV0 (g.hd l) → o < rows.length * sz → F' b o) := by
 have K := zc1 s l g
 by_cases harr : ∃ e sz rows fz, s.lb l = some (.arr e sz rows fz)
 ·obtain ⟨e, sz, rows, fz, hl⟩ := harr
  have hds : ∀ b, b ∈ zV0 (g.hd l) → b ∈ g.ds l := by
   obtain ⟨_, _, _, _, _, _, hd⟩ := h.lb l _ hl
   intro b hb; rw [hd]; simp [hb]
  have st : Stays w w F (fun b o => F b o ∨ Pre g l (rows.length * sz) b o) := ⟨fun _ _ hb => .inl hb, fun _ _ _ => rfl⟩
  have old : ∀ k B, (s.frz l).lb k = some B → ∃ Bo, s.lb k = some Bo ∧ B = if k = l then Bo.frz else Bo := by
   intro k B hB
   by_cases ek : k = l
   ·subst ek
    simp only [St.frz, if_true] at hB
    cases hs : s.lb k with
    | none => rw [hs] at hB; cases hB
    | some Bo => rw [hs] at hB; exact ⟨Bo, rfl, by simpa using hB.symm⟩
   ·exact ⟨B, by simpa [St.frz, ek] using hB, by simp [ek]⟩
  refine ⟨fun b o => F b o ∨ Pre g l (rows.length * sz) b o, ?_, fun _ _ hb => .inl hb, fun e' sz' rows' fz' hl' b o hb ho => ?_⟩
  ·exact {
    sz := h.sz
    df := h.df
    sl := fun i => RepAV.mono st K _ _ (h.sl i)
    gh := RepAVs.mono st K _ _ h.gh
    lb := fun k B hB => by
     obtain ⟨Bo, ho, rfl⟩ := old k B hB
     have := RepLB.mono (l := k) (B := Bo) st K rfl rfl rfl (fun _ _ => rfl) (h.lb k Bo ho)
     split
     ·cases Bo <;> exact this
     ·exact this
    so := fun k B hB => by
     obtain ⟨Bo, ho, rfl⟩ := old k B hB
     have hso := h.so k Bo ho
     by_cases ek : k = l
     ·subst ek
      rw [hl] at ho
      obtain rfl := Option.some.inj ho
      simp only [if_true, LB.frz, SoftOk, Bool.true_eq_false, false_or, false_implies, and_true] at hso ⊢
      intro b hb o hle hf
      rcases hf with hf | ⟨_, hf⟩
      ·exact hso.1 b hb o (.inr hle) hf
      ·omega
     ·rw [if_neg ek]
      have dj : ∀ b, b ∈ g.ds k → b ∉ zV0 (g.hd l) := fun b hb hb' => h.dj k l Bo _ ek ho hl b hb (hds b hb')
      cases Bo with
      | var cells =>
       simp only [SoftOk] at hso ⊢
       obtain ⟨_, _, _, _, hd⟩ := h.lb k _ ho
       intro o hf
       rcases hf with hf | ⟨hf, _⟩
       ·exact hso o hf
       ·exact dj _ (by rw [hd]; simp) hf
      | arr e1 sz1 rows1 fz1 =>
       simp only [SoftOk] at hso ⊢
       obtain ⟨_, _, _, _, _, _, hd⟩ := h.lb k _ ho
       refine ⟨fun b hb o hc hf => ?_, fun hz hn b hb o hf => ?_⟩
       ·rcases hf with hf | ⟨hf, _⟩
        ·exact hso.1 b hb o hc hf
        ·exact dj b (by rw [hd]; simp [hb]) hf
       ·rcases hf with hf | ⟨hf, _⟩
        ·exact hso.2 hz hn b hb o hf
        ·exact dj b hb hf
      | tok x =>
       simp only [SoftOk] at hso ⊢
       intro b hb o hf
       rcases hf with hf | ⟨hf, _⟩
       ·exact hso b hb o hf
       ·exact dj b hb hf
      | dead => trivial
    nd := fun k B hB => by obtain ⟨Bo, ho, _⟩ := old k B hB; exact h.nd k Bo ho
    dj := fun k k' B B' hkk hB hB' => by
     obtain ⟨Bo, ho, _⟩ := old k B hB
     obtain ⟨Bo', ho', _⟩ := old k' B' hB'
     exact h.dj k k' Bo Bo' hkk ho ho'
    nw := fun k B hB => by obtain ⟨Bo, ho, _⟩ := old k B hB; exact h.nw k Bo ho
    f0 := fun b o hb => .inl (h.f0 b o hb)
    f1 := fun b o hb => by
     rcases hb with hb | ⟨hb, _⟩
     ·exact h.f1 b o hb
     ·exact .inr ((h.nw l _ hl b (hds b hb)).1)
    f2 := fun b o hb => by
     rcases hb with hb | ⟨hb, _⟩
     ·exact h.f2 b o hb
     ·exact (h.nw l _ hl b (hds b hb)).2
    tb := h.tb
    os := h.os
    tape := h.tape
    output := h.output
    size := h.size
    block := h.block }
  ·rw [hl] at hl'
   obtain ⟨rfl, rfl, rfl, rfl⟩ := LB.arr.inj (Option.some.inj hl')
   exact .inr ⟨hb, ho⟩
 ·refine ⟨F, ?_, fun _ _ hb => hb, fun e sz rows fz hl => absurd ⟨e, sz, rows, fz, hl⟩ harr⟩
  have : s.frz l = s := by
   obtain ⟨n, sl, lb, gh⟩ := s
   simp only [St.frz, St.mk.injEq, true_and, and_true]
   funext k
   split
   ·rename_i ek
    subst ek
    simp only at harr
    cases hk : lb k with
    | none => rfl
    | some B =>
     cases B with
     | arr e sz rows fz => exact absurd ⟨e, sz, rows, fz, hk⟩ harr
     | _ => rfl
   ·rfl
  rw [this]; exact h
theorem pK0 {s : St} {l k : Nat} {e : TypeId} {sz : Nat} {rows : List (List AC)} {fz : Bool} (h : s.lb k = some (.arr e sz rows fz)) : ∃ fz', (s.frz l).lb k = some (.arr e sz rows fz') := by
 by_cases ek : k = l
 ·subst ek; exact ⟨true, by simp [St.frz, h, LB.frz]⟩
 ·exact ⟨fz, by simp [St.frz, ek, h]⟩
theorem Sim.freezes (h : Sim w0 M0 F0 F g s a w) : ∀ (ls : List Nat), ∃ F', Sim w0 M0 F0 F' g (s.frzs ls) a w ∧ (∀ b o, F b o → F' b o) ∧
  (∀ l, l ∈ ls → ∀ e sz rows fz, s.lb l = some (.arr e sz rows fz) → ∀ b o, b ∈ zV0 (g.hd l) → o < rows.length * sz → F' b o) := by
 intro ls
 induction ls generalizing s F with
 | nil => exact ⟨F, h, fun _ _ hb => hb, fun l hl => by cases hl⟩
 | cons l ls ih =>
  obtain ⟨F1, h1, u1, p1⟩ := h.freeze l
  obtain ⟨F2, h2, u2, p2⟩ := ih h1
  refine ⟨F2, h2, fun b o hb => u2 b o (u1 b o hb), fun k hk e sz rows fz hl b o hb ho => ?_⟩
  rcases List.mem_cons.1 hk with rfl | hk
  ·exact u2 b o (p1 e sz rows fz hl b o hb ho)
  ·obtain ⟨fz', hl'⟩ := pK0 (l := l) hl
   exact p2 k hk e sz rows fz' hl' b o hb ho
theorem bZ0 {b : Nat} : ∀ (cs : List C) (us : List Value) (o : Nat), RepACs w F lb g (cs.map .c) us → (∀ j, j < cs.length → F b (o + j)) → (∀ (j : Nat) u, us[j]? = some u → w.cell? ⟨b, o + j, none⟩ = some u) → RdCells w F b o cs
 | [], _, _, _, _, _ => by simp only [RdCells]
 | c :: cs, us, o, h, hF, hc => by
  simp only [List.map_cons, RepACs] at h
  obtain ⟨u, us', rfl, h1, h2⟩ := h
  simp only [RdCells]
  refine ⟨by simpa using hF 0 (by simp), ⟨u, by simpa using hc 0 u (by simp), by simpa only [RepAC] using h1⟩, ?_⟩
  refine bZ0 cs us' (o + 1) h2 (fun j hj => ?_) (fun j v hv => ?_)
  ·have := hF (j + 1) (by simpa using hj); rwa [show o + (j + 1) = o + 1 + j by omega] at this
  ·have := hc (j + 1) v (by simpa using hv); rwa [show o + (j + 1) = o + 1 + j by omega] at this
theorem mk0 {b sz : Nat} : ∀ (rows : List (List C)) (us : List Value) (o : Nat), (∀ r, r ∈ rows → r.length = sz) → RepACs w F lb g (rows.map fun r => r.map .c).flatten us → (∀ j, j < rows.length * sz → F b (o + j)) →
  (∀ (j : Nat) u, us[j]? = some u → w.cell? ⟨b, o + j, none⟩ = some u) → RdRows w F b sz o rows
 | [], _, _, _, _, _, _ => by simp only [RdRows]
 | r :: rs, us, o, hl, h, hF, hc => by
  have hr := hl r (by simp)
  simp only [List.map_cons, List.flatten_cons] at h
  simp only [RdRows]
  have hlen := RepACs.len _ _ h
  have h1 := h.take sz
  have h2 := h.drop sz
  rw [List.take_left' (by simp [hr])] at h1
  rw [List.drop_left' (by simp [hr])] at h2
  have hmul : (r :: rs).length * sz = sz + rs.length * sz := by simp [Nat.add_mul]; omega
  refine ⟨hr, bZ0 r (us.take sz) o h1 (fun j hj => hF j (by omega)) (fun j u hj => ?_), mk0 rs (us.drop sz) (o + sz) (fun q hq => hl q (by simp [hq])) h2 (fun j hj => ?_) (fun j u hj => ?_)⟩
  ·rw [List.getElem?_take] at hj
   split at hj
   ·exact hc j u hj
   ·cases hj
  ·have := hF (sz + j) (by omega); rwa [← Nat.add_assoc] at this
  ·rw [List.getElem?_drop] at hj
   have := hc _ u hj; rwa [← Nat.add_assoc] at this
theorem qz0 (h : Sim w0 M0 F0 F g s a w) {F1 : Fz} (up : ∀ b o, F b o → F1 b o) {x : AC} {y : C} (hv : yx0 s.lb x y) {u : Value} (hu : RepAC w F1 s.lb g x u)
  (hF : ∀ l, l ∈ x.owns → ∀ e sz rows fz, s.lb l = some (.arr e sz rows fz) → ∀ b o, b ∈ zV0 (g.hd l) → o < rows.length * sz → F1 b o) : Rd w F1 y u := by
 cases x <;> simp only [yx0] at hv
 case c x => subst hv; simpa only [RepAC] using hu
 case nil =>
  subst hv
  simp only [RepAC] at hu
  simp only [Rd]
  exact ⟨none, 0, 1, hu, Nat.le_refl _, Nat.zero_le _, Nat.one_pos, fun _ => rfl, fun a ha => by cases ha⟩
 case e1 =>
  subst hv
  simp only [RepAC] at hu
  exact jr1 hu
 case e0 =>
  subst hv
  simp only [RepAC] at hu
  exact jq1 hu
 case own l n =>
  obtain ⟨e, sz, rows, fz, rows', hl, hn, hrows, rfl⟩ := hv
  simp only [RepAC] at hu
  obtain ⟨_, B, hB, hq⟩ := hu
  rw [hl] at hB
  obtain rfl := Option.some.inj hB
  simp only [zK0] at hq
  have hux := hq.2 hn
  obtain ⟨hsz, hrl, xs, S, hown, hcells, _⟩ := h.lb l _ hl
  have hlr : rows'.length = rows.length := by have := congrArg List.length hrows; rw [List.length_map, List.length_map] at this; exact this.symm
  have hl' : ∀ r, r ∈ rows' → r.length = sz := by
   intro r hr
   have : r.map AC.c ∈ rows.map (fun r => r.map unN) := by rw [hrows]; exact List.mem_map.2 ⟨r, hr, rfl⟩
   obtain ⟨q, hq1, hq2⟩ := List.mem_map.1 this
   have := congrArg List.length hq2
   rw [List.length_map, List.length_map] at this
   rw [← this]; exact hrl q hq1
  have hun := RepACs.mono (w' := w) ⟨up, fun _ _ _ => rfl⟩ (Keeps.refl s.lb g) _ _ (RepCells.unN hcells)
  rw [← jK0, hrows] at hun
  simp only [Rd]
  rcases hown.2 with ⟨k1, k2⟩ | ⟨gg, cap, cur, k1, _, hh, hle, hcm, _, _⟩
  ·refine ⟨none, 0, 1, by rw [hux, k1, hlr, k2], by omega, Nat.zero_le _, Nat.one_pos, fun _ => rfl, fun a ha => by cases ha⟩
  ·refine ⟨some ⟨gg, 0, none⟩, cap, sz, by rw [hux, k1, hlr], by omega, hcm, hsz, fun h => (by cases h), fun a ha => ?_⟩
   obtain rfl := Option.some.inj ha
   refine ⟨fun _ => rfl, mk0 rows' xs 0 hl' hun (fun j hj => ?_) (fun j u hj => ?_)⟩
   ·rw [Nat.zero_add]
    exact hF l (by simp [AC.owns]) e sz rows fz hl gg j (by rw [k1]; simp [zV0, Value.ownBlock]) (by rw [← hlr]; exact hj)
   ·have := hown.cells (g := gg) (by rw [k1]; rfl) j u hj
    rwa [wA0] at this
theorem xL0 (h : Sim w0 M0 F0 F g s a w) {F1 : Fz} (up : ∀ b o, F b o → F1 b o) : ∀ (xs ys : List AC) (us : List Value), jn0 s.lb xs ys → RepACs w F1 s.lb g xs us →
  (∀ l, l ∈ xs.flatMap AC.owns → ∀ e sz rows fz, s.lb l = some (.arr e sz rows fz) → ∀ b o, b ∈ zV0 (g.hd l) → o < rows.length * sz → F1 b o) → RepACs w F1 noLk g0 ys us
 | [], ys, us, hv, hu, _ => by simp only [jn0] at hv; subst hv; simpa only [RepACs] using hu
 | x :: xs, ys, us, hv, hu, hF => by
  simp only [jn0] at hv
  obtain ⟨y, ys', rfl, h1, h2⟩ := hv
  simp only [RepACs] at hu ⊢
  obtain ⟨u, us', rfl, k1, k2⟩ := hu
  exact ⟨u, us', rfl, by simpa only [RepAC] using qz0 h up h1 k1 (fun l hl => hF l (by simp [hl])), xL0 h up xs ys' us' h2 k2 (fun l hl => hF l (by
   obtain ⟨c, hc1, hc2⟩ := List.mem_flatMap.1 hl
   exact List.mem_flatMap.2 ⟨c, by simp [hc1], hc2⟩))⟩
theorem gz0 (h : Sim w0 M0 F0 F g s a w) {F1 : Fz} (up : ∀ b o, F b o → F1 b o) {v d : AV} {u : Value} (hv : wm0 s.lb v d) (hu : RepAV w F1 s.lb g v u)
  (hF : ∀ l, l ∈ v.owns → ∀ e sz rows fz, s.lb l = some (.arr e sz rows fz) → ∀ b o, b ∈ zV0 (g.hd l) → o < rows.length * sz → F1 b o) : RepAV w F1 noLk g0 d u := by
 cases v <;> simp only [wm0] at hv
 case one x =>
  obtain ⟨y, rfl, h1⟩ := hv
  simp only [RepAV] at hu ⊢
  simpa only [RepAC] using qz0 h up h1 hu hF
 case agg xs =>
  obtain ⟨ys, rfl, h1⟩ := hv
  simp only [RepAV] at hu ⊢
  obtain ⟨us, h2, h3⟩ := hu
  exact ⟨us, h2, xL0 h up xs ys us h1 h3 hF⟩
theorem zW0 (h : Sim w0 M0 F0 F g s a w) {F1 : Fz} (up : ∀ b o, F b o → F1 b o) : ∀ (vs ds : List AV) (us : List Value), zJ0 s.lb vs ds → RepAVs w F1 s.lb g vs us →
  (∀ l, l ∈ vs.flatMap AV.owns → ∀ e sz rows fz, s.lb l = some (.arr e sz rows fz) → ∀ b o, b ∈ zV0 (g.hd l) → o < rows.length * sz → F1 b o) → RepAVs w F1 noLk g0 ds us
 | [], ds, us, hv, hu, _ => by simp only [zJ0] at hv; subst hv; simpa only [RepAVs] using hu
 | x :: xs, ds, us, hv, hu, hF => by
  simp only [zJ0] at hv
  obtain ⟨y, ys', rfl, h1, h2⟩ := hv
  simp only [RepAVs] at hu ⊢
  obtain ⟨u, us', rfl, k1, k2⟩ := hu
  exact ⟨u, us', rfl, gz0 h up h1 k1 (fun l hl => hF l (by simp [hl])), zW0 h up xs ys' us' h2 k2 (fun l hl => hF l (by
   obtain ⟨c, hc1, hc2⟩ := List.mem_flatMap.1 hl
   exact List.mem_flatMap.2 ⟨c, by simp [hc1], hc2⟩))⟩
end Go.Ai
namespace Go.Ai
open Go.RowKit
variable {P : Program}
def OwnR1 (w : World) (r : AV) (v : Value) (S : List Nat) : Prop :=
 match r with
 | .one (.c x) => Own w x v S
 | .agg as => ∃ (cs : List C) (us : List Value), as = cs.map .c ∧ v = .agg us.toArray ∧ OwnCells w cs us S
 | _ => False
def OwnRs (w : World) : List AV → List Value → List Nat → Prop
 | [], us, S => us = [] ∧ S = []
 | r :: rs, us, S => ∃ u us' S1 S2, us = u :: us' ∧ S = S1 ++ S2 ∧ OwnR1 w r u S1 ∧ OwnRs w rs us' S2
def OwnR (w : World) (r : AV) (v : Value) (S : List Nat) : Prop :=
 match r with
 | .tup vs => ∃ us : List Value, v = .tuple us.toArray ∧ OwnRs w vs us S
 | r => OwnR1 w r v S
def SatF (P : Program) (f : FuncId) (args : List AV) (r : AV) : Prop :=
 qG0 P f ∧ ∀ (w : World) (F : Fz) (us : List Value), FzOk w F → RepAVs w F noLk g0 args us →
  Calls P f us.toArray w fun e w' => ∃ v S, e = .returned v ∧ Below w.heap.size w w' ∧ OwnR w' r v S ∧ S.Nodup ∧ ∀ b, b ∈ S → w.heap.size ≤ b ∧ b < w'.heap.size
theorem OwnCells.rep {w : World} {F : Fz} {lb : Lk} {g : Gh} : ∀ (cs : List C) (us : List Value) (S : List Nat), (∀ b o, b ∈ S → F b o) → OwnCells w cs us S → RepACs w F lb g (cs.map .c) us
 | [], us, S, _, h => by simp only [OwnCells] at h; simp [RepACs, h.1]
 | c :: cs, us, S, hF, h => by
  simp only [OwnCells] at h
  obtain ⟨u, us', S1, S2, rfl, rfl, h1, h2⟩ := h
  simp only [List.map_cons, RepACs]
  exact ⟨u, us', rfl, by simpa only [RepAC] using Own.rd c u S1 (fun b o hb => hF b o (by simp [hb])) h1, OwnCells.rep cs us' S2 (fun b o hb => hF b o (by simp [hb])) h2⟩
theorem OwnR1.rep {w : World} {F : Fz} {lb : Lk} {g : Gh} {r : AV} {v : Value} {S : List Nat} (hF : ∀ b o, b ∈ S → F b o) (h : OwnR1 w r v S) : RepAV w F lb g r v := by
 unfold OwnR1 at h
 split at h
 ·simp only [RepAV, RepAC]; exact Own.rd _ _ S hF h
 ·obtain ⟨cs, us, rfl, rfl, h⟩ := h
  simp only [RepAV]
  exact ⟨us, rfl, OwnCells.rep cs us S hF h⟩
 ·exact h.elim
theorem OwnRs.rep {w : World} {F : Fz} {lb : Lk} {g : Gh} : ∀ (rs : List AV) (us : List Value) (S : List Nat), (∀ b o, b ∈ S → F b o) → OwnRs w rs us S → RepAVs w F lb g rs us
 | [], us, S, _, h => by simp only [OwnRs] at h; simp [RepAVs, h.1]
 | r :: rs, us, S, hF, h => by
  simp only [OwnRs] at h
  obtain ⟨u, us', S1, S2, rfl, rfl, h1, h2⟩ := h
  simp only [RepAVs]
  exact ⟨u, us', rfl, OwnR1.rep (fun b o hb => hF b o (by simp [hb])) h1, OwnRs.rep rs us' S2 (fun b o hb => hF b o (by simp [hb])) h2⟩
theorem OwnR.rep {w : World} {F : Fz} {lb : Lk} {g : Gh} {r : AV} {v : Value} {S : List Nat} (hF : ∀ b o, b ∈ S → F b o) (h : OwnR w r v S) : RepAV w F lb g r v := by
 unfold OwnR at h
 split at h
 ·obtain ⟨us, rfl, h⟩ := h
  simp only [RepAV]
  exact ⟨us, rfl, OwnRs.rep _ us S hF h⟩
 ·exact OwnR1.rep hF h
theorem SatF.sat {f : FuncId} {args : List AV} {r : AV} (h : SatF P f args r) : Sat P f args r := by
 refine ⟨h.1, fun w F us hF hr => (h.2 w F us hF hr).mono ?_⟩
 rintro e w' ⟨v, S, rfl, hb, ho, _, hS⟩
 refine ⟨v, fun b o => F b o ∨ b ∈ S, rfl, hb, fun _ _ h => .inl h, fun b o h => h.imp id (fun h => (hS b h).1), fun b o h => ?_, OwnR.rep (fun b o h => .inr h) ho⟩
 rcases h with h | h
 ·exact Nat.lt_of_lt_of_le (hF b o h) hb.size
 ·exact (hS b h).2
def vx1 : C → Bool
 | .v _ => true
 | .sl _ => false
def vu0 : AC → Bool
 | .c x => vx1 x
 | _ => false
def yk0 : AV → Bool
 | .one a => vu0 a
 | .agg as => as.all vu0
 | _ => false
def yu0 : AV → Bool
 | .tup vs => vs.all yk0
 | r => yk0 r
section
variable {w w' : World} {F F' : Fz} {lb lb' : Lk} {g g' : Gh}
theorem vY0 {a : AC} {u : Value} (hp : vu0 a = true) (h : RepAC w F lb g a u) : RepAC w' F' lb' g' a u := by
 cases a with
 | c x => cases x with
  | v x => simpa only [RepAC, Rd] using h
  | sl rows => cases hp
 | _ => cases hp
theorem pc0 : ∀ {as : List AC} {us : List Value}, as.all vu0 = true → RepACs w F lb g as us → RepACs w' F' lb' g' as us
 | [], us, _, h => by simpa only [RepACs] using h
 | a :: as, us, hp, h => by
  simp only [List.all_cons, Bool.and_eq_true] at hp
  simp only [RepACs] at h ⊢
  obtain ⟨u, us', rfl, h1, h2⟩ := h
  exact ⟨u, us', rfl, vY0 hp.1 h1, pc0 hp.2 h2⟩
theorem kD0 {v : AV} {u : Value} (hp : yk0 v = true) (h : RepAV w F lb g v u) : RepAV w' F' lb' g' v u := by
 cases v with
 | one a => simp only [RepAV] at h ⊢; exact vY0 hp h
 | agg as =>
  simp only [RepAV] at h ⊢
  obtain ⟨us, h1, h2⟩ := h
  exact ⟨us, h1, pc0 hp h2⟩
 | _ => cases hp
theorem wu0 : ∀ {vs : List AV} {us : List Value}, vs.all yk0 = true → RepAVs w F lb g vs us → RepAVs w' F' lb' g' vs us
 | [], us, _, h => by simpa only [RepAVs] using h
 | v :: vs, us, hp, h => by
  simp only [List.all_cons, Bool.and_eq_true] at hp
  simp only [RepAVs] at h ⊢
  obtain ⟨u, us', rfl, h1, h2⟩ := h
  exact ⟨u, us', rfl, kD0 hp.1 h1, wu0 hp.2 h2⟩
theorem vZ0 {v : AV} {u : Value} (hp : yu0 v = true) (h : RepAV w F lb g v u) : RepAV w' F' lb' g' v u := by
 cases v with
 | tup vs =>
  simp only [RepAV] at h ⊢
  obtain ⟨us, h1, h2⟩ := h
  exact ⟨us, h1, wu0 hp h2⟩
 | one a => exact kD0 hp h
 | agg as => exact kD0 hp h
 | any => cases hp
end
def ra0 (lb : Lk) (a : AC) (x : C) : Prop :=
 match a with
 | .tk k i => ∃ xs, lb k = some (.tok xs) ∧ xs[i]? = some (some x)
 | a => yx0 lb a x
def jm0 (lb : Lk) : List AC → List AC → Prop
 | [], ys => ys = []
 | a :: as, ys => ∃ x ys', ys = .c x :: ys' ∧ ra0 lb a x ∧ jm0 lb as ys'
def vl0 (lb : Lk) (v d : AV) : Prop :=
 match v with
 | .one a => ∃ x, d = .one (.c x) ∧ ra0 lb a x
 | .agg as => ∃ ys, d = .agg ys ∧ jm0 lb as ys
 | _ => False
def qb0 (lb : Lk) : List AV → List AV → Prop
 | [], ds => ds = []
 | v :: vs, ds => ∃ d ds', ds = d :: ds' ∧ vl0 lb v d ∧ qb0 lb vs ds'
section
variable {w0 : World} {M0 : Ms} {F0 F : Fz} {g : Gh} {s : St} {a : Act} {w w' : World}
def jk0 (s : St) (g : Gh) (F : Fz) : Fz := fun b o => F b o ∨ ∃ l B, s.lb l = some B ∧ b ∈ g.ds l
theorem kt1 (h : Sim w0 M0 F0 F g s a w) {k i : Nat} {xs : List (Option C)} {x : C} (hl : s.lb k = some (.tok xs)) (hx : xs[i]? = some (some x)) {u : Value} (hu : RepAC w F s.lb g (.tk k i) u) :
  ∃ S, Own w x u S ∧ ∀ b, b ∈ S → b ∈ g.ds k := by
 simp only [RepAC] at hu
 obtain ⟨_, B, hB, hq⟩ := hu
 rw [hl] at hB
 obtain rfl := Option.some.inj hB
 obtain ⟨us, hq1, hq2⟩ := hq
 obtain ⟨us', h1, h2⟩ := h.lb k _ hl
 rw [hq1] at h1
 obtain rfl : us = us' := by simpa using h1
 obtain ⟨u', SA, Si, SB, h3, h4, h5, _⟩ := OwnTs.get _ _ _ _ _ h2 hx
 rw [hq2] at h3
 obtain rfl := Option.some.inj h3
 exact ⟨Si, h5, fun b hb => by rw [h4]; simp [hb]⟩
theorem fH0 (h : Sim w0 M0 F0 F g s a w) {x : AC} {y : C} (hv : ra0 s.lb x y) {u : Value} (hu : RepAC w F s.lb g x u) : Rd w (jk0 s g F) y u := by
 have gen : yx0 s.lb x y → Rd w (jk0 s g F) y u := fun hv => by
  refine qz0 h (fun b o hb => .inl hb) hv (RepAC.mono ⟨fun b o hb => .inl hb, fun _ _ _ => rfl⟩ (Keeps.refl _ _) _ _ hu) (fun l _ e sz rows fz hl b o hb _ => .inr ⟨l, _, hl, ?_⟩)
  obtain ⟨_, _, _, _, _, _, hd⟩ := h.lb l _ hl
  rw [hd]; simp [hb]
 cases x
 case tk k i =>
  obtain ⟨xs, hl, hx⟩ := hv
  obtain ⟨S, h1, h2⟩ := kt1 h hl hx hu
  exact Own.rd _ _ S (fun b o hb => .inr ⟨k, _, hl, h2 b hb⟩) h1
 all_goals exact gen hv
theorem xJ0 (h : Sim w0 M0 F0 F g s a w) : ∀ (xs ys : List AC) (us : List Value), jm0 s.lb xs ys → RepACs w F s.lb g xs us → RepACs w (jk0 s g F) noLk g0 ys us
 | [], ys, us, hv, hu => by simp only [jm0] at hv; subst hv; simpa only [RepACs] using hu
 | x :: xs, ys, us, hv, hu => by
  simp only [jm0] at hv
  obtain ⟨y, ys', rfl, h1, h2⟩ := hv
  simp only [RepACs] at hu ⊢
  obtain ⟨u, us', rfl, k1, k2⟩ := hu
  exact ⟨u, us', rfl, by simpa only [RepAC] using fH0 h h1 k1, xJ0 h xs ys' us' h2 k2⟩
theorem xH0 (h : Sim w0 M0 F0 F g s a w) {v d : AV} {u : Value} (hv : vl0 s.lb v d) (hu : RepAV w F s.lb g v u) : RepAV w (jk0 s g F) noLk g0 d u := by
 cases v <;> simp only [vl0] at hv
 case one x =>
  obtain ⟨y, rfl, h1⟩ := hv
  simp only [RepAV] at hu ⊢
  simpa only [RepAC] using fH0 h h1 hu
 case agg xs =>
  obtain ⟨ys, rfl, h1⟩ := hv
  simp only [RepAV] at hu ⊢
  obtain ⟨us, h2, h3⟩ := hu
  exact ⟨us, h2, xJ0 h xs ys us h1 h3⟩
theorem qk0 (h : Sim w0 M0 F0 F g s a w) : ∀ (vs ds : List AV) (us : List Value), qb0 s.lb vs ds → RepAVs w F s.lb g vs us → RepAVs w (jk0 s g F) noLk g0 ds us
 | [], ds, us, hv, hu => by simp only [qb0] at hv; subst hv; simpa only [RepAVs] using hu
 | x :: xs, ds, us, hv, hu => by
  simp only [qb0] at hv
  obtain ⟨y, ys', rfl, h1, h2⟩ := hv
  simp only [RepAVs] at hu ⊢
  obtain ⟨u, us', rfl, k1, k2⟩ := hu
  exact ⟨u, us', rfl, xH0 h h1 k1, qk0 h xs ys' us' h2 k2⟩
theorem pR0 (h : Sim w0 M0 F0 F g s a w) : FzOk w (jk0 s g F) := by
 refine ⟨?_, fun b cs hb => ⟨(h.fz.tb b cs hb).1.elim fun o ho => ⟨o, .inl ho⟩, (h.fz.tb b cs hb).2⟩⟩
 rintro b o (hb | ⟨l, B, hl, hb⟩)
 ·exact h.f2 b o hb
 ·exact (h.nw l B hl b hb).2
theorem Sim.below (h : Sim w0 M0 F0 F g s a w) (hb : Below w.heap.size w w') : Sim w0 M0 F0 F g s a w' :=
 h.grows ⟨⟨fun _ _ hq => hq, fun b o hq => zL0 (hb.block b (h.f2 b o hq)) o⟩, fun l B hl b hq => hb.block b (h.nw l B hl b hq).2, h.so, fun _ _ hq => .inl hq, fun b o hq => Nat.lt_of_lt_of_le (h.f2 b o hq) hb.size,
  hb.os, hb.tape, hb.output, hb.size, fun k hk _ => hb.block k (Nat.lt_of_lt_of_le hk h.size)⟩
end
def tkC (d i : Nat) : AC → AC
 | .c (.sl _) => .tk d i
 | a => a
def xN1 (d : Nat) : Nat → List AC → List AC
 | _, [] => []
 | i, a :: as => tkC d i a :: xN1 d (i + 1) as
def flC : AC → Option C
 | .c x => some x
 | _ => none
def flV : AV → List (Option C)
 | .one a => [flC a]
 | .agg as => as.map flC
 | _ => []
def tkV (d i : Nat) : AV → AV
 | .one a => .one (tkC d i a)
 | .agg as => .agg (xN1 d i as)
 | v => v
def xO1 (d : Nat) : Nat → List AV → List AV
 | _, [] => []
 | i, v :: vs => tkV d i v :: xO1 d (i + (flV v).length) vs
def tkR (d : Nat) : AV → AV
 | .tup vs => .tup (xO1 d 0 vs)
 | v => tkV d 0 v
def flR : AV → List (Option C)
 | .tup vs => vs.flatMap flV
 | v => flV v
section
variable {w : World} {F : Fz} {lb : Lk} {g : Gh} {d : Nat} {T : List (Option C)} {us : List Value}
theorem OwnTs.append : ∀ {os os' : List (Option C)} {us us' : List Value} {S S' : List Nat}, OwnTs w os us S → OwnTs w os' us' S' → OwnTs w (os ++ os') (us ++ us') (S ++ S')
 | [], _, _, _, _, _, h, k => by simp only [OwnTs] at h; obtain ⟨rfl, rfl⟩ := h; simpa using k
 | o :: os, _, _, _, _, _, h, k => by
  simp only [OwnTs] at h
  obtain ⟨u, us', S1, S2, rfl, rfl, h3, h4⟩ := h
  simp only [List.cons_append, OwnTs]
  exact ⟨u, _, S1, _, rfl, by simp, h3, OwnTs.append h4 k⟩
theorem wL1 (hl : lb d = some (.tok T)) (hg : g.hd d = .agg us.toArray) {c : C} {u : Value} {S : List Nat} {i : Nat} (h : Own w c u S) (hu : us[i]? = some u) : RepAC w F lb g (tkC d i (.c c)) u := by
 cases c with
 | v x => simp only [Own] at h; simp only [tkC, RepAC, Rd]; exact ⟨h.1, h.2.1⟩
 | sl rows => simp only [tkC, RepAC]; exact ⟨h.one, _, hl, us, hg, hu⟩
theorem cf0 (hl : lb d = some (.tok T)) (hg : g.hd d = .agg us.toArray) : ∀ (cs : List C) (vs : List Value) (S : List Nat) (i : Nat), OwnCells w cs vs S → (∀ (j : Nat) v, vs[j]? = some v → us[i + j]? = some v) →
  RepACs w F lb g (xN1 d i (cs.map .c)) vs ∧ OwnTs w (cs.map some) vs S
 | [], vs, S, i, h, _ => by simp only [OwnCells] at h; obtain ⟨rfl, rfl⟩ := h; simp [xN1, RepACs, OwnTs]
 | c :: cs, vs, S, i, h, hu => by
  simp only [OwnCells] at h
  obtain ⟨v, vs', S1, S2, rfl, rfl, h1, h2⟩ := h
  have h0 : us[i]? = some v := by simpa using hu 0 v (by simp)
  obtain ⟨k1, k2⟩ := cf0 hl hg cs vs' S2 (i + 1) h2 (fun j x hj => by have := hu (j + 1) x (by simpa using hj); rwa [show i + (j + 1) = i + 1 + j by omega] at this)
  exact ⟨⟨v, vs', rfl, wL1 hl hg h1 h0, k1⟩, v, vs', S1, S2, rfl, rfl, h1, k2⟩
theorem pC1 (cs : List C) : (cs.map AC.c).map flC = cs.map some := by simp [flC]
def xV1 (v : Value) : AV → List Value
 | .agg _ => v.cells.toList
 | _ => [v]
theorem nw0 {r : AV} {v : Value} {S : List Nat} (h : OwnR1 w r v S) : ∃ vs, OwnTs w (flV r) vs S ∧ vs.length = (flV r).length ∧ ∀ (lb : Lk) (g : Gh) (us : List Value) (i : Nat), lb d = some (.tok T) → g.hd d = .agg us.toArray →
  (∀ (j : Nat) x, vs[j]? = some x → us[i + j]? = some x) → RepAV w F lb g (tkV d i r) v := by
 unfold OwnR1 at h
 split at h
 ·rename_i x
  refine ⟨[v], ⟨v, [], S, [], rfl, by simp, h, rfl, rfl⟩, rfl, fun lb g us i hl hg hu => ?_⟩
  simp only [tkV, RepAV]
  exact wL1 hl hg h (by simpa using hu 0 v (by simp))
 ·obtain ⟨cs, vs, rfl, rfl, h⟩ := h
  have hfl : flV (.agg (cs.map .c)) = cs.map some := pC1 cs
  rw [hfl]
  have hts : OwnTs w (cs.map some) vs S := (cf0 (w := w) (F := F) (lb := fun _ => some (.tok T)) (g := ⟨fun _ => 0, fun _ => .agg vs.toArray, fun _ => []⟩) (d := d) (us := vs) rfl rfl cs vs S 0 h (fun j x hj => by simpa using hj)).2
  refine ⟨vs, hts, by rw [OwnTs.len _ _ _ hts], fun lb g us i hl hg hu => ?_⟩
  simp only [tkV, RepAV]
  exact ⟨vs, rfl, (cf0 hl hg cs vs S i h hu).1⟩
 ·exact h.elim
theorem gH0 : ∀ {rs : List AV} {vs : List Value} {S : List Nat}, OwnRs w rs vs S → ∃ ks, OwnTs w (rs.flatMap flV) ks S ∧ ks.length = (rs.flatMap flV).length ∧ ∀ (lb : Lk) (g : Gh) (us : List Value) (i : Nat), lb d = some (.tok T) → g.hd d = .agg us.toArray →
  (∀ (j : Nat) x, ks[j]? = some x → us[i + j]? = some x) → RepAVs w F lb g (xO1 d i rs) vs
 | [], vs, S, h => by
  simp only [OwnRs] at h
  obtain ⟨rfl, rfl⟩ := h
  exact ⟨[], ⟨rfl, rfl⟩, rfl, fun lb g us i _ _ _ => rfl⟩
 | r :: rs, vs, S, h => by
  simp only [OwnRs] at h
  obtain ⟨v, vs', S1, S2, rfl, rfl, h1, h2⟩ := h
  obtain ⟨k1, a1, b1, c1⟩ := nw0 (d := d) (F := F) (T := T) h1
  obtain ⟨k2, a2, b2, c2⟩ := gH0 h2
  refine ⟨k1 ++ k2, by simpa using OwnTs.append a1 a2, by simp [b1, b2], fun lb g us i hl hg hu => ?_⟩
  simp only [xO1, RepAVs]
  refine ⟨v, vs', rfl, c1 lb g us i hl hg (fun j x hj => hu j x (by rw [List.getElem?_append_left (List.getElem?_eq_some_iff.1 hj).1]; exact hj)), c2 lb g us _ hl hg (fun j x hj => ?_)⟩
  have := hu (k1.length + j) x (by rw [List.getElem?_append_right (by omega), Nat.add_sub_cancel_left]; exact hj)
  rwa [← Nat.add_assoc, b1] at this
theorem nx0 {r : AV} {v : Value} {S : List Nat} (h : OwnR w r v S) : ∃ vs, OwnTs w (flR r) vs S ∧ ∀ (lb : Lk) (g : Gh), lb d = some (.tok T) → g.hd d = .agg vs.toArray → RepAV w F lb g (tkR d r) v := by
 unfold OwnR at h
 split at h
 ·obtain ⟨us, rfl, h⟩ := h
  obtain ⟨ks, h1, _, h3⟩ := gH0 (d := d) (F := F) (T := T) h
  refine ⟨ks, h1, fun lb g hl hg => ?_⟩
  simp only [tkR, RepAV]
  exact ⟨us, rfl, h3 lb g ks 0 hl hg (fun j x hj => by simpa using hj)⟩
 ·rename_i hnt
  obtain ⟨ks, h1, _, h3⟩ := nw0 (d := d) (F := F) (T := T) h
  have e1 : flR r = flV r := by cases r <;> first | rfl | exact absurd rfl (hnt _)
  have e2 : tkR d r = tkV d 0 r := by cases r <;> first | rfl | exact absurd rfl (hnt _)
  rw [e1, e2]
  exact ⟨ks, h1, fun lb g hl hg => h3 lb g ks 0 hl hg (fun j x hj => by simpa using hj)⟩
end
section
variable {w0 : World} {M0 : Ms} {F0 F : Fz} {g : Gh} {s : St} {a : Act} {w w' : World}
theorem Sim.taken (h : Sim w0 M0 F0 F g s a w) (hb : Below w.heap.size w w') {d : Nat} (hd : s.lb d = none) (hn : d < s.n) {r : AV} {v : Value} {S : List Nat} (ho : OwnR w' r v S) (hnd : S.Nodup) (hS : ∀ b, b ∈ S → w.heap.size ≤ b ∧ b < w'.heap.size) :
  ∃ g', Sim w0 M0 F0 F g' ((s.put d (.tok (flR r))).set (some d) (tkR d r)) (a.put (some d) v) w' := by
 obtain ⟨vs, h1, h2⟩ := nx0 (d := d) (F := F) (T := flR r) ho
 have hs := h.below hb
 refine ⟨g.upd d (g.bl d) (.agg vs.toArray) S, Sim.set (hs.putLB (l := d) (b := g.bl d) (v := .agg vs.toArray) (S := S) (B' := .tok (flR r)) (fun B hB => by rw [hd] at hB; cases hB) ?_ ?_ hnd ?_ ?_) (by simpa using hn) ?_⟩
 ·exact ⟨vs, by simp [Gh.upd], by simpa [Gh.upd] using h1⟩
 ·simp only [SoftOk, Gh.upd, if_true]
  intro b hb' o hf
  have := h.f2 b o hf
  have := (hS b hb').1
  omega
 ·intro l' B _ hB k hk hk'
  have := (h.nw l' B hB k hk').2
  have := (hS k hk).1
  omega
 ·intro k hk
  exact ⟨.inl (Nat.le_trans h.size (hS k hk).1), (hS k hk).2⟩
 ·exact h2 _ _ (by simp [St.put_lb]) (by simp [Gh.upd])
end
end Go.Ai
namespace Go.Ai
open Go.RowKit
variable {P : Program}
def vQ1 (w : World) (F : Fz) (a : AC) (u : Value) (S : List Nat) : Prop :=
 match a with
 | .m x => Own w x u S
 | a => RepAC w F noLk g0 a u ∧ S = []
def yy1 (w : World) (F : Fz) : List AC → List Value → List Nat → Prop
 | [], us, S => us = [] ∧ S = []
 | a :: as, us, S => ∃ u us' S1 S2, us = u :: us' ∧ S = S1 ++ S2 ∧ vQ1 w F a u S1 ∧ yy1 w F as us' S2
def xs1 (w : World) (F : Fz) (v : AV) (u : Value) (S : List Nat) : Prop :=
 match v with
 | .one a => vQ1 w F a u S
 | .agg as => ∃ us : List Value, u = .agg us.toArray ∧ yy1 w F as us S
 | _ => False
def te0 (w : World) (F : Fz) : List AV → List Value → List Nat → Prop
 | [], us, S => us = [] ∧ S = []
 | v :: vs, us, S => ∃ u us' S1 S2, us = u :: us' ∧ S = S1 ++ S2 ∧ xs1 w F v u S1 ∧ te0 w F vs us' S2
def do1 (P : Program) (f : FuncId) (args args' : List AV) (r : AV) : Prop :=
 qG0 P f ∧ yu0 r = true ∧ ∀ (w : World) (F : Fz) (us : List Value) (S : List Nat), FzOk w F → te0 w F args us S → S.Nodup → (∀ b, b ∈ S → b < w.heap.size ∧ ∀ o, ¬ F b o) →
  Calls P f us.toArray w fun e w' => ∃ v S', e = .returned v ∧ RepAV w' F noLk g0 r v ∧ te0 w' F args' us S' ∧ S'.Nodup ∧ (∀ b, b ∈ S' → (b ∈ S ∨ w.heap.size ≤ b) ∧ b < w'.heap.size) ∧
   w'.os = w.os ∧ w'.tape = w.tape ∧ w'.output = w.output ∧ w.heap.size ≤ w'.heap.size ∧ ∀ k, k < w.heap.size → k ∉ S → w'.heap[k]? = w.heap[k]?
section
variable {w0 : World} {M0 : Ms} {F0 F : Fz} {g : Gh} {s : St} {a : Act} {w w' : World}
structure Off (w0 : World) (M0 : Ms) (F : Fz) (g : Gh) (s : St) (w : World) (S : List Nat) : Prop where
 nd : S.Nodup
 un : ∀ b, b ∈ S → ∀ o, ¬ F b o
 dj : ∀ l B, s.lb l = some B → ∀ b, b ∈ g.ds l → b ∉ S
 nw : ∀ b, b ∈ S → (w0.heap.size ≤ b ∨ b ∈ M0) ∧ b < w.heap.size
theorem Off.nil : Off w0 M0 F g s w [] := ⟨by simp, by simp, by simp, by simp⟩
theorem wO1 (h : Sim w0 M0 F0 F g s a w) {k i : Nat} {xs : List (Option C)} (hl : s.lb k = some (.tok xs)) {u : Value} (hu : RepAC w F s.lb g (.tk k i) u) :
  ∃ us : List Value, g.hd k = .agg us.toArray ∧ us[i]? = some u ∧ OwnTs w xs us (g.ds k) := by
 simp only [RepAC] at hu
 obtain ⟨_, B, hB, hq⟩ := hu
 rw [hl] at hB
 obtain rfl := Option.some.inj hB
 obtain ⟨us, hq1, hq2⟩ := hq
 obtain ⟨us', h1, h2⟩ := h.lb k _ hl
 rw [hq1] at h1
 obtain rfl : us = us' := by simpa using h1
 exact ⟨us, hq1, hq2, h2⟩
theorem Sim.takeTok (h : Sim w0 M0 F0 F g s a w) {S : List Nat} (ho : Off w0 M0 F g s w S) {k i : Nat} {xs : List (Option C)} {x : C} (hl : s.lb k = some (.tok xs)) (hx : xs[i]? = some (some x)) {u : Value} (hu : RepAC w F s.lb g (.tk k i) u) :
  ∃ g' Si, Sim w0 M0 F0 F g' (s.put k (.tok (xs.set i none))) a w ∧ Off w0 M0 F g' (s.put k (.tok (xs.set i none))) w (S ++ Si) ∧ Own w x u Si ∧
   ∀ v u, RepAV w F s.lb g v u → RepAV w F (s.put k (.tok (xs.set i none))).lb g' v u := by
 obtain ⟨us, h1, h2, h3⟩ := wO1 h hl hu
 obtain ⟨u', SA, Si, SB, h4, h5, h6, h7, _⟩ := OwnTs.get _ _ _ _ _ h3 hx
 rw [h2] at h4
 obtain rfl := Option.some.inj h4
 have hnd := h.nd k _ hl
 have hso := h.so k _ hl
 simp only [SoftOk] at hso
 rw [h5] at hnd hso
 have hsub : ∀ b, b ∈ SA ++ SB → b ∈ g.ds k := fun b hb => by rw [h5]; simp at hb ⊢; rcases hb with hb | hb <;> simp [hb]
 have hsi : ∀ b, b ∈ Si → b ∈ g.ds k := fun b hb => by rw [h5]; simp [hb]
 have hsep : ∀ b, b ∈ SA ++ SB → b ∉ Si := fun b hb hb' => by
  rw [List.nodup_append] at hnd
  obtain ⟨_, n2, n3⟩ := hnd
  rw [List.nodup_append] at n2
  rcases List.mem_append.1 hb with hb | hb
  ·exact n3 b hb b (by simp [hb']) rfl
  ·exact n2.2.2 b hb' b hb rfl
 have hnd' : (SA ++ SB).Nodup := by
  rw [List.nodup_append] at hnd ⊢
  obtain ⟨n1, n2, n3⟩ := hnd
  rw [List.nodup_append] at n2
  exact ⟨n1, n2.2.1, fun x hx y hy => n3 x hx y (by simp [hy])⟩
 have hndi : Si.Nodup := by
  rw [List.nodup_append] at hnd
  have := hnd.2.1
  rw [List.nodup_append] at this
  exact this.1
 have hc : ∀ B, s.lb k = some B → (∀ n u, zK0 B (g.hd k) n u → zK0 (.tok (xs.set i none)) (g.hd k) n u) ∧ (∀ off u, za0 B (g.bl k) off u → za0 (.tok (xs.set i none)) (g.bl k) off u) ∧
   (∀ n i' off u, zx0 B (g.hd k) n i' off u → zx0 (.tok (xs.set i none)) (g.hd k) n i' off u) ∧ (∀ i' u, qg0 B (g.hd k) i' u → qg0 (.tok (xs.set i none)) (g.hd k) i' u) := by
  intro B hB
  rw [hl] at hB
  obtain rfl := Option.some.inj hB
  exact ⟨fun _ _ h => h, fun _ _ h => h, fun _ _ _ _ h => h, fun _ _ h => h⟩
 refine ⟨g.upd k (g.bl k) (g.hd k) (SA ++ SB), Si, h.putLB hc ?_ ?_ hnd' ?_ ?_, ?_, h6, ?_⟩
 ·exact ⟨us, by simp [Gh.upd, h1], by simpa [Gh.upd] using h7 none [] rfl⟩
 ·simp only [SoftOk, Gh.upd, if_true]
  exact fun b hb o => hso b (by simp at hb ⊢; rcases hb with hb | hb <;> simp [hb]) o
 ·intro l' B hne hB b hb hb'
  exact h.dj l' k B _ hne hB hl b hb' (hsub b hb)
 ·intro b hb
  exact h.nw k _ hl b (hsub b hb)
 ·refine ⟨?_, ?_, ?_, ?_⟩
  ·rw [List.nodup_append]
   exact ⟨ho.nd, hndi, fun x hx y hy hxy => by subst hxy; exact ho.dj k _ hl x (hsi x hy) hx⟩
  ·intro b hb
   rcases List.mem_append.1 hb with hb | hb
   ·exact ho.un b hb
   ·exact hso b (by simp [hb])
  ·intro l B hB b hb hb'
   by_cases e : l = k
   ·subst e
    simp only [Gh.upd, if_true] at hb
    rcases List.mem_append.1 hb' with hb' | hb'
    ·exact ho.dj l _ hl b (hsub b hb) hb'
    ·exact hsep b hb hb'
   ·simp only [St.put_lb, if_neg e] at hB
    simp only [Gh.upd, if_neg e] at hb
    rcases List.mem_append.1 hb' with hb' | hb'
    ·exact ho.dj l B hB b hb hb'
    ·exact h.dj l k B _ e hB hl b hb (hsi b hb')
  ·intro b hb
   rcases List.mem_append.1 hb with hb | hb
   ·exact ho.nw b hb
   ·exact h.nw k _ hl b (hsi b hb)
 ·exact fun v u hv => RepAV.mono (Stays.refl _ _) (Keeps.upd hc) v u hv
theorem OwnTs.give : ∀ (os : List (Option C)) (us : List Value) (S : List Nat) (i : Nat) (c : C) (u : Value) (Si : List Nat), OwnTs w os us S → os[i]? = some none → us[i]? = some u → Own w c u Si →
  ∃ SA SB, S = SA ++ SB ∧ OwnTs w (os.set i (some c)) us (SA ++ (Si ++ SB))
 | [], _, _, i, _, _, _, _, h, _, _ => by simp at h
 | o :: os, us, S, 0, c, u, Si, h, hi, hu, hc => by
  simp only [OwnTs] at h
  obtain ⟨u0, us', S1, S2, rfl, rfl, h3, h4⟩ := h
  simp at hi hu; subst hi hu
  have h3 : S1 = [] := h3
  subst h3
  refine ⟨[], S2, rfl, ?_⟩
  simp only [List.set_cons_zero, OwnTs, List.nil_append]
  exact ⟨u0, us', Si, S2, rfl, rfl, hc, h4⟩
 | o :: os, us, S, i + 1, c, u, Si, h, hi, hu, hc => by
  simp only [OwnTs] at h
  obtain ⟨u0, us', S1, S2, rfl, rfl, h3, h4⟩ := h
  obtain ⟨SA, SB, rfl, k2⟩ := OwnTs.give os us' S2 i c u Si h4 (by simpa using hi) (by simpa using hu) hc
  refine ⟨S1 ++ SA, SB, by simp, ?_⟩
  simp only [List.set_cons_succ, OwnTs]
  exact ⟨u0, us', S1, SA ++ (Si ++ SB), rfl, by simp, h3, k2⟩
end
def rV0 (k : Nat) (B : LB) (lb : Lk) : Lk := fun l => if l = k then some B else lb l
def kr1 : AC → AC → Lk → (Lk → Prop) → Prop
 | .tk k i, .m x, lb, K => (match lb k with
  | some (.tok xs) => xs[i]? = some (some x) ∧ K (rV0 k (.tok (xs.set i none)) lb)
  | _ => False)
 | .c y, .c y', lb, K => y = y' ∧ K lb
 | _, _, _, _ => False
def wI1 : List AC → List AC → Lk → (Lk → Prop) → Prop
 | [], [], lb, K => K lb
 | a :: as, d :: ds, lb, K => kr1 a d lb fun lb => wI1 as ds lb K
 | _, _, _, _ => False
def xM1 : AV → AV → Lk → (Lk → Prop) → Prop
 | .one a, .one d, lb, K => kr1 a d lb K
 | .agg as, .agg ds, lb, K => wI1 as ds lb K
 | _, _, _, _ => False
def wJ1 : List AV → List AV → Lk → (Lk → Prop) → Prop
 | [], [], lb, K => K lb
 | a :: as, d :: ds, lb, K => xM1 a d lb fun lb => wJ1 as ds lb K
 | _, _, _, _ => False
def jy1 : AC → AC → Lk → (Lk → Prop) → Prop
 | .tk k i, .m x, lb, K => (match lb k with
  | some (.tok xs) => xs[i]? = some none ∧ K (rV0 k (.tok (xs.set i (some x))) lb)
  | _ => False)
 | .c _, .c _, lb, K => K lb
 | _, _, _, _ => False
def zi1 : List AC → List AC → Lk → (Lk → Prop) → Prop
 | [], [], lb, K => K lb
 | a :: as, d :: ds, lb, K => jy1 a d lb fun lb => zi1 as ds lb K
 | _, _, _, _ => False
def vf1 : AV → AV → Lk → (Lk → Prop) → Prop
 | .one a, .one d, lb, K => jy1 a d lb K
 | .agg as, .agg ds, lb, K => zi1 as ds lb K
 | _, _, _, _ => False
def zj1 : List AV → List AV → Lk → (Lk → Prop) → Prop
 | [], [], lb, K => K lb
 | a :: as, d :: ds, lb, K => vf1 a d lb fun lb => zj1 as ds lb K
 | _, _, _, _ => False
def St.withLb (s : St) (lb : Lk) : St := { s with lb := lb }
section
variable {w0 : World} {M0 : Ms} {F0 F : Fz} {a : Act} {w w' : World}
structure Rest (w0 : World) (M0 : Ms) (F0 F : Fz) (s : St) (lb : Lk) (a : Act) (w : World) (S : List Nat) (vs : List AV) (us : List Value) : Prop where
 ex : ∃ g, Sim w0 M0 F0 F g (s.withLb lb) a w ∧ Off w0 M0 F g (s.withLb lb) w S ∧ RepAVs w F lb g vs us
end
end Go.Ai
namespace Go.Ai
open Go.RowKit
variable {P : Program}
def gA (v : Value) (S : List Nat) : Gh := ⟨fun _ => 0, fun _ => v, fun _ => S⟩
def clA : AC → Bool
 | .c _ => true
 | .nil => true
 | .e1 => true
 | .e0 => true
 | .m _ => true
 | _ => false
def clR (rows : List (List AC)) : Prop := ∀ r, r ∈ rows → ∀ a, a ∈ r → clA a = true
def vW1 (v : Value) (vs : List Value) : Value := match vs with
 | [] => v
 | vs => .tuple (v :: vs).toArray
def wj1 (t n : Nat) (rest : List AV) : AV := match rest with
 | [] => .one (.own t n)
 | rest => .tup (.one (.own t n) :: rest)
def ff0 (P : Program) (f : FuncId) (pre post : List AV) (e : TypeId) (sz : Nat) (rows rows' : List (List AC)) (rest : List AV) : Prop :=
 qG0 P f ∧ 0 < sz ∧ rest.all yk0 = true ∧ clR rows ∧ clR rows' ∧ noD rows = true ∧ noD rows' = true ∧
 ∀ (w : World) (F : Fz) (us1 : List Value) (v0 : Value) (us2 : List Value) (S : List Nat), FzOk w F → RepAVs w F noLk g0 pre us1 → RepAVs w F noLk g0 post us2 →
  RepLB w F noLk (gA v0 S) 0 (.arr e sz rows false) → S.Nodup → (∀ b, b ∈ S → b < w.heap.size ∧ ∀ o, ¬ F b o) →
  Calls P f (us1 ++ v0 :: us2).toArray w fun ex w' => ∃ v vs F' S', ex = .returned (vW1 v vs) ∧ RepAVs w' F' noLk g0 rest vs ∧ RepLB w' F' noLk (gA v S') 0 (.arr e sz rows' false) ∧ S'.Nodup ∧
   (∀ b, b ∈ S' → (b ∈ S ∨ w.heap.size ≤ b) ∧ b < w'.heap.size ∧ ∀ o, ¬ F' b o) ∧ (∀ b o, F b o → F' b o) ∧ (∀ b o, F' b o → F b o ∨ w.heap.size ≤ b ∨ b ∈ S) ∧ (∀ b o, F' b o → b < w'.heap.size) ∧
   w'.os = w.os ∧ w'.tape = w.tape ∧ w'.output = w.output ∧ w.heap.size ≤ w'.heap.size ∧ ∀ k, k < w.heap.size → k ∉ S → w'.heap[k]? = w.heap[k]?
def vk1 (rest : List AV) : AV := match rest with
 | [] => .any
 | rest => .tup (.any :: rest)
def dU1 (P : Program) (f : FuncId) (pre post : List AV) (e : TypeId) (sz : Nat) (rows : List (List AC)) (rest : List AV) : Prop :=
 qG0 P f ∧ 0 < sz ∧ rest.all yk0 = true ∧ clR rows ∧ noD rows = true ∧
 ∀ (w : World) (F : Fz) (us1 : List Value) (v0 : Value) (us2 : List Value) (S : List Nat), FzOk w F → RepAVs w F noLk g0 pre us1 → RepAVs w F noLk g0 post us2 →
  RepLB w F noLk (gA v0 S) 0 (.arr e sz rows false) → S.Nodup → (∀ b, b ∈ S → b < w.heap.size ∧ ∀ o, ¬ F b o) →
  Calls P f (us1 ++ v0 :: us2).toArray w fun ex w' => ∃ v vs F', ex = .returned (vW1 v vs) ∧ RepAVs w' F' noLk g0 rest vs ∧
   (∀ b o, F b o → F' b o) ∧ (∀ b o, F' b o → F b o ∨ w.heap.size ≤ b ∨ b ∈ S) ∧ (∀ b o, F' b o → b < w'.heap.size) ∧
   w'.os = w.os ∧ w'.tape = w.tape ∧ w'.output = w.output ∧ w.heap.size ≤ w'.heap.size ∧ ∀ k, k < w.heap.size → k ∉ S → w'.heap[k]? = w.heap[k]?
def xu1 (P : Program) (f : FuncId) (pre post : List AV) (e : TypeId) (sz : Nat) (rows : List (List AC)) (r : AV) : Prop :=
 qG0 P f ∧ 0 < sz ∧ clR rows ∧
 ∀ (w : World) (F : Fz) (us1 : List Value) (v0 : Value) (us2 : List Value) (S : List Nat), FzOk w F → RepAVs w F noLk g0 pre us1 → RepAVs w F noLk g0 post us2 →
  RepLB w F noLk (gA v0 S) 0 (.arr e sz rows false) → (∀ b, b ∈ S → b < w.heap.size) →
  Calls P f (us1 ++ v0 :: us2).toArray w fun ex w' => ∃ v, ex = .returned v ∧ Below w.heap.size w w' ∧ RepAV w' F noLk g0 r v
section
variable {w0 : World} {M0 : Ms} {F0 F F' : Fz} {g g' : Gh} {s : St} {a : Act} {w w' : World} {lb lb' : Lk}
theorem wu1 {x : AC} (hc : clA x = true) {u : Value} {S : List Nat} (h : RepCell w F lb g x u S) : RepCell w F lb' g' x u S := by
 cases x
 case c y => exact ⟨by simpa only [RepAC] using h.1, h.2⟩
 case nil => exact ⟨by simpa only [RepAC] using h.1, h.2⟩
 case e1 => exact ⟨by simpa only [RepAC] using h.1, h.2⟩
 case e0 => exact ⟨by simpa only [RepAC] using h.1, h.2⟩
 case m y => exact h
 all_goals cases hc
theorem dI0 : ∀ {as : List AC} {us : List Value} {S : List Nat}, (∀ a, a ∈ as → clA a = true) → RepCells w F lb g as us S → RepCells w F lb' g' as us S
 | [], _, _, _, h => by simpa only [RepCells] using h
 | x :: as, us, S, hc, h => by
  simp only [RepCells] at h ⊢
  obtain ⟨u, us', S1, S2, h1, h2, h3, h4⟩ := h
  exact ⟨u, us', S1, S2, h1, h2, wu1 (hc x (by simp)) h3, dI0 (fun y hy => hc y (by simp [hy])) h4⟩
theorem wn0 {l l' : Nat} {e : TypeId} {sz : Nat} {rows : List (List AC)} {fz fz' : Bool} (hc : clR rows) (e1 : g'.hd l' = g.hd l) (e2 : g'.ds l' = g.ds l) (h : RepLB w F lb g l (.arr e sz rows fz)) : RepLB w F lb' g' l' (.arr e sz rows fz') := by
 obtain ⟨h1, h2, xs, S, h3, h4, h5⟩ := h
 refine ⟨h1, h2, xs, S, by rw [e1]; exact h3, dI0 (fun a ha => ?_) h4, by rw [e1, e2]; exact h5⟩
 obtain ⟨r, hr, ha⟩ := List.mem_flatten.1 ha
 exact hc r hr a ha
theorem SoftOk.turn {l : Nat} {B : LB} (hr : RepLB w F lb g l B) (hf : ∀ b, b ∈ g.ds l → ∀ o, F' b o → F b o) (h : SoftOk F g l B) : SoftOk F' g l B := by
 cases B with
 | var cells =>
  obtain ⟨_, _, _, _, hd⟩ := hr
  simp only [SoftOk] at h ⊢
  exact fun o hq => h o (hf _ (by rw [hd]; simp) o hq)
 | arr e sz rows fz =>
  obtain ⟨_, _, _, _, _, _, hd⟩ := hr
  simp only [SoftOk] at h ⊢
  exact ⟨fun b hb o hc hq => h.1 b hb o hc (hf b (by rw [hd]; simp [hb]) o hq), fun hz hn b hb o hq => h.2 hz hn b hb o (hf b hb o hq)⟩
 | tok x =>
  simp only [SoftOk] at h ⊢
  exact fun b hb o hq => h b hb o (hf b hb o hq)
 | dead => trivial
theorem bP0 (h : Sim w0 M0 F0 F g s a w) {S : List Nat} (ho : Off w0 M0 F g s w S) {fid : FuncId} {pre post : List AV} {e : TypeId} {sz : Nat} {rows rows' : List (List AC)} {rest : List AV} (hsat : ff0 P fid pre post e sz rows rows' rest)
  {us1 us2 : List Value} {v0 : Value} (h1 : RepAVs w F noLk g0 pre us1) (h2 : RepAVs w F noLk g0 post us2) (hr : RepLB w F noLk (gA v0 S) 0 (.arr e sz rows false)) {t : Nat} (ht : s.lb t = none) :
  Calls P fid (us1 ++ v0 :: us2).toArray w fun ex w' => ∃ v F' g', ex = .returned v ∧ Sim w0 M0 F0 F' g' (s.put t (.arr e sz rows' false)) a w' ∧ RepAV w' F' (s.put t (.arr e sz rows' false)).lb g' (wj1 t rows'.length rest) v := by
 obtain ⟨_, hsz, hpl, hcl, hcl', hnd, hnd', hcall⟩ := hsat
 refine (hcall w F us1 v0 us2 S h.fz h1 h2 hr ho.nd (fun b hb => ⟨(ho.nw b hb).2, ho.un b hb⟩)).mono ?_
 rintro ex w' ⟨v, vs, F', S', rfl, hrest, hrow, hnS, hS, hup, hnew, hlt, hos, htp, hout, hsize, hfr⟩
 have nS : ∀ b o, F b o → b ∉ S := fun b o hf hb => ho.un b hb o hf
 have hg : Grows w0 M0 F F' g s w w' := {
  stays := ⟨hup, fun b o hb => zL0 (hfr b (h.f2 b o hb) (nS b o hb)) o⟩
  mine := fun l B hl b hb => hfr b (h.nw l B hl b hb).2 (ho.dj l B hl b hb)
  so := fun l B hl => (h.so l B hl).turn (h.lb l B hl) (fun b hb o hq => by
   rcases hnew b o hq with hq | hq | hq
   ·exact hq
   ·have := (h.nw l B hl b hb).2; omega
   ·exact absurd hq (ho.dj l B hl b hb))
  f1 := fun b o hq => by
   rcases hnew b o hq with hq | hq | hq
   ·exact .inl hq
   ·exact .inr (.inl (Nat.le_trans h.size hq))
   ·exact .inr (ho.nw b hq).1
  f2 := hlt
  os := hos
  tape := htp
  output := hout
  size := hsize
  block := fun k hk hm => hfr k (Nat.lt_of_lt_of_le hk h.size) (fun hq => by
   rcases (ho.nw k hq).1 with hq | hq
   ·omega
   ·exact hm hq) }
 have h3 := h.grows hg
 have hone : v.oneCell' = true := by
  obtain ⟨_, _, xs, _, hown, _⟩ := hrow
  rcases hown.2 with ⟨e1, _⟩ | ⟨_, _, _, e1, _⟩ <;> (have e1 : v = _ := e1; rw [e1]; rfl)
 have h4 := h3.putLB (l := t) (b := g.bl t) (v := v) (S := S') (B' := .arr e sz rows' false) (fun B hB => by rw [ht] at hB; cases hB)
  (wn0 (g := gA v S') (l := 0) hcl' (by simp [Gh.upd, gA]) (by simp [Gh.upd, gA]) hrow)
  (by
   simp only [SoftOk]
   refine ⟨fun b hb o _ => ?_, fun _ _ b hb o => ?_⟩
   ·obtain ⟨_, _, _, _, _, _, hd⟩ := hrow
    simp only [Gh.upd, if_true] at hb
    exact (hS b (by have : S' = zV0 v ++ _ := hd; rw [this]; simp [hb])).2.2 o
   ·simp only [Gh.upd, if_true] at hb
    exact (hS b hb).2.2 o)
  hnS
  (fun l' B hne hB k hk hk' => by
   rcases (hS k hk).1 with hq | hq
   ·exact ho.dj l' B hB k hk' hq
   ·have := (h.nw l' B hB k hk').2; omega)
  (fun k hk => by
   refine ⟨?_, (hS k hk).2.1⟩
   rcases (hS k hk).1 with hq | hq
   ·exact (ho.nw k hq).1
   ·exact .inl (Nat.le_trans h.size hq))
 refine ⟨vW1 v vs, F', _, rfl, h4, ?_⟩
 have hv : RepAC w' F' (s.put t (.arr e sz rows' false)).lb (g.upd t (g.bl t) v S') (.own t rows'.length) v := by
  simp only [RepAC]
  exact ⟨hone, .arr e sz rows' false, by simp only [St.put_lb, if_true], Nat.le_refl _, fun _ => by simp [Gh.upd]⟩
 have hrest' : RepAVs w' F' (s.put t (.arr e sz rows' false)).lb (g.upd t (g.bl t) v S') rest vs := wu0 hpl hrest
 cases rest with
 | nil =>
  simp only [RepAVs] at hrest'
  subst hrest'
  exact hv
 | cons r rest =>
  have : vs ≠ [] := by
   intro e; subst e; simp [RepAVs] at hrest'
  obtain ⟨u, us, rfl⟩ := List.exists_cons_of_ne_nil this
  exact ⟨v :: u :: us, rfl, v, u :: us, rfl, hv, hrest'⟩
end
def yz1 (vs : List AV) (k : Nat) (e : TypeId) (sz : Nat) (rows : List (List AC)) (s : St) : Prop :=
 (vs.take k).flatMap AV.owns = [] ∧ (vs.drop (k + 1)).flatMap AV.owns = [] ∧
 match vs[k]? with
 | some (.one (.own l n)) => n = rows.length ∧ s.lb l = some (.arr e sz rows false)
 | some (.one .nil) => rows = []
 | _ => False
def ye0 (vs : List AV) (k : Nat) (s : St) : St :=
 match vs[k]? with
 | some (.one (.own l _)) => s.put l .dead
 | _ => s
section
variable {w0 : World} {M0 : Ms} {F0 F F' : Fz} {g g' : Gh} {s : St} {a : Act} {w w' : World} {lb lb' : Lk}
theorem wO0 : ∀ {vs ds : List AV} (k : Nat), zJ0 lb vs ds → zJ0 lb (vs.take k) (ds.take k)
 | [], ds, k, h => by simp only [zJ0] at h; subst h; simp [zJ0]
 | v :: vs, ds, 0, h => by simp [zJ0]
 | v :: vs, ds, k + 1, h => by
  simp only [zJ0] at h
  obtain ⟨d, ds', rfl, h1, h2⟩ := h
  simp only [List.take_succ_cons, zJ0]
  exact ⟨d, _, rfl, h1, wO0 k h2⟩
theorem wN0 : ∀ {vs ds : List AV} (k : Nat), zJ0 lb vs ds → zJ0 lb (vs.drop k) (ds.drop k)
 | [], ds, k, h => by simp only [zJ0] at h; subst h; simp [zJ0]
 | v :: vs, ds, 0, h => h
 | v :: vs, ds, k + 1, h => by
  simp only [zJ0] at h
  obtain ⟨d, ds', rfl, h1, h2⟩ := h
  exact wN0 k h2
theorem RepAVs.takeL : ∀ {vs : List AV} {us : List Value} (k : Nat), RepAVs w F lb g vs us → RepAVs w F lb g (vs.take k) (us.take k)
 | [], us, k, h => by simp only [RepAVs] at h; subst h; simp [RepAVs]
 | v :: vs, us, 0, h => by simp [RepAVs]
 | v :: vs, us, k + 1, h => by
  simp only [RepAVs] at h
  obtain ⟨u, us', rfl, h1, h2⟩ := h
  exact ⟨u, _, rfl, h1, RepAVs.takeL k h2⟩
theorem RepAVs.dropL : ∀ {vs : List AV} {us : List Value} (k : Nat), RepAVs w F lb g vs us → RepAVs w F lb g (vs.drop k) (us.drop k)
 | [], us, k, h => by simp only [RepAVs] at h; subst h; simp [RepAVs]
 | v :: vs, us, 0, h => h
 | v :: vs, us, k + 1, h => by
  simp only [RepAVs] at h
  obtain ⟨u, us', rfl, h1, h2⟩ := h
  exact RepAVs.dropL k h2
theorem RepAVs.getL : ∀ {vs : List AV} {us : List Value} {k : Nat} {v : AV}, RepAVs w F lb g vs us → vs[k]? = some v → ∃ u, us = us.take k ++ u :: us.drop (k + 1) ∧ RepAV w F lb g v u
 | [], us, k, v, h, hk => by simp at hk
 | v :: vs, us, 0, x, h, hk => by
  simp only [RepAVs] at h
  obtain ⟨u, us', rfl, h1, h2⟩ := h
  simp at hk; subst hk
  exact ⟨u, by simp, h1⟩
 | v :: vs, us, k + 1, x, h, hk => by
  simp only [RepAVs] at h
  obtain ⟨u, us', rfl, h1, h2⟩ := h
  obtain ⟨u', e, h3⟩ := RepAVs.getL h2 (by simpa using hk)
  exact ⟨u', by simp [← e], h3⟩
theorem qW0 (h : Sim w0 M0 F0 F g s a w) {vs ds : List AV} {us : List Value} (ho : vs.flatMap AV.owns = []) (hv : zJ0 s.lb vs ds) (hu : RepAVs w F s.lb g vs us) : RepAVs w F noLk g0 ds us :=
 zW0 h (fun _ _ hb => hb) vs ds us hv hu (fun l hl => by rw [ho] at hl; cases hl)
theorem tg0 (h : Sim w0 M0 F0 F g s a w) {vs ds : List AV} {us : List Value} (hv : RepAVs w F s.lb g vs us) (hw : zJ0 s.lb vs ds) {k : Nat} {fid : FuncId} {e : TypeId} {sz : Nat} {rows rows' : List (List AC)} {rest : List AV}
  (hsat : ff0 P fid (ds.take k) (ds.drop (k + 1)) e sz rows rows' rest) (hk : yz1 vs k e sz rows s) {t : Nat} (ht : s.lb t = none) :
  Calls P fid us.toArray w fun ex w' => ∃ v F' g', ex = .returned v ∧ Sim w0 M0 F0 F' g' ((ye0 vs k s).put t (.arr e sz rows' false)) a w' ∧ RepAV w' F' ((ye0 vs k s).put t (.arr e sz rows' false)).lb g' (wj1 t rows'.length rest) v := by
 obtain ⟨ho1, ho2, hk⟩ := hk
 have r1 := qW0 h ho1 (wO0 k hw) (hv.takeL k)
 have r2 := qW0 h ho2 (wN0 (k + 1) hw) (hv.dropL (k + 1))
 unfold ye0
 split at hk
 ·rename_i l n hvk
  obtain ⟨rfl, hl⟩ := hk
  obtain ⟨u, hus, hu⟩ := hv.getL hvk
  rw [hus]
  have hnd : noD rows = true := hsat.2.2.2.2.2.1
  have hun : ∀ b, b ∈ g.ds l → ∀ o, ¬ F b o := (h.so l _ hl).2 rfl hnd
  simp only [RepAV, RepAC] at hu
  obtain ⟨_, B, hB, hq⟩ := hu
  rw [hl] at hB
  obtain rfl := Option.some.inj hB
  have hux : u = g.hd l := hq.2 rfl
  subst hux
  have hd := h.putLB (l := l) (b := g.bl l) (v := g.hd l) (S := []) (B' := .dead) (fun B hB => ⟨fun _ _ _ => trivial, fun _ _ _ => trivial, fun _ _ _ _ _ => trivial, fun _ _ _ => trivial⟩) trivial trivial (by simp) (fun _ _ _ _ k hk => by cases hk) (fun k hk => by cases hk)
  have hoff : Off w0 M0 F (g.upd l (g.bl l) (g.hd l) []) (s.put l .dead) w (g.ds l) := by
   refine ⟨h.nd l _ hl, hun, fun l' B hB b hb hb' => ?_, fun b hb => h.nw l _ hl b hb⟩
   by_cases e : l' = l
   ·subst e; simp [Gh.upd] at hb
   ·simp only [Gh.upd, if_neg e] at hb
    simp only [St.put_lb, if_neg e] at hB
    exact h.dj l' l B _ e hB hl b hb hb'
  have hne : t ≠ l := fun e => by rw [e, hl] at ht; cases ht
  have := bP0 hd hoff hsat r1 r2 (wn0 (g := g) (l := l) hsat.2.2.2.1 rfl rfl (h.lb l _ hl)) (t := t) (by simp only [St.put_lb, if_neg hne]; exact ht)
  rw [hvk]
  exact this
 ·rename_i hvk
  obtain ⟨u, hus, hu⟩ := hv.getL hvk
  rw [hus, hvk]
  subst hk
  simp only [RepAV, RepAC] at hu
  subst hu
  refine bP0 h (S := []) Off.nil hsat r1 r2 ⟨hsat.2.1, by simp, [], [], ⟨by simp, .inl ⟨rfl, rfl⟩⟩, ⟨rfl, rfl⟩, rfl⟩ ht
 ·exact hk.elim
theorem mn0 (h : Sim w0 M0 F0 F g s a w) {vs ds : List AV} {us : List Value} (hv : RepAVs w F s.lb g vs us) (hw : zJ0 s.lb vs ds) {k : Nat} {fid : FuncId} {e : TypeId} {sz : Nat} {rows : List (List AC)} {r : AV}
  (hsat : xu1 P fid (ds.take k) (ds.drop (k + 1)) e sz rows r) (hk : yz1 vs k e sz rows s) :
  Calls P fid us.toArray w fun ex w' => ∃ v, ex = .returned v ∧ Sim w0 M0 F0 F g s a w' ∧ RepAV w' F s.lb g r v := by
 obtain ⟨ho1, ho2, hk⟩ := hk
 have r1 := qW0 h ho1 (wO0 k hw) (hv.takeL k)
 have r2 := qW0 h ho2 (wN0 (k + 1) hw) (hv.dropL (k + 1))
 have main : ∀ {ex : Ending} {w' : World}, (∃ v, ex = .returned v ∧ Below w.heap.size w w' ∧ RepAV w' F noLk g0 r v) → ∃ v, ex = .returned v ∧ Sim w0 M0 F0 F g s a w' ∧ RepAV w' F s.lb g r v := by
  rintro ex w' ⟨v, rfl, hbel, hr⟩
  refine ⟨v, rfl, h.grows {
   stays := ⟨fun _ _ hb => hb, fun b o hb => zL0 (hbel.block b (h.f2 b o hb)) o⟩
   mine := fun l B hl b hb => hbel.block b (h.nw l B hl b hb).2
   so := fun l B hl => h.so l B hl
   f1 := fun b o hq => .inl hq
   f2 := fun b o hq => Nat.lt_of_lt_of_le (h.f2 b o hq) hbel.size
   os := hbel.os
   tape := hbel.tape
   output := hbel.output
   size := hbel.size
   block := fun k hk _ => hbel.block k (Nat.lt_of_lt_of_le hk h.size) }, RepAV.mono (Stays.refl _ _) ⟨fun l B hl => by simp [noLk] at hl⟩ _ _ hr⟩
 split at hk
 ·rename_i l n hvk
  obtain ⟨rfl, hl⟩ := hk
  obtain ⟨u, hus, hu⟩ := hv.getL hvk
  rw [hus]
  simp only [RepAV, RepAC] at hu
  obtain ⟨_, B, hB, hq⟩ := hu
  rw [hl] at hB
  obtain rfl := Option.some.inj hB
  have hux : u = g.hd l := hq.2 rfl
  subst hux
  exact (hsat.2.2.2 w F _ _ _ (g.ds l) h.fz r1 r2 (wn0 (g := g) (l := l) hsat.2.2.1 rfl rfl (h.lb l _ hl)) (fun b hb => (h.nw l _ hl b hb).2)).mono fun _ _ hq => main hq
 ·rename_i hvk
  obtain ⟨u, hus, hu⟩ := hv.getL hvk
  rw [hus]
  subst hk
  simp only [RepAV, RepAC] at hu
  subst hu
  exact (hsat.2.2.2 w F _ _ _ [] h.fz r1 r2 ⟨hsat.2.1, by simp, [], [], ⟨by simp, .inl ⟨rfl, rfl⟩⟩, ⟨rfl, rfl⟩, rfl⟩ (fun b hb => by cases hb)).mono fun _ _ hq => main hq
 ·exact hk.elim
end
end Go.Ai
namespace Go.Ai
open Go.RowKit
variable {P : Program}
def lbO (e : TypeId) (sz : Nat) (rows : List (List AC)) : Lk := fun l => if l = 0 then some (.arr e sz rows false) else none
def kg1 (t : Nat) : AC → AC
 | .own _ n => .own t n
 | a => a
mutual
def lK0 (t : Nat) : AV → AV
 | .one a => .one (kg1 t a)
 | .agg as => .agg (as.map (kg1 t))
 | .tup vs => .tup (renVs t vs)
 | .any => .any
def renVs (t : Nat) : List AV → List AV
 | [] => []
 | v :: vs => lK0 t v :: renVs t vs
end
def okO : AC → Bool
 | .c _ => true
 | .own _ _ => true
 | _ => false
mutual
def cE0 : AV → Bool
 | .one a => okO a
 | .agg as => as.all okO
 | .tup vs => okOVs vs
 | .any => true
def okOVs : List AV → Bool
 | [] => true
 | v :: vs => cE0 v && okOVs vs
end
def SatO (P : Program) (f : FuncId) (args : List AV) (e : TypeId) (sz : Nat) (rows : List (List AC)) (r : AV) : Prop :=
 qG0 P f ∧ 0 < sz ∧ clR rows ∧ noD rows = true ∧ cE0 r = true ∧
 ∀ (w : World) (F : Fz) (us : List Value), FzOk w F → RepAVs w F noLk g0 args us →
  Calls P f us.toArray w fun ex w' => ∃ v F' v0 S, ex = .returned v ∧ RepAV w' F' (lbO e sz rows) (gA v0 S) r v ∧ RepLB w' F' noLk (gA v0 S) 0 (.arr e sz rows false) ∧ S.Nodup ∧
   (∀ b, b ∈ S → w.heap.size ≤ b ∧ b < w'.heap.size ∧ ∀ o, ¬ F' b o) ∧ (∀ b o, F b o → F' b o) ∧ (∀ b o, F' b o → F b o ∨ w.heap.size ≤ b) ∧ (∀ b o, F' b o → b < w'.heap.size) ∧ Below w.heap.size w w'
section
variable {w0 : World} {M0 : Ms} {F0 F F' : Fz} {g g' : Gh} {s : St} {a : Act} {w w' : World} {lb lb' : Lk}
theorem rD0 {e : TypeId} {sz : Nat} {rows : List (List AC)} {v0 : Value} {S : List Nat} {t : Nat} (hl : lb' t = some (.arr e sz rows false)) (hh : g'.hd t = v0) {x : AC} {u : Value} (ho : okO x = true) (h : RepAC w F (lbO e sz rows) (gA v0 S) x u) : RepAC w F lb' g' (kg1 t x) u := by
 cases x <;> try (cases ho; done)
 ·simpa only [kg1, RepAC] using h
 ·simp only [RepAC] at h
  obtain ⟨h1, B, hB, h2⟩ := h
  simp only [kg1, RepAC]
  refine ⟨h1, _, hl, ?_⟩
  unfold lbO at hB
  split at hB
  ·obtain rfl := Option.some.inj hB
   rw [hh]; exact h2
  ·cases hB
theorem gS0 {e : TypeId} {sz : Nat} {rows : List (List AC)} {v0 : Value} {S : List Nat} {t : Nat} (hl : lb' t = some (.arr e sz rows false)) (hh : g'.hd t = v0) : ∀ {xs : List AC} {us : List Value}, xs.all okO = true → RepACs w F (lbO e sz rows) (gA v0 S) xs us → RepACs w F lb' g' (xs.map (kg1 t)) us
 | [], us, _, h => by simpa only [List.map_nil, RepACs] using h
 | x :: xs, us, ho, h => by
  simp only [List.all_cons, Bool.and_eq_true] at ho
  simp only [List.map_cons, RepACs] at h ⊢
  obtain ⟨u, us', rfl, h1, h2⟩ := h
  exact ⟨u, us', rfl, rD0 hl hh ho.1 h1, gS0 hl hh ho.2 h2⟩
mutual
theorem rE0 {e : TypeId} {sz : Nat} {rows : List (List AC)} {v0 : Value} {S : List Nat} {t : Nat} (hl : lb' t = some (.arr e sz rows false)) (hh : g'.hd t = v0) : ∀ (x : AV) (u : Value), cE0 x = true → RepAV w F (lbO e sz rows) (gA v0 S) x u → RepAV w F lb' g' (lK0 t x) u
 | .one a, u, ho, h => by simp only [cE0] at ho; simp only [lK0, RepAV] at h ⊢; exact rD0 hl hh ho h
 | .agg as, u, ho, h => by
  simp only [cE0] at ho
  simp only [lK0, RepAV] at h ⊢
  obtain ⟨us, h1, h2⟩ := h
  exact ⟨us, h1, gS0 hl hh ho h2⟩
 | .tup vs, u, ho, h => by
  simp only [cE0] at ho
  simp only [lK0, RepAV] at h ⊢
  obtain ⟨us, h1, h2⟩ := h
  exact ⟨us, h1, renVs_rep hl hh vs us ho h2⟩
 | .any, _, _, _ => by simp only [lK0, RepAV]
theorem renVs_rep {e : TypeId} {sz : Nat} {rows : List (List AC)} {v0 : Value} {S : List Nat} {t : Nat} (hl : lb' t = some (.arr e sz rows false)) (hh : g'.hd t = v0) : ∀ (xs : List AV) (us : List Value), okOVs xs = true → RepAVs w F (lbO e sz rows) (gA v0 S) xs us → RepAVs w F lb' g' (renVs t xs) us
 | [], us, _, h => by simpa only [renVs, RepAVs] using h
 | x :: xs, us, ho, h => by
  simp only [okOVs, Bool.and_eq_true] at ho
  simp only [renVs, RepAVs] at h ⊢
  obtain ⟨u, us', rfl, h1, h2⟩ := h
  exact ⟨u, us', rfl, rE0 hl hh x u ho.1 h1, renVs_rep hl hh xs us' ho.2 h2⟩
end
theorem nv0 (h : Sim w0 M0 F0 F g s a w) {fid : FuncId} {ds : List AV} {e : TypeId} {sz : Nat} {rows : List (List AC)} {r : AV} (hsat : SatO P fid ds e sz rows r)
  {us : List Value} (h1 : RepAVs w F noLk g0 ds us) {t : Nat} (ht : s.lb t = none) :
  Calls P fid us.toArray w fun ex w' => ∃ v F' g', ex = .returned v ∧ Sim w0 M0 F0 F' g' (s.put t (.arr e sz rows false)) a w' ∧ RepAV w' F' (s.put t (.arr e sz rows false)).lb g' (lK0 t r) v := by
 obtain ⟨_, hsz, hcl, hnd, hok, hcall⟩ := hsat
 refine (hcall w F us h.fz h1).mono ?_
 rintro ex w' ⟨v, F', v0, S, rfl, hrep, hrow, hnS, hS, hup, hnew, hlt, hbel⟩
 have hg : Grows w0 M0 F F' g s w w' := {
  stays := ⟨hup, fun b o hb => zL0 (hbel.block b (h.f2 b o hb)) o⟩
  mine := fun l B hl b hb => hbel.block b (h.nw l B hl b hb).2
  so := fun l B hl => (h.so l B hl).turn (h.lb l B hl) (fun b hb o hq => (hnew b o hq).resolve_right (fun hq => by have := (h.nw l B hl b hb).2; omega))
  f1 := fun b o hq => (hnew b o hq).imp id (fun hq => .inl (Nat.le_trans h.size hq))
  f2 := hlt
  os := hbel.os
  tape := hbel.tape
  output := hbel.output
  size := hbel.size
  block := fun k hk _ => hbel.block k (Nat.lt_of_lt_of_le hk h.size) }
 have h3 := h.grows hg
 have h4 := h3.putLB (l := t) (b := g.bl t) (v := v0) (S := S) (B' := .arr e sz rows false) (fun B hB => by rw [ht] at hB; cases hB)
  (wn0 (g := gA v0 S) (l := 0) hcl (by simp [Gh.upd, gA]) (by simp [Gh.upd, gA]) hrow)
  (by
   simp only [SoftOk]
   refine ⟨fun b hb o _ => ?_, fun _ _ b hb o => ?_⟩
   ·obtain ⟨_, _, _, _, _, _, hd⟩ := hrow
    simp only [Gh.upd, if_true] at hb
    exact (hS b (by have : S = zV0 v0 ++ _ := hd; rw [this]; simp [hb])).2.2 o
   ·simp only [Gh.upd, if_true] at hb
    exact (hS b hb).2.2 o)
  hnS
  (fun l' B hne hB k hk hk' => by have := (hS k hk).1; have := (h.nw l' B hB k hk').2; omega)
  (fun k hk => ⟨.inl (Nat.le_trans h.size (hS k hk).1), (hS k hk).2.1⟩)
 exact ⟨v, F', _, rfl, h4, rE0 (by simp only [St.put_lb, if_true]) (by simp [Gh.upd]) r v hok hrep⟩
theorem qW1 (h : Sim w0 M0 F0 F g s a w) {vs ds : List AV} {us : List Value} (hv : RepAVs w F s.lb g vs us) (hw : zJ0 s.lb vs ds) {fid : FuncId} {e : TypeId} {sz : Nat} {rows : List (List AC)} {r : AV} (hsat : SatO P fid ds e sz rows r) {t : Nat} (ht : s.lb t = none) :
  Calls P fid us.toArray w fun ex w' => ∃ v F' g', ex = .returned v ∧ Sim w0 M0 F0 F' g' ((s.frzs (vs.flatMap AV.owns)).put t (.arr e sz rows false)) a w' ∧ RepAV w' F' ((s.frzs (vs.flatMap AV.owns)).put t (.arr e sz rows false)).lb g' (lK0 t r) v := by
 obtain ⟨F1, hF1, u1, p1⟩ := h.freezes (vs.flatMap AV.owns)
 have hds : RepAVs w F1 noLk g0 ds us := by
  have hargs1 := RepAVs.mono (w := w) (w' := w) ⟨u1, fun _ _ _ => rfl⟩ (Keeps.refl s.lb g) _ _ hv
  exact zW0 h u1 _ _ _ hw hargs1 (fun l hl => p1 l hl)
 refine nv0 hF1 hsat hds ?_
 have key : ∀ (ls : List Nat) (s : St), s.lb t = none → (s.frzs ls).lb t = none := by
  intro ls
  induction ls with
  | nil => intro s h; exact h
  | cons l ls ih =>
   intro s h
   refine ih (s.frz l) ?_
   simp only [St.frz]
   split <;> simp [h]
 exact key _ s ht
end
end Go.Ai
namespace Go.Ai
open Go.RowKit
variable {P : Program}
def toC : AC → C
 | .c x => x
 | .d x => x
 | .m x => x
 | .nil => .sl []
 | .e1 => .sl []
 | .e0 => .sl []
 | _ => .v (.bool false)
def isO : AC → Bool
 | .c (.v _) => true
 | .nil => true
 | .d _ => true
 | .m _ => true
 | _ => false
section
variable {w0 : World} {M0 : Ms} {F0 F : Fz} {g : Gh} {s : St} {a : Act} {w w' : World} {lb : Lk}
theorem md0 {u : Value} (h : u = .slice none 0 0) : Own w (.sl []) u [] := by
 simp [Own, h]
theorem kF1 {x : AC} {u : Value} {S : List Nat} (ho : isO x = true) (h : RepCell w F lb g x u S) : Own w (toC x) u S := by
 cases x
 case c x =>
  cases x with
  | v x =>
   obtain ⟨h, rfl⟩ := h
   simp only [RepAC, Rd] at h
   simp only [toC, Own]
   exact ⟨h.1, h.2, trivial⟩
  | sl rows => cases ho
 case nil =>
  obtain ⟨h, rfl⟩ := h
  simp only [RepAC] at h
  exact md0 h
 case d x => exact h.1
 case m x => exact h
 all_goals cases ho
theorem nm0 : ∀ {xs : List AC} {us : List Value} {S : List Nat}, (∀ x, x ∈ xs → isO x = true) → RepCells w F lb g xs us S → OwnCells w (xs.map toC) us S
 | [], us, S, _, h => by simp only [RepCells] at h; simp only [List.map_nil, OwnCells]; exact h
 | x :: xs, us, S, ho, h => by
  simp only [RepCells] at h
  obtain ⟨u, us', S1, S2, rfl, rfl, h1, h2⟩ := h
  simp only [List.map_cons, OwnCells]
  exact ⟨u, us', S1, S2, rfl, rfl, kF1 (ho x (by simp)) h1, nm0 (fun y hy => ho y (by simp [hy])) h2⟩
theorem bt0 {sz : Nat} : ∀ {rows : List (List AC)} {us : List Value} {S : List Nat}, (∀ r, r ∈ rows → r.length = sz) → (∀ r, r ∈ rows → ∀ x, x ∈ r → isO x = true) → RepCells w F lb g rows.flatten us S → OwnRows w sz (rows.map fun r => r.map toC) us S
 | [], us, S, _, _, h => by simp only [List.flatten_nil, RepCells] at h; simp only [List.map_nil, OwnRows]; exact h
 | r :: rows, us, S, hl, ho, h => by
  rw [List.flatten_cons] at h
  obtain ⟨u1, u2, S1, S2, rfl, rfl, h1, h2⟩ := RepCells.append_inv _ _ _ _ h
  simp only [List.map_cons, OwnRows]
  exact ⟨u1, u2, S1, S2, rfl, rfl, by simpa using hl r (by simp), nm0 (ho r (by simp)) h1, bt0 (fun q hq => hl q (by simp [hq])) (fun q hq => ho q (by simp [hq])) h2⟩
theorem bT0 {F : Fz} {l n : Nat} {e : TypeId} {sz : Nat} {rows : List (List AC)} {fz : Bool} (h : RepLB w F lb g l (.arr e sz rows fz)) (hl : lb l = some (.arr e sz rows fz)) (hn : n = rows.length) (ho : ∀ r, r ∈ rows → ∀ x, x ∈ r → isO x = true) {u : Value} (hu : RepAC w F lb g (.own l n) u) :
  Own w (.sl (rows.map fun r => r.map toC)) u (g.ds l) := by
 simp only [RepAC] at hu
 obtain ⟨_, B, hB, hq⟩ := hu
 rw [hl] at hB
 obtain rfl := Option.some.inj hB
 have hux := hq.2 hn
 obtain ⟨hsz, hrl, xs, S, hown, hcells, hds⟩ := h
 have hr := bt0 hrl ho hcells
 simp only [Own]
 obtain ⟨hxl, hrow⟩ := hown
 rcases hrow with ⟨k1, k2⟩ | ⟨gg, cap, cur, k1, _, hh, hle, hcm, hcs, htk⟩
 ·have : rows = [] := List.eq_nil_of_length_eq_zero k2
  subst this
  simp only [List.map_nil, OwnRows] at hr
  left
  refine ⟨by rw [hux, k1], rfl, ?_⟩
  rw [hds, k1, hr.2]; rfl
 ·right
  refine ⟨gg, cap, cur, e, sz, S, by rw [hux, k1]; simp, hh, by simpa using hle, hcm, hcs, hsz, by rw [hds, k1]; rfl, ?_⟩
  rw [List.length_map, htk]
  exact hr
end
def xT1 (P : Program) (f : FuncId) (pre post : List AV) (x : C) (r : AV) : Prop :=
 qG0 P f ∧
 ∀ (w : World) (F : Fz) (us1 : List Value) (v0 : Value) (us2 : List Value) (S : List Nat), FzOk w F → RepAVs w F noLk g0 pre us1 → RepAVs w F noLk g0 post us2 →
  Own w x v0 S → S.Nodup → (∀ b, b ∈ S → b < w.heap.size ∧ ∀ o, ¬ F b o) →
  Calls P f (us1 ++ v0 :: us2).toArray w fun ex w' => ∃ v S', ex = .returned v ∧ OwnR w' r v S' ∧ S'.Nodup ∧ (∀ b, b ∈ S' → (b ∈ S ∨ w.heap.size ≤ b) ∧ b < w'.heap.size) ∧
   w'.os = w.os ∧ w'.tape = w.tape ∧ w'.output = w.output ∧ w.heap.size ≤ w'.heap.size ∧ ∀ k, k < w.heap.size → k ∉ S → w'.heap[k]? = w.heap[k]?
def jz1 (vs : List AV) (k : Nat) (x : C) (s : St) : Prop :=
 (vs.take k).flatMap AV.owns = [] ∧ (vs.drop (k + 1)).flatMap AV.owns = [] ∧
 match vs[k]? with
 | some (.one (.own l n)) => ∃ e sz rows, s.lb l = some (.arr e sz rows false) ∧ n = rows.length ∧ noD rows = true ∧ (∀ r, r ∈ rows → ∀ a, a ∈ r → isO a = true) ∧ x = .sl (rows.map fun r => r.map toC)
 | some (.one .nil) => x = .sl []
 | _ => False
def pd0 (rows : List (List AC)) : Bool := rows.all fun r => r.all vu0
section
variable {w0 : World} {M0 : Ms} {F0 F F' : Fz} {g g' : Gh} {s : St} {a : Act} {w w' : World} {lb lb' : Lk}
theorem dd0 (h : Sim w0 M0 F0 F g s a w) {S : List Nat} (ho : Off w0 M0 F g s w S) {fid : FuncId} {pre post : List AV} {x : C} {r : AV} (hsat : xT1 P fid pre post x r)
  {us1 us2 : List Value} {v0 : Value} (h1 : RepAVs w F noLk g0 pre us1) (h2 : RepAVs w F noLk g0 post us2) (hr : Own w x v0 S) {t : Nat} (ht : s.lb t = none) (hn : t < s.n) :
  Calls P fid (us1 ++ v0 :: us2).toArray w fun ex w' => ∃ v g', ex = .returned v ∧ Sim w0 M0 F0 F g' ((s.put t (.tok (flR r))).set (some t) (tkR t r)) (a.put (some t) v) w' := by
 obtain ⟨_, hcall⟩ := hsat
 refine (hcall w F us1 v0 us2 S h.fz h1 h2 hr ho.nd (fun b hb => ⟨(ho.nw b hb).2, ho.un b hb⟩)).mono ?_
 rintro ex w' ⟨v, S', rfl, hown, hnS, hS, hos, htp, hout, hsize, hfr⟩
 have nS : ∀ b o, F b o → b ∉ S := fun b o hf hb => ho.un b hb o hf
 have hg : Grows w0 M0 F F g s w w' := {
  stays := ⟨fun _ _ hb => hb, fun b o hb => zL0 (hfr b (h.f2 b o hb) (nS b o hb)) o⟩
  mine := fun l B hl b hb => hfr b (h.nw l B hl b hb).2 (ho.dj l B hl b hb)
  so := h.so
  f1 := fun b o hq => .inl hq
  f2 := fun b o hq => Nat.lt_of_lt_of_le (h.f2 b o hq) hsize
  os := hos
  tape := htp
  output := hout
  size := hsize
  block := fun k hk hm => hfr k (Nat.lt_of_lt_of_le hk h.size) (fun hq => by
   rcases (ho.nw k hq).1 with hq | hq
   ·omega
   ·exact hm hq) }
 have h3 := h.grows hg
 obtain ⟨vs, k1, k2⟩ := nx0 (d := t) (F := F) (T := flR r) hown
 refine ⟨v, g.upd t (g.bl t) (.agg vs.toArray) S', rfl, Sim.set (h3.putLB (l := t) (b := g.bl t) (v := .agg vs.toArray) (S := S') (B' := .tok (flR r)) (fun B hB => by rw [ht] at hB; cases hB) ?_ ?_ hnS ?_ ?_) (by simpa using hn) ?_⟩
 ·exact ⟨vs, by simp [Gh.upd], by simpa [Gh.upd] using k1⟩
 ·simp only [SoftOk, Gh.upd, if_true]
  intro b hb' o hf
  rcases (hS b hb').1 with hq | hq
  ·exact ho.un b hq o hf
  ·have := h.f2 b o hf; omega
 ·intro l' B _ hB k hk hk'
  rcases (hS k hk).1 with hq | hq
  ·exact ho.dj l' B hB k hk' hq
  ·have := (h.nw l' B hB k hk').2; omega
 ·intro k hk
  refine ⟨?_, (hS k hk).2⟩
  rcases (hS k hk).1 with hq | hq
  ·exact (ho.nw k hq).1
  ·exact .inl (Nat.le_trans h.size hq)
 ·exact k2 _ _ (by simp [St.put_lb]) (by simp [Gh.upd])
theorem sQ0 (h : Sim w0 M0 F0 F g s a w) {vs ds : List AV} {us : List Value} (hv : RepAVs w F s.lb g vs us) (hw : zJ0 s.lb vs ds) {k : Nat} {fid : FuncId} {x : C} {r : AV}
  (hsat : xT1 P fid (ds.take k) (ds.drop (k + 1)) x r) (hk : jz1 vs k x s) {t : Nat} (ht : s.lb t = none) (hn : t < s.n) :
  Calls P fid us.toArray w fun ex w' => ∃ v g', ex = .returned v ∧ Sim w0 M0 F0 F g' (((ye0 vs k s).put t (.tok (flR r))).set (some t) (tkR t r)) (a.put (some t) v) w' := by
 obtain ⟨ho1, ho2, hk⟩ := hk
 have r1 := qW0 h ho1 (wO0 k hw) (hv.takeL k)
 have r2 := qW0 h ho2 (wN0 (k + 1) hw) (hv.dropL (k + 1))
 unfold ye0
 split at hk
 ·rename_i l n hvk
  obtain ⟨e, sz, rows, hl, rfl, hnd, hO, rfl⟩ := hk
  obtain ⟨u, hus, hu⟩ := hv.getL hvk
  rw [hus]
  have hun : ∀ b, b ∈ g.ds l → ∀ o, ¬ F b o := (h.so l _ hl).2 rfl hnd
  simp only [RepAV] at hu
  have hown := bT0 (h.lb l _ hl) hl rfl hO hu
  have hd := h.putLB (l := l) (b := g.bl l) (v := g.hd l) (S := []) (B' := .dead) (fun B hB => ⟨fun _ _ _ => trivial, fun _ _ _ => trivial, fun _ _ _ _ _ => trivial, fun _ _ _ => trivial⟩) trivial trivial (by simp) (fun _ _ _ _ k hk => by cases hk) (fun k hk => by cases hk)
  have hoff : Off w0 M0 F (g.upd l (g.bl l) (g.hd l) []) (s.put l .dead) w (g.ds l) := by
   refine ⟨h.nd l _ hl, hun, fun l' B hB b hb hb' => ?_, fun b hb => h.nw l _ hl b hb⟩
   by_cases e : l' = l
   ·subst e; simp [Gh.upd] at hb
   ·simp only [Gh.upd, if_neg e] at hb
    simp only [St.put_lb, if_neg e] at hB
    exact h.dj l' l B _ e hB hl b hb hb'
  have hne : t ≠ l := fun e => by rw [e, hl] at ht; cases ht
  have := dd0 hd hoff hsat r1 r2 hown (t := t) (by simp only [St.put_lb, if_neg hne]; exact ht) hn
  rw [hvk]
  exact this
 ·rename_i hvk
  obtain ⟨u, hus, hu⟩ := hv.getL hvk
  rw [hus, hvk]
  subst hk
  simp only [RepAV, RepAC] at hu
  exact dd0 h (S := []) Off.nil hsat r1 r2 (md0 hu) ht hn
 ·exact hk.elim
theorem cH0 {x : AC} (hp : vu0 x = true) {u : Value} {S : List Nat} (h : RepCell w F lb g x u S) : RepCell w F' lb' g' x u S := by
 cases x with
 | c y => exact ⟨vY0 hp h.1, h.2⟩
 | _ => cases hp
theorem js0 : ∀ {xs : List AC} {us : List Value} {S : List Nat}, (∀ x, x ∈ xs → vu0 x = true) → RepCells w F lb g xs us S → RepCells w F' lb' g' xs us S
 | [], us, S, _, h => by simpa only [RepCells] using h
 | x :: xs, us, S, hp, h => by
  simp only [RepCells] at h ⊢
  obtain ⟨u, us', S1, S2, h1, h2, h3, h4⟩ := h
  exact ⟨u, us', S1, S2, h1, h2, cH0 (hp x (by simp)) h3, js0 (fun y hy => hp y (by simp [hy])) h4⟩
theorem yN1 (h : Sim w0 M0 F0 F g s a w) {fid : FuncId} {ds : List AV} {e : TypeId} {sz n : Nat} {rows : List (List AC)} (hsat : SatO P fid ds e sz rows (.one (.own 0 n))) (hpl : pd0 rows = true)
  {us : List Value} (h1 : RepAVs w (jk0 s g F) noLk g0 ds us) {t : Nat} (ht : s.lb t = none) :
  Calls P fid us.toArray w fun ex w' => ∃ v g', ex = .returned v ∧ Sim w0 M0 F0 F g' (s.put t (.arr e sz rows false)) a w' ∧ RepAV w' F (s.put t (.arr e sz rows false)).lb g' (.one (.own t n)) v := by
 obtain ⟨_, hsz, hcl, hnd, hok, hcall⟩ := hsat
 refine (hcall w (jk0 s g F) us (pR0 h) h1).mono ?_
 rintro ex w' ⟨v, F', v0, S, rfl, hrep, hrow, hnS, hS, hup, hnew, hlt, hbel⟩
 have h3 := h.below hbel
 have hrow' : RepLB w' F (s.put t (.arr e sz rows false)).lb (g.upd t (g.bl t) v0 S) t (.arr e sz rows false) := by
  obtain ⟨k1, k2, xs, S1, k3, k4, k5⟩ := hrow
  refine ⟨k1, k2, xs, S1, by simpa [Gh.upd, gA] using k3, js0 (fun x hx => ?_) k4, by simpa [Gh.upd, gA] using k5⟩
  obtain ⟨r, hr, hx⟩ := List.mem_flatten.1 hx
  exact List.all_eq_true.1 (List.all_eq_true.1 hpl r hr) x hx
 have hFS : ∀ b, b ∈ S → ∀ o, ¬ F b o := fun b hb o hf => by have := h.f2 b o hf; have := (hS b hb).1; omega
 have h4 := h3.putLB (l := t) (b := g.bl t) (v := v0) (S := S) (B' := .arr e sz rows false) (fun B hB => by rw [ht] at hB; cases hB)
  hrow'
  (by
   simp only [SoftOk]
   refine ⟨fun b hb o _ => ?_, fun _ _ b hb o => ?_⟩
   ·obtain ⟨_, _, _, _, _, _, hd⟩ := hrow
    simp only [Gh.upd, if_true] at hb
    exact hFS b (by have : S = zV0 v0 ++ _ := hd; rw [this]; simp [hb]) o
   ·simp only [Gh.upd, if_true] at hb
    exact hFS b hb o)
  hnS
  (fun l' B hne hB k hk hk' => by have := (hS k hk).1; have := (h.nw l' B hB k hk').2; omega)
  (fun k hk => ⟨.inl (Nat.le_trans h.size (hS k hk).1), (hS k hk).2.1⟩)
 refine ⟨v, _, rfl, h4, ?_⟩
 simp only [RepAV, RepAC] at hrep ⊢
 obtain ⟨j1, B, hB, j2⟩ := hrep
 unfold lbO at hB
 rw [if_pos rfl] at hB
 obtain rfl := Option.some.inj hB
 exact ⟨j1, .arr e sz rows false, by simp only [St.put_lb, if_true], by simpa [zK0, Gh.upd, gA] using j2⟩
end
end Go.Ai
namespace Go.Ai
open Go.RowKit
variable {P : Program} {tab : Tab} {w0 : World} {M0 : Ms} {F0 F F' : Fz} {g g' : Gh} {s s' : St} {a : Act} {w w' : World}
theorem RepCells.ones {lb : Lk} : ∀ (as : List AC) (us : List Value) (S : List Nat), RepCells w F lb g as us S → ∀ u, u ∈ us → u.oneCell' = true
 | [], _, _, h, u, hu => by simp only [RepCells] at h; rw [h.1] at hu; cases hu
 | x :: as, us, S, h, u, hu => by
  simp only [RepCells] at h
  obtain ⟨v, us', S1, S2, rfl, rfl, h3, h4⟩ := h
  rcases List.mem_cons.1 hu with rfl | hu
  ·exact h3.one
  ·exact RepCells.ones as us' S2 h4 u hu
theorem Sim.appOff (h : Sim w0 M0 F0 F g s a w) {S2 : List Nat} (ho : Off w0 M0 F g s w S2) {l : Nat} {e : TypeId} {i : TypeInfo} {z : Value} {rows more : List (List AC)} {fz : Bool} (hl : s.lb l = some (.arr e i.size rows fz))
  (t ty : TypeId) (ht : P.underlying t = some (.slice e)) (hi : P.info? e = some i) (hz : i.zero = some z) (hzs : z.cells.size = i.size)
  (hmr : ∀ r, r ∈ more → r.length = i.size) (hm : 0 < more.length) (ad : Addr) (c : Nat) (news : List Value) (hrep : RepCells w F s.lb g more.flatten news S2)
  (hnews : ∀ j u, news[j]? = some u → w.cell? (ad.add j) = some u) (h63 : rows.length + more.length ≤ maxLen) (hbytes : (rows.length + more.length) * i.bytes ≤ 140737488355328) :
  ∃ v' w' g', (Builtin.append_ #[t, t] ty #[g.hd l, .slice (some ad) more.length c]).run P w = .ok v' w' ∧ Sim w0 M0 F0 F g' (s.put l (.arr e i.size (rows ++ more) fz)) a w' ∧ g'.hd l = v' := by
 obtain ⟨hsz, hrl, xs, S, hown, hcells, hds⟩ := h.lb l _ hl
 have hlf : more.flatten.length = more.length * i.size := by
  clear hrep hbytes h63 hm
  induction more with
  | nil => simp
  | cons r rs ih => simp [hmr r (by simp), ih (fun q hq => hmr q (by simp [hq])), Nat.add_mul]; omega
 have hnl : news.length = more.length * i.size := by rw [← RepCells.len _ _ _ hrep, hlf]
 have hone : ∀ u ∈ news, u.oneCell' = true := RepCells.ones _ _ _ hrep
 obtain ⟨v', w', hrun, hown', hownold, hoth, hpre, hblk, hos, htape, hout⟩ := jQ0 (P := P) w t ty e i z ht hi hz hzs hsz (g.hd l) rows.length xs hown ad more.length c news hm hnl hnews hone h63 hbytes
 have hle : w.heap.size ≤ w'.heap.size := by rcases hblk with ⟨_, _, hq⟩ | ⟨_, hq⟩ <;> omega
 have hmine : ∀ b, b ∈ zV0 (g.hd l) → b ∈ g.ds l := fun b hb => by rw [hds]; simp [hb]
 have hso := h.so l _ hl
 simp only [SoftOk] at hso
 have stays : Stays w w' F F := ⟨fun _ _ hb => hb, fun b o hb => by
  by_cases hin : b ∈ zV0 (g.hd l)
  ·by_cases ho : o < rows.length * i.size
   ·exact hpre b hin o ho
   ·exact absurd hb (hso.1 b hin o (.inr (by omega)))
  ·exact zL0 (hoth b (h.f2 b o hb) hin) o⟩
 have hSnot : ∀ b, b ∈ S → b ∉ zV0 (g.hd l) := fun b hb hb' => by
  have hnd := h.nd l _ hl
  rw [hds, List.nodup_append] at hnd
  exact hnd.2.2 b hb' b hb rfl
 have hSlt : ∀ b, b ∈ S → b < w.heap.size := fun b hb => (h.nw l _ hl b (by rw [hds]; simp [hb])).2
 have h2not : ∀ b, b ∈ S2 → b ∉ zV0 (g.hd l) := fun b hb hb' => ho.dj l _ hl b (hmine b hb') hb
 have h1 : Sim w0 M0 F0 F g s a w' := by
  refine h.world stays ?_ h.so (fun _ _ hb => .inl hb) (fun b o hb => Nat.lt_of_lt_of_le (h.f2 b o hb) hle) hos htape hout hle ?_
  ·intro l' B hB
   by_cases he : l' = l
   ·subst he
    rw [hl] at hB
    obtain rfl := Option.some.inj hB
    exact ⟨hsz, hrl, xs, S, hownold, RepCells.mono stays (Keeps.refl _ _) _ _ _ (fun b hb => hoth b (hSlt b hb) (hSnot b hb)) hcells, hds⟩
   ·exact RepLB.mono stays (Keeps.refl _ _) rfl rfl rfl (fun b hb => hoth b (h.nw l' B hB b hb).2 (fun hin => h.dj l' l B _ he hB hl b hb (hmine b hin))) (h.lb l' B hB)
  ·intro k hk hkm
   refine hoth k (Nat.lt_of_lt_of_le hk h.size) (fun hin => ?_)
   rcases (h.nw l _ hl k (hmine k hin)).1 with hq | hq
   ·omega
   ·exact hkm hq
 have hc : ∀ B, s.lb l = some B → (∀ n u, zK0 B (g.hd l) n u → zK0 (.arr e i.size (rows ++ more) fz) v' n u) ∧ (∀ off u, za0 B (g.bl l) off u → za0 (.arr e i.size (rows ++ more) fz) (g.bl l) off u) ∧
   (∀ n j off u, zx0 B (g.hd l) n j off u → zx0 (.arr e i.size (rows ++ more) fz) v' n j off u) ∧ (∀ k u, qg0 B (g.hd l) k u → qg0 (.arr e i.size (rows ++ more) fz) v' k u) := by
  intro B hB
  rw [hl] at hB
  obtain rfl := Option.some.inj hB
  refine ⟨fun n u hq => ?_, fun _ _ _ => trivial, fun n j off u hq => ?_, fun _ _ _ => trivial⟩
  ·simp only [zK0, List.length_append] at hq ⊢; exact ⟨by omega, fun hn => by omega⟩
  ·simp only [zx0, List.length_append] at hq ⊢; exact ⟨by omega, fun hn => by omega⟩
 have K : Keeps s.lb g (s.put l (.arr e i.size (rows ++ more) fz)).lb (g.upd l (g.bl l) v' (zV0 v' ++ (S ++ S2))) := Keeps.upd hc
 refine ⟨v', w', g.upd l (g.bl l) v' (zV0 v' ++ (S ++ S2)), hrun, h1.putLB hc ?_ ?_ ?_ ?_ ?_, by simp [Gh.upd]⟩
 ·refine ⟨hsz, fun r hr => (List.mem_append.1 hr).elim (hrl r) (hmr r), xs ++ news, S ++ S2, ?_, ?_, by simp [Gh.upd]⟩
  ·simpa [Gh.upd] using hown'
  ·rw [List.flatten_append]
   have k1 := RepCells.mono stays K _ _ _ (fun b hb => hoth b (hSlt b hb) (hSnot b hb)) hcells
   have k2 := RepCells.mono stays K _ _ _ (fun b hb => hoth b (ho.nw b hb).2 (h2not b hb)) hrep
   exact RepCells.append _ _ _ _ _ _ k1 k2
 ·simp only [SoftOk, Gh.upd, if_true, List.length_append]
  have first : ∀ b, b ∈ zV0 v' → ∀ o, (fz = false ∨ (rows.length + more.length) * i.size ≤ o) → ¬ F b o := by
   intro b hb o ho
   rcases hblk with ⟨he, _, _⟩ | ⟨he, _⟩
   ·rw [he] at hb
    exact hso.1 b hb o (ho.imp id (fun hq => by rw [Nat.add_mul] at hq; omega))
   ·rw [he] at hb
    simp at hb; subst hb
    exact fun hf => Nat.lt_irrefl _ (h.f2 _ o hf)
  refine ⟨first, fun hz hn b hb o => ?_⟩
  rcases List.mem_append.1 hb with hb | hb
  ·exact first b hb o (.inl hz)
  ·simp only [noD, List.all_append, Bool.and_eq_true] at hn
   rcases List.mem_append.1 hb with hb | hb
   ·exact hso.2 hz hn.1 b (by rw [hds]; simp [hb]) o
   ·exact ho.un b hb o
 ·have hnd := h.nd l _ hl
  rw [hds, List.nodup_append] at hnd
  have hSS : (S ++ S2).Nodup := by
   rw [List.nodup_append]
   exact ⟨hnd.2.1, ho.nd, fun x hx y hy hxy => by subst hxy; exact ho.dj l _ hl x (by rw [hds]; simp [hx]) hy⟩
  have hlt2 : ∀ b, b ∈ S ++ S2 → b < w.heap.size := fun b hb => (List.mem_append.1 hb).elim (hSlt b) (fun hb => (ho.nw b hb).2)
  rw [List.nodup_append]
  rcases hblk with ⟨he, _, _⟩ | ⟨he, _⟩
  ·rw [he]
   refine ⟨hnd.1, hSS, fun x hx y hy hxy => ?_⟩
   subst hxy
   rcases List.mem_append.1 hy with hy | hy
   ·exact hnd.2.2 x hx x hy rfl
   ·exact h2not x hy hx
  ·rw [he]
   refine ⟨by simp, hSS, fun x hx y hy hxy => ?_⟩
   simp at hx; subst hx; subst hxy
   exact Nat.lt_irrefl _ (hlt2 _ hy)
 ·intro l' B hne hB k hk hk'
  rcases List.mem_append.1 hk with hk | hk
  ·rcases hblk with ⟨he, _, _⟩ | ⟨he, _⟩
   ·rw [he] at hk
    exact h.dj l' l B _ hne hB hl k hk' (hmine k hk)
   ·rw [he] at hk; simp at hk; subst hk
    exact Nat.lt_irrefl _ (h.nw l' B hB _ hk').2
  ·rcases List.mem_append.1 hk with hk | hk
   ·exact h.dj l' l B _ hne hB hl k hk' (by rw [hds]; simp [hk])
   ·exact ho.dj l' B hB k hk' hk
 ·intro k hk
  rcases List.mem_append.1 hk with hk | hk
  ·rcases hblk with ⟨he, _, hq⟩ | ⟨he, hq⟩
   ·rw [he] at hk
    exact ⟨(h.nw l _ hl k (hmine k hk)).1, by rw [hq]; exact (h.nw l _ hl k (hmine k hk)).2⟩
   ·rw [he] at hk; simp at hk; subst hk
    exact ⟨.inl h.size, by omega⟩
  ·rcases List.mem_append.1 hk with hk | hk
   ·exact ⟨(h.nw l _ hl k (by rw [hds]; simp [hk])).1, Nat.lt_of_lt_of_le (hSlt k hk) hle⟩
   ·exact ⟨(ho.nw k hk).1, Nat.lt_of_lt_of_le (ho.nw k hk).2 hle⟩
def mC : C → AC
 | .v x => .c (.v x)
 | .sl rows => .m (.sl rows)
theorem vu1 {lb : Lk} {c : C} {u : Value} {S : List Nat} (h : Own w c u S) : RepCell w F lb g (mC c) u S := by
 cases c with
 | v x =>
  simp only [Own] at h
  obtain ⟨rfl, h, rfl⟩ := h
  exact ⟨by show Rd w F (.v u) u; simp only [Rd]; exact ⟨trivial, h⟩, rfl⟩
 | sl rows => exact h
theorem qa1 {lb : Lk} : ∀ {cs : List C} {us : List Value} {S : List Nat}, OwnCells w cs us S → RepCells w F lb g (cs.map mC) us S
 | [], us, S, h => by simp only [OwnCells] at h; simp only [List.map_nil, RepCells]; exact h
 | c :: cs, us, S, h => by
  simp only [OwnCells] at h
  obtain ⟨u, us', S1, S2, rfl, rfl, h1, h2⟩ := h
  simp only [List.map_cons, RepCells]
  exact ⟨u, us', S1, S2, rfl, rfl, vu1 h1, qa1 h2⟩
theorem qZ1 {lb : Lk} {sz : Nat} : ∀ {rows : List (List C)} {us : List Value} {S : List Nat}, OwnRows w sz rows us S → RepCells w F lb g (rows.map fun r => r.map mC).flatten us S
 | [], us, S, h => by simp only [OwnRows] at h; simp only [List.map_nil, List.flatten_nil, RepCells]; exact h
 | r :: rows, us, S, h => by
  simp only [OwnRows] at h
  obtain ⟨u1, u2, S1, S2, rfl, rfl, _, h1, h2⟩ := h
  rw [List.map_cons, List.flatten_cons]
  exact RepCells.append _ _ _ _ _ _ (qa1 h1) (qZ1 h2)
def xU1 (s : St) (l : Nat) (y : AV) : Option (List (List C) × Prop × St) :=
 match y with
 | .one (.tk T i) => (match s.lb T with
  | some (.tok xs) => (match xs[i]? with
   | some (some (.sl more)) => some (more, True, s.put T (.tok (xs.set i none)))
   | _ => none)
  | _ => none)
 | .one (.own r n) => (match s.lb r with
  | some (.arr _ _ rows false) => some (rows.map fun q => q.map toC, r ≠ l ∧ n = rows.length ∧ noD rows = true ∧ (∀ q, q ∈ rows → ∀ x, x ∈ q → isO x = true), s.put r .dead)
  | _ => none)
 | _ => none
def xv1 (tab : Tab) (s : St) (d : Option Tmp) (e : TypeId) (x y : AV) : Option (Prop × St) :=
 match tab e, x with
 | some ti, .one (.own l n) => (match s.lb l, xU1 s l y with
  | some (.arr e' sz rows fz), some (more, p, s1) => if e = e' ∧ sz = ti.size ∧ n = rows.length then
    some (p ∧ (∀ r, r ∈ more → r.length = ti.size) ∧ (rows.length + more.length) * ti.bytes ≤ 140737488355328 ∧ rows.length + more.length ≤ 140737488355328,
     (s1.put l (.arr e sz (rows ++ more.map fun r => r.map mC) fz)).set d (.one (.own l (n + more.length)))) else none
  | _, _ => none)
 | _, _ => none
def vE1 (tab : Tab) (o : Oper) (s : St) : Option (Prop × St) :=
 match o.op with
 | .call ⟨.builtin .append, args, ts⟩ => (match args.toList, ts.toList with
  | [x, y], [t, t'] => (match tab t with
   | some ⟨.slice e, _, _, _⟩ => if t = t' then xv1 tab s o.dst e (opv s x) (opv s y) else none
   | _ => none)
  | _, _ => none)
 | _ => none
def ActsB (tab : Tab) (o : Oper) (s s' : St) : Prop := ∃ p, vE1 tab o s = some (p, s') ∧ p ∧ ∀ t, o.dst = some t → t < s.n
theorem Off.tail {b : Nat} {S : List Nat} (h : Off w0 M0 F g s w (b :: S)) : Off w0 M0 F g s w S :=
 ⟨(List.nodup_cons.1 h.nd).2, fun x hx => h.un x (by simp [hx]), fun l B hl x hx hx' => h.dj l B hl x hx (by simp [hx']), fun x hx => h.nw x (by simp [hx])⟩
theorem rb0 (h : Sim w0 M0 F0 F g s a w) {l : Nat} {y : AV} {u : Value} (hu : RepAV w F s.lb g y u) {more : List (List C)} {p : Prop} {s1 : St} (ha : xU1 s l y = some (more, p, s1)) (hp : p) {B : LB} (hl : s.lb l = some B) (hB : ∀ xs, B ≠ .tok xs) :
  ∃ g1 S, Sim w0 M0 F0 F g1 s1 a w ∧ Off w0 M0 F g1 s1 w S ∧ Own w (.sl more) u S ∧ s1.lb l = some B ∧ s1.n = s.n ∧ ∀ v u, RepAV w F s.lb g v u → RepAV w F s1.lb g1 v u := by
 unfold xU1 at ha
 split at ha
 ·rename_i T i
  split at ha
  ·rename_i xs hT
   split at ha
   ·rename_i m hx
    obtain ⟨rfl, h2⟩ := Prod.mk.inj (Option.some.inj ha)
    obtain ⟨rfl, rfl⟩ := Prod.mk.inj h2
    simp only [RepAV] at hu
    obtain ⟨g1, Si, k1, k2, k3, k4⟩ := h.takeTok Off.nil hT hx hu
    have hne : l ≠ T := fun e => by subst e; rw [hl] at hT; exact hB _ (Option.some.inj hT)
    exact ⟨g1, Si, k1, by simpa using k2, k3, by simp only [St.put_lb, if_neg hne]; exact hl, rfl, k4⟩
   ·cases ha
  ·cases ha
 ·rename_i r n
  split at ha
  ·rename_i e sz rows hr
   obtain ⟨rfl, h2⟩ := Prod.mk.inj (Option.some.inj ha)
   obtain ⟨rfl, rfl⟩ := Prod.mk.inj h2
   obtain ⟨hne, hn, hnd, hO⟩ := hp
   simp only [RepAV] at hu
   have hun : ∀ b, b ∈ g.ds r → ∀ o, ¬ F b o := (h.so r _ hr).2 rfl hnd
   have hown := bT0 (h.lb r _ hr) hr hn hO hu
   have hc : ∀ B, s.lb r = some B → (∀ n u, zK0 B (g.hd r) n u → zK0 .dead (g.hd r) n u) ∧ (∀ off u, za0 B (g.bl r) off u → za0 .dead (g.bl r) off u) ∧
     (∀ n i off u, zx0 B (g.hd r) n i off u → zx0 .dead (g.hd r) n i off u) ∧ (∀ i u, qg0 B (g.hd r) i u → qg0 .dead (g.hd r) i u) :=
    fun B hB => ⟨fun _ _ _ => trivial, fun _ _ _ => trivial, fun _ _ _ _ _ => trivial, fun _ _ _ => trivial⟩
   have hd := h.putLB (l := r) (b := g.bl r) (v := g.hd r) (S := []) (B' := .dead) hc trivial trivial (by simp) (fun _ _ _ _ k hk => by cases hk) (fun k hk => by cases hk)
   refine ⟨_, g.ds r, hd, ⟨h.nd r _ hr, hun, fun l' B hB b hb hb' => ?_, fun b hb => h.nw r _ hr b hb⟩, hown, by simp only [St.put_lb, if_neg (Ne.symm hne)]; exact hl, rfl, fun v u hv => RepAV.mono (Stays.refl _ _) (Keeps.upd hc) v u hv⟩
   by_cases e : l' = r
   ·subst e; simp [Gh.upd] at hb
   ·simp only [Gh.upd, if_neg e] at hb
    simp only [St.put_lb, if_neg e] at hB
    exact h.dj l' r B _ e hB hr b hb hb'
  ·cases ha
 ·cases ha
theorem lP0 (hT : zU0 P tab) (h : Sim w0 M0 F0 F g s a w) {o : Oper} (hs : ActsB tab o s s') {K : Act → World → Prop} {Q : Exit → Act → World → Prop} (hK : ∀ a' w', (∃ F g, Sim w0 M0 F0 F g s' a' w') → K a' w') : o.wp P a w K Q := by
 obtain ⟨p, ha, hp, hdst⟩ := hs
 unfold vE1 at ha
 split at ha
 ·rename_i args ts hop
  split at ha
  ·rename_i x y t t' hargs hts
   split at ha
   ·rename_i e sz0 by0 z0 htt
    split at ha
    ·rename_i htt'
     subst htt'
     obtain rfl : args = #[x, y] := by rw [← Array.toArray_toList (xs := args), hargs]
     obtain rfl : ts = #[t, t] := by rw [← Array.toArray_toList (xs := ts), hts]
     have Ex := zm0 h x
     have Ey := zm0 h y
     obtain ⟨info, z, d, okt⟩ := hT _ _ htt
     have hd := okt.desc
     cases d <;> simp only [zX0, beq_iff_eq, Bool.false_eq_true] at hd
     subst hd
     have run : ∀ {v : Value} {wn : World}, (Builtin.append_ #[t, t] o.type #[a.eval x, a.eval y]).run P w = .ok v wn → (execOp a.eval o).run P w = .ok (.value v) wn := by
      intro v wn hr
      simp [execOp, hop, resolve, invoke, builtin, hr]
     unfold xv1 at ha
     split at ha
     ·rename_i ti l n hte hxv
      split at ha
      ·rename_i e' sz rows fz more q s1 hl hab
       split at ha
       ·rename_i hcond
        obtain ⟨rfl, hsz, hn⟩ := hcond
        obtain ⟨rfl, rfl⟩ := Prod.mk.inj (Option.some.inj ha)
        obtain ⟨hq, hlens, hby, hln⟩ := hp
        obtain ⟨g1, S, h1, hoff, hown, hl1, hn1, hmono⟩ := rb0 h Ey hab hq hl (fun xs e => by cases e)
        have Ex1 := hmono _ _ Ex
        rw [hxv] at Ex1
        have Ex1' := Ex1
        simp only [RepAV, RepAC] at Ex1
        obtain ⟨_, B0, hB, hq0⟩ := Ex1
        rw [hl1] at hB
        obtain rfl := Option.some.inj hB
        have hxe := hq0.2 hn
        obtain ⟨info2, z2, d2, ok2⟩ := hT _ _ hte
        have hzl : z2.cells.size = info2.size := by
         have := RepACs.len _ _ (vD0 (w := w) (F := F) (lb := s.lb) (g := g) ok2)
         rw [ok2.size, ← ok2.len, this]; simp
        have fin : ∀ {v : Value} {wn : World} {g' : Gh}, (Builtin.append_ #[t, t] o.type #[a.eval x, a.eval y]).run P w = .ok v wn → Sim w0 M0 F0 F g' (s1.put l (.arr e sz (rows ++ more.map fun r => r.map mC) fz)) a wn →
          RepAV wn F (s1.put l (.arr e sz (rows ++ more.map fun r => r.map mC) fz)).lb g' (.one (.own l (n + more.length))) v → o.wp P a w K Q := by
         intro v wn g' hr hs' hv
         unfold Oper.wp
         rw [run hr]
         exact hK _ _ ⟨F, g', hs'.set? (fun t ht => by rw [St.put_n, hn1]; exact hdst t ht) hv⟩
        have zero : more = [] → (∃ B c, a.eval y = .slice B 0 c) → o.wp P a w K Q := by
         intro hm hy
         obtain ⟨B, c, hy⟩ := hy
         subst hm
         obtain ⟨_, _, xs, S', hown', _⟩ := h1.lb l _ hl1
         have hsl : ∃ A m cap, a.eval x = .slice A m cap ∧ m ≤ cap := by
          rcases hown'.2 with ⟨k1, k2⟩ | ⟨gg, cap, cur, k1, _, _, hle, _⟩
          ·exact ⟨none, 0, 0, by rw [hxe, k1], Nat.le_refl _⟩
          ·exact ⟨_, _, cap, by rw [hxe, k1], hle⟩
         obtain ⟨A, m, cap, hxs, hle⟩ := hsl
         have hsame : s1.put l (.arr e sz (rows ++ ([] : List (List C)).map fun r => r.map mC) fz) = s1 := by
          obtain ⟨sn, ssl, slb, sgh⟩ := s1
          simp only [St.put, St.mk.injEq, true_and, and_true, List.map_nil, List.append_nil]
          funext k
          split
          ·rename_i e; subst e; exact hl1.symm
          ·rfl
         have hrun : (Builtin.append_ #[t, t] o.type #[a.eval x, a.eval y]).run P w = .ok (a.eval x) w := by
          rw [hxs, hy]
          cases A <;> cases B <;> simp [Builtin.append_, run_underlying okt.und, sizeOf, typeInfo, ok2.inf, Builtin.lenOf, hle, Builtin.firstCells, loadCells, loadCellsFrom, storeCells]
         refine fin (g' := g1) hrun ?_ ?_
         ·rw [hsame]; exact h1
         ·rw [hsame]; simpa using Ex1'
        simp only [Own] at hown
        rcases hown with ⟨hy, hm, _⟩ | ⟨b, cap, cs, e2, sz2, S', hy, hh, hle, hcm, hcs, hs2, rfl, hrows⟩
        ·exact zero hm ⟨none, 0, hy⟩
        ·by_cases hm : more = []
         ·exact zero hm ⟨some ⟨b, 0, none⟩, cap, by rw [hy, hm]; rfl⟩
         ·have hpos : 0 < more.length := List.length_pos_iff.2 hm
          have hsz2 : sz2 = info2.size := by
           cases more with
           | nil => exact absurd rfl hm
           | cons r rs =>
            have k1 := hlens r (by simp)
            simp only [OwnRows] at hrows
            obtain ⟨_, _, _, _, _, _, k2, _⟩ := hrows
            rw [ok2.size, ← k1, k2]
          subst hsz2
          have hszz : sz = info2.size := by rw [hsz, ok2.size]
          subst hszz
          have hnews : ∀ (j : Nat) (u : Value), (cs.toList.take (more.length * info2.size))[j]? = some u → w.cell? ((⟨b, 0, none⟩ : Addr).add j) = some u := by
           intro j u hj
           rw [List.getElem?_take] at hj
           split at hj
           ·have : ((⟨b, 0, none⟩ : Addr).add j) = ⟨b, j, none⟩ := by unfold Addr.add; split <;> simp_all
            rw [this]
            simp only [World.cell?, hh]
            simpa using hj
           ·cases hj
          obtain ⟨v', w', g', hrun, hs', hv'⟩ := h1.appOff (P := P) hoff.tail (rows := rows) (more := more.map fun r => r.map mC) hl1 t o.type okt.und ok2.inf ok2.zero hzl
           (fun r hr => by
            obtain ⟨q, hq, rfl⟩ := List.mem_map.1 hr
            rw [List.length_map, hlens q hq, ok2.size]) (by simpa using hpos) ⟨b, 0, none⟩ cap (cs.toList.take (more.length * info2.size)) (qZ1 hrows) hnews (by rw [List.length_map]; simp only [maxLen]; omega) (by rw [ok2.bytes]; simpa using hby)
          rw [List.length_map] at hrun
          rw [← hxe, ← hy] at hrun
          refine fin hrun hs' ?_
          simp only [RepAV, RepAC]
          have hlb := hs'.lb l (.arr e info2.size (rows ++ more.map fun r => r.map mC) fz) (by simp only [St.put_lb, if_true])
          obtain ⟨_, _, xs, S2, hown', _⟩ := hlb
          refine ⟨?_, .arr e info2.size (rows ++ more.map fun r => r.map mC) fz, by simp only [St.put_lb, if_true], ?_⟩
          ·rw [← hv']
           rcases hown'.2 with ⟨k1, _⟩ | ⟨_, _, _, k1, _⟩
           ·rw [k1]; rfl
           ·rw [k1]; rfl
          ·simp only [zK0, List.length_append, List.length_map]
           exact ⟨by omega, fun _ => hv'.symm⟩
       ·cases ha
      ·cases ha
     ·cases ha
    ·cases ha
   ·cases ha
  ·cases ha
 ·cases ha
end Go.Ai
namespace Go.Ai
open Go.RowKit
variable {P : Program} {tab : Tab} {w0 : World} {M0 : Ms} {F0 F F' : Fz} {g g' : Gh} {s s' : St} {a : Act} {w w' : World}
def wi1 (lb : Lk) (a y : AC) : Prop :=
 match a with
 | .ptr l off => off = 0 ∧ ∃ cs : List C, lb l = some (.var (cs.map .c)) ∧ y = .ip cs
 | .ip cs => y = .ip cs
 | _ => False
def fg0 (lb : Lk) : List AC → List AC → Prop
 | [], ys => ys = []
 | a :: as, ys => ∃ y ys', ys = y :: ys' ∧ wi1 lb a y ∧ fg0 lb as ys'
def vV1 (lb : Lk) (v d : AV) : Prop := (∃ f caps caps', v = .one (.clo f caps) ∧ d = .one (.clo f caps') ∧ fg0 lb caps caps') ∨ vl0 lb v d
def vH0 (lb : Lk) : List AV → List AV → Prop
 | [], ds => ds = []
 | v :: vs, ds => ∃ d ds', ds = d :: ds' ∧ vV1 lb v d ∧ vH0 lb vs ds'
theorem rF0 {F1 : Fz} (up : ∀ b o, F b o → F1 b o) (b : Nat) (hb : ∀ o, F1 b o) : ∀ (cs : List C) (us : List Value) (o : Nat), RepACs w F s.lb g (cs.map .c) us → (∀ (i : Nat) u, us[i]? = some u → w.cell? ⟨b, o + i, none⟩ = some u) → RdCells w F1 b o cs
 | [], _, _, _, _ => by simp only [RdCells]
 | c :: cs, us, o, h, hc => by
  simp only [List.map_cons, RepACs] at h
  obtain ⟨u, us', rfl, h1, h2⟩ := h
  simp only [RepAC] at h1
  simp only [RdCells]
  refine ⟨hb o, ⟨u, by simpa using hc 0 u (by simp), Rd.mono ⟨up, fun _ _ _ => rfl⟩ c u h1⟩, rF0 up b hb cs us' (o + 1) h2 (fun i x hx => ?_)⟩
  have := hc (i + 1) x (by simpa using hx)
  rwa [show o + (i + 1) = o + 1 + i by omega] at this
theorem nB0 (h : Sim w0 M0 F0 F g s a w) {x y : AC} {u : Value} (hv : wi1 s.lb x y) (hu : RepAC w F s.lb g x u) : RepAC w (jk0 s g F) noLk g0 y u := by
 cases x <;> simp only [wi1] at hv
 case ptr l off =>
  obtain ⟨rfl, cs, hl, rfl⟩ := hv
  simp only [RepAC] at hu ⊢
  obtain ⟨_, B, hB, hq⟩ := hu
  rw [hl] at hB
  obtain rfl := Option.some.inj hB
  simp only [za0] at hq
  obtain ⟨us, e, h1, h2, h3⟩ := h.lb l _ hl
  refine ⟨g.bl l, 0, hq, rF0 (s := s) (fun b o hb => .inl hb) _ (fun o => .inr ⟨l, _, hl, by rw [h3]; simp⟩) cs us 0 h2 (fun i u hi => ?_)⟩
  simp only [World.cell?, h1, Nat.zero_add]
  simpa using hi
 case ip cs =>
  subst hv
  simp only [RepAC] at hu ⊢
  obtain ⟨b, o, h1, h2⟩ := hu
  exact ⟨b, o, h1, RdCells.mono ⟨fun b o hb => .inl hb, fun _ _ _ => rfl⟩ b o cs h2⟩
theorem xM0 (h : Sim w0 M0 F0 F g s a w) : ∀ (xs ys : List AC) (us : List Value), fg0 s.lb xs ys → RepACs w F s.lb g xs us → RepACs w (jk0 s g F) noLk g0 ys us
 | [], ys, us, hv, hu => by simp only [fg0] at hv; subst hv; simpa only [RepACs] using hu
 | x :: xs, ys, us, hv, hu => by
  simp only [fg0] at hv
  obtain ⟨y, ys', rfl, h1, h2⟩ := hv
  simp only [RepACs] at hu ⊢
  obtain ⟨u, us', rfl, k1, k2⟩ := hu
  exact ⟨u, us', rfl, nB0 h h1 k1, xM0 h xs ys' us' h2 k2⟩
theorem vB0 (h : Sim w0 M0 F0 F g s a w) : ∀ (vs ds : List AV) (us : List Value), vH0 s.lb vs ds → RepAVs w F s.lb g vs us → RepAVs w (jk0 s g F) noLk g0 ds us
 | [], ds, us, hv, hu => by simp only [vH0] at hv; subst hv; simpa only [RepAVs] using hu
 | x :: xs, ds, us, hv, hu => by
  simp only [vH0] at hv
  obtain ⟨y, ys', rfl, h1, h2⟩ := hv
  simp only [RepAVs] at hu ⊢
  obtain ⟨u, us', rfl, k1, k2⟩ := hu
  refine ⟨u, us', rfl, ?_, vB0 h xs ys' us' h2 k2⟩
  rcases h1 with ⟨f, caps, caps', rfl, rfl, h1⟩ | h1
  ·simp only [RepAV, RepAC] at k1 ⊢
   obtain ⟨us, e, k1⟩ := k1
   exact ⟨us, e, xM0 h _ _ _ h1 k1⟩
  ·exact xH0 h h1 k1
def fQ0 : List AC → Prop
 | [] => True
 | .ip _ :: as => fQ0 as
 | _ => False
theorem cx0 {F1 : Fz} {lb lb' : Lk} (up : ∀ b o, F b o → F1 b o) : ∀ (as : List AC) (us : List Value), fQ0 as → RepACs w F lb g as us → RepAVs w F1 lb' g' (as.map .one) us
 | [], us, _, h => by simpa only [RepACs, List.map_nil, RepAVs] using h
 | x :: as, us, ho, h => by
  simp only [RepACs] at h
  obtain ⟨u, us', rfl, h1, h2⟩ := h
  cases x <;> simp only [fQ0] at ho
  case ip cs =>
   refine ⟨u, us', rfl, ?_, cx0 up as us' ho h2⟩
   simp only [RepAV, RepAC] at h1 ⊢
   obtain ⟨b, o, e, h1⟩ := h1
   exact ⟨b, o, e, RdCells.mono ⟨up, fun _ _ _ => rfl⟩ b o cs h1⟩
theorem RepAVs.appL {lb : Lk} : ∀ {vs ws : List AV} {us us' : List Value}, RepAVs w F lb g vs us → RepAVs w F lb g ws us' → RepAVs w F lb g (vs ++ ws) (us ++ us')
 | [], _, _, _, h, k => by simp only [RepAVs] at h; subst h; exact k
 | v :: vs, _, _, _, h, k => by
  simp only [RepAVs] at h
  obtain ⟨u, us, rfl, h1, h2⟩ := h
  exact ⟨u, _, rfl, h1, RepAVs.appL h2 k⟩
def zs0 (vs : List AV) (k : Nat) : List Nat := (vs.take k).flatMap AV.owns ++ (vs.drop (k + 1)).flatMap AV.owns
def accF (vs : List AV) (k : Nat) (e : TypeId) (sz : Nat) (rows : List (List AC)) (s : St) : Prop :=
 match vs[k]? with
 | some (.one (.own l n)) => n = rows.length ∧ s.lb l = some (.arr e sz rows false) ∧ l ∉ zs0 vs k
 | _ => False
theorem yP0 : ∀ (ls : List Nat) (s : St) (l : Nat), l ∉ ls → (s.frzs ls).lb l = s.lb l
 | [], _, _, _ => rfl
 | k :: ls, s, l, h => by
  have := yP0 ls (s.frz k) l (fun hl => h (by simp [hl]))
  rw [show s.frzs (k :: ls) = (s.frz k).frzs ls from rfl, this]
  simp only [St.frz]
  rw [if_neg (fun e => h (by simp [e]))]
theorem dc0 : ∀ (ls : List Nat) (s : St) (t : Nat), s.lb t = none → (s.frzs ls).lb t = none
 | [], _, _, h => h
 | l :: ls, s, t, h => by
  refine dc0 ls (s.frz l) t ?_
  simp only [St.frz]
  split <;> simp [h]
theorem rc0 (h : Sim w0 M0 F0 F g s a w) {vs ds : List AV} {us : List Value} (hv : RepAVs w F s.lb g vs us) (hw : zJ0 s.lb vs ds) {k : Nat} {fid : FuncId} {e : TypeId} {sz : Nat} {rows rows' : List (List AC)} {rest : List AV}
  (hsat : ff0 P fid (ds.take k) (ds.drop (k + 1)) e sz rows rows' rest) (hk : accF vs k e sz rows s) {t : Nat} (ht : s.lb t = none) :
  Calls P fid us.toArray w fun ex w' => ∃ v F' g', ex = .returned v ∧ Sim w0 M0 F0 F' g' ((ye0 vs k (s.frzs (zs0 vs k))).put t (.arr e sz rows' false)) a w' ∧ RepAV w' F' ((ye0 vs k (s.frzs (zs0 vs k))).put t (.arr e sz rows' false)).lb g' (wj1 t rows'.length rest) v := by
 unfold accF at hk
 split at hk
 ·rename_i l n hvk
  obtain ⟨rfl, hl, hlo⟩ := hk
  obtain ⟨F1, hF1, u1, p1⟩ := h.freezes (zs0 vs k)
  have hv1 := RepAVs.mono (w := w) (w' := w) ⟨u1, fun _ _ _ => rfl⟩ (Keeps.refl s.lb g) _ _ hv
  have r1 : RepAVs w F1 noLk g0 (ds.take k) (us.take k) := zW0 h u1 _ _ _ (wO0 k hw) (hv1.takeL k) (fun l hl => p1 l (List.mem_append_left _ hl))
  have r2 : RepAVs w F1 noLk g0 (ds.drop (k + 1)) (us.drop (k + 1)) := zW0 h u1 _ _ _ (wN0 (k + 1) hw) (hv1.dropL (k + 1)) (fun l hl => p1 l (List.mem_append_right _ hl))
  have hl1 : (s.frzs (zs0 vs k)).lb l = some (.arr e sz rows false) := by rw [yP0 _ _ _ hlo]; exact hl
  have ht1 := dc0 (zs0 vs k) s t ht
  obtain ⟨u, hus, hu⟩ := hv.getL hvk
  rw [hus]
  have hnd : noD rows = true := hsat.2.2.2.2.2.1
  have hun : ∀ b, b ∈ g.ds l → ∀ o, ¬ F1 b o := (hF1.so l _ hl1).2 rfl hnd
  simp only [RepAV, RepAC] at hu
  obtain ⟨_, B, hB, hq⟩ := hu
  rw [hl] at hB
  obtain rfl := Option.some.inj hB
  have hux : u = g.hd l := hq.2 rfl
  subst hux
  have hd := hF1.putLB (l := l) (b := g.bl l) (v := g.hd l) (S := []) (B' := .dead) (fun B hB => ⟨fun _ _ _ => trivial, fun _ _ _ => trivial, fun _ _ _ _ _ => trivial, fun _ _ _ => trivial⟩) trivial trivial (by simp) (fun _ _ _ _ k hk => by cases hk) (fun k hk => by cases hk)
  have hoff : Off w0 M0 F1 (g.upd l (g.bl l) (g.hd l) []) ((s.frzs (zs0 vs k)).put l .dead) w (g.ds l) := by
   refine ⟨hF1.nd l _ hl1, hun, fun l' B hB b hb hb' => ?_, fun b hb => hF1.nw l _ hl1 b hb⟩
   by_cases e : l' = l
   ·subst e; simp [Gh.upd] at hb
   ·simp only [Gh.upd, if_neg e] at hb
    simp only [St.put_lb, if_neg e] at hB
    exact hF1.dj l' l B _ e hB hl1 b hb hb'
  have hne : t ≠ l := fun e => by rw [e, hl] at ht; cases ht
  have := bP0 hd hoff hsat r1 r2 (wn0 (g := g) (l := l) hsat.2.2.2.1 rfl rfl (hF1.lb l _ hl1)) (t := t) (by simp only [St.put_lb, if_neg hne]; exact ht1)
  unfold ye0
  rw [hvk]
  exact this
 ·exact hk.elim
end Go.Ai
namespace Go.Ai
open Go.RowKit
variable {P : Program}
def gV (b : Nat) (v : Value) (S : List Nat) : Gh := ⟨fun _ => b, fun _ => v, fun _ => S⟩
def okL : LB → Prop
 | .var cells => ∀ a, a ∈ cells → clA a = true
 | .arr _ sz rows fz => fz = false ∧ 0 < sz ∧ clR rows ∧ noD rows = true
 | _ => False
def yO1 : LB → LB → Prop
 | .var _, .var _ => True
 | .arr e sz rows fz, .arr e' sz' rows' fz' => e = e' ∧ sz = sz' ∧ rows.length = rows'.length ∧ fz = fz'
 | _, _ => False
def vj1 (B : LB) (b : Nat) (v : Value) : Value :=
 match B with
 | .var _ => .pointer (some ⟨b, 0, none⟩)
 | _ => v
def xt1 (P : Program) (f : FuncId) (pre post : List AV) (B B' : LB) (r : AV) : Prop :=
 qG0 P f ∧ okL B ∧ okL B' ∧ yO1 B B' ∧
 ∀ (w : World) (F : Fz) (us1 : List Value) (b0 : Nat) (v0 : Value) (us2 : List Value) (S : List Nat), FzOk w F → RepAVs w F noLk g0 pre us1 → RepAVs w F noLk g0 post us2 →
  RepLB w F noLk (gV b0 v0 S) 0 B → S.Nodup → (∀ b, b ∈ S → b < w.heap.size ∧ ∀ o, ¬ F b o) →
  Calls P f (us1 ++ vj1 B b0 v0 :: us2).toArray w fun ex w' => ∃ v F' S', ex = .returned v ∧ RepAV w' F' noLk g0 r v ∧ RepLB w' F' noLk (gV b0 v0 S') 0 B' ∧ S'.Nodup ∧
   (∀ b, b ∈ S' → (b ∈ S ∨ w.heap.size ≤ b) ∧ b < w'.heap.size ∧ ∀ o, ¬ F' b o) ∧ (∀ b o, F b o → F' b o) ∧ (∀ b o, F' b o → F b o ∨ w.heap.size ≤ b ∨ b ∈ S) ∧ (∀ b o, F' b o → b < w'.heap.size) ∧
   w'.os = w.os ∧ w'.tape = w.tape ∧ w'.output = w.output ∧ w.heap.size ≤ w'.heap.size ∧ ∀ k, k < w.heap.size → k ∉ S → w'.heap[k]? = w.heap[k]?
def vD1 (P : Program) (f : FuncId) (args : List AV) (cells : List AC) : Prop :=
 qG0 P f ∧ (∀ a, a ∈ cells → clA a = true) ∧
 ∀ (w : World) (F : Fz) (us : List Value), FzOk w F → RepAVs w F noLk g0 args us →
  Calls P f us.toArray w fun ex w' => ∃ b F', ex = .returned (.pointer (some ⟨b, 0, none⟩)) ∧ RepLB w' F' noLk (gV b undef [b]) 0 (.var cells) ∧ Below w.heap.size w w' ∧ w.heap.size ≤ b ∧ b < w'.heap.size ∧ (∀ o, ¬ F' b o) ∧
   (∀ b o, F b o → F' b o) ∧ (∀ b o, F' b o → F b o ∨ w.heap.size ≤ b) ∧ (∀ b o, F' b o → b < w'.heap.size)
section
variable {w0 : World} {M0 : Ms} {F0 F F' : Fz} {g g' : Gh} {s : St} {a : Act} {w w' : World} {lb lb' : Lk}
theorem li0 : ∀ {as : List AC} {us : List Value}, (∀ a, a ∈ as → clA a = true) → RepACs w F lb g as us → RepACs w F lb' g' as us
 | [], _, _, h => by simpa only [RepACs] using h
 | x :: as, us, hc, h => by
  simp only [RepACs] at h ⊢
  obtain ⟨u, us', h1, h2, h3⟩ := h
  refine ⟨u, us', h1, ?_, li0 (fun y hy => hc y (by simp [hy])) h3⟩
  have hx := hc x (by simp)
  cases x <;> first | (cases hx; done) | (simp only [RepAC] at h2; done) | (simpa only [RepAC] using h2)
theorem lj0 {l l' : Nat} {B : LB} (hB : okL B) (e0 : g'.bl l' = g.bl l) (e1 : g'.hd l' = g.hd l) (e2 : g'.ds l' = g.ds l) (h : RepLB w F lb g l B) : RepLB w F lb' g' l' B := by
 cases B with
 | var cells =>
  obtain ⟨cs, e, h1, h2, h3⟩ := h
  exact ⟨cs, e, by rw [e0]; exact h1, li0 hB h2, by rw [e2, e0]; exact h3⟩
 | arr e sz rows fz => exact wn0 (g := g) (l := l) hB.2.2.1 e1 e2 h
 | tok x => exact hB.elim
 | dead => trivial
theorem RepLB.hd {b : Nat} {v v' : Value} {S : List Nat} {cells : List AC} (h : RepLB w F noLk (gV b v S) 0 (.var cells)) (hc : ∀ a, a ∈ cells → clA a = true := by assumption) : RepLB w F noLk (gV b v' S) 0 (.var cells) := by
 obtain ⟨cs, e, h1, h2, h3⟩ := h
 exact ⟨cs, e, h1, li0 hc h2, h3⟩
theorem sZ0 {B B' : LB} (h : yO1 B B') (b : Nat) (v : Value) : (∀ n u, zK0 B v n u → zK0 B' v n u) ∧ (∀ off u, za0 B b off u → za0 B' b off u) ∧
  (∀ n i off u, zx0 B v n i off u → zx0 B' v n i off u) ∧ (∀ i u, qg0 B v i u → qg0 B' v i u) := by
 cases B <;> cases B' <;> simp only [yO1] at h
 ·exact ⟨fun _ _ h => h, fun _ _ h => h, fun _ _ _ _ h => h, fun _ _ h => h⟩
 ·obtain ⟨rfl, rfl, h, _⟩ := h
  simp only [zK0, za0, zx0, qg0, h]
  exact ⟨fun _ _ h => h, fun _ _ h => h, fun _ _ _ _ h => h, fun _ _ h => h⟩
theorem jQ1 {l : Nat} {B : LB} (hB : okL B) (hr : RepLB w F lb g l B) (hs : SoftOk F g l B) : ∀ b, b ∈ g.ds l → ∀ o, ¬ F b o := by
 cases B with
 | var cells =>
  obtain ⟨_, _, _, _, hd⟩ := hr
  rw [hd]
  intro b hb o
  rw [List.mem_singleton.1 hb]
  exact hs o
 | arr e sz rows fz => exact hs.2 hB.1 hB.2.2.2
 | tok x => exact hB.elim
 | dead => exact hB.elim
theorem yT1 {l : Nat} {B : LB} (hr : RepLB w F lb g l B) (hu : ∀ b, b ∈ g.ds l → ∀ o, ¬ F b o) : SoftOk F g l B := by
 cases B with
 | var cells =>
  obtain ⟨_, _, _, _, hd⟩ := hr
  exact fun o => hu _ (by rw [hd]; simp) o
 | arr e sz rows fz =>
  obtain ⟨_, _, _, _, _, _, hd⟩ := hr
  exact ⟨fun b hb o _ => hu b (by rw [hd]; simp [hb]) o, fun _ _ b hb o => hu b hb o⟩
 | tok x => exact fun b hb o => hu b hb o
 | dead => trivial
theorem zz1 (h : Sim w0 M0 F0 F g s a w) {l : Nat} {B B' : LB} (hl : s.lb l = some B) (hB : okL B) (hB' : okL B') (hlike : yO1 B B') {S' : List Nat}
  (hrow : RepLB w' F' noLk (gV (g.bl l) (g.hd l) S') 0 B') (hnS : S'.Nodup) (hS : ∀ b, b ∈ S' → (b ∈ g.ds l ∨ w.heap.size ≤ b) ∧ b < w'.heap.size ∧ ∀ o, ¬ F' b o) (hup : ∀ b o, F b o → F' b o)
  (hnew : ∀ b o, F' b o → F b o ∨ w.heap.size ≤ b ∨ b ∈ g.ds l) (hlt : ∀ b o, F' b o → b < w'.heap.size) (hos : w'.os = w.os) (htp : w'.tape = w.tape) (hout : w'.output = w.output) (hsize : w.heap.size ≤ w'.heap.size)
  (hfr : ∀ k, k < w.heap.size → k ∉ g.ds l → w'.heap[k]? = w.heap[k]?) : Sim w0 M0 F0 F' (g.upd l (g.bl l) (g.hd l) S') (s.put l B') a w' := by
 have hun := jQ1 hB (h.lb l B hl) (h.so l B hl)
 have st : Stays w w' F F' := ⟨hup, fun b o hb => zL0 (hfr b (h.f2 b o hb) (fun hm => hun b hm o hb)) o⟩
 have K : Keeps s.lb g (s.put l B').lb (g.upd l (g.bl l) (g.hd l) S') := Keeps.upd (fun B0 hB0 => by
  rw [hl] at hB0
  obtain rfl := Option.some.inj hB0
  exact sZ0 hlike _ _)
 have gne : ∀ k, k ≠ l → (g.upd l (g.bl l) (g.hd l) S').bl k = g.bl k ∧ (g.upd l (g.bl l) (g.hd l) S').hd k = g.hd k ∧ (g.upd l (g.bl l) (g.hd l) S').ds k = g.ds k := fun k hk => by simp [Gh.upd, hk]
 have dl : (g.upd l (g.bl l) (g.hd l) S').ds l = S' := by simp [Gh.upd]
 have at_ : ∀ k Bk, k ≠ l → (s.put l B').lb k = some Bk → s.lb k = some Bk := fun k Bk h1 hB => by simpa [St.put_lb, h1] using hB
 have at_l : ∀ Bk, (s.put l B').lb l = some Bk → Bk = B' := fun Bk hB => by simpa [St.put_lb, eq_comm] using hB
 have rl : RepLB w' F' (s.put l B').lb (g.upd l (g.bl l) (g.hd l) S') l B' := lj0 (g := gV (g.bl l) (g.hd l) S') (l := 0) hB' (by simp [Gh.upd, gV]) (by simp [Gh.upd, gV]) (by simp [Gh.upd, gV]) hrow
 exact {
  sz := h.sz
  df := h.df
  sl := fun i => RepAV.mono st K _ _ (h.sl i)
  gh := RepAVs.mono st K _ _ h.gh
  lb := fun k Bk hk => by
   by_cases e : k = l
   ·subst e; rw [at_l Bk hk]; exact rl
   ·have hk' := at_ k Bk e hk
    exact RepLB.mono st K (gne k e).1 (gne k e).2.1 (gne k e).2.2 (fun b hb => hfr b (h.nw k Bk hk' b hb).2 (fun hm => h.dj k l Bk B e hk' hl b hb hm)) (h.lb k Bk hk')
  so := fun k Bk hk => by
   by_cases e : k = l
   ·subst e; rw [at_l Bk hk]
    exact yT1 rl (fun b hb o => by rw [dl] at hb; exact (hS b hb).2.2 o)
   ·have hk' := at_ k Bk e hk
    have hso := (h.so k Bk hk').turn (F' := F') (h.lb k Bk hk') (fun b hb o hq => by
     rcases hnew b o hq with hq | hq | hq
     ·exact hq
     ·have := (h.nw k Bk hk' b hb).2; omega
     ·exact absurd hq (h.dj k l Bk B e hk' hl b hb))
    obtain ⟨g1, g2, g3⟩ := gne k e
    cases Bk <;> simp only [SoftOk, g1, g2, g3] at hso ⊢ <;> exact hso
  nd := fun k Bk hk => by
   by_cases e : k = l
   ·subst e; rw [dl]; exact hnS
   ·rw [(gne k e).2.2]; exact h.nd k Bk (at_ k Bk e hk)
  dj := fun k k' Bk Bk' hne hk hk' b hb hb' => by
   by_cases e : k = l
   ·subst e
    have e' : k' ≠ k := Ne.symm hne
    rw [dl] at hb
    rw [(gne k' e').2.2] at hb'
    have hk1 := at_ k' Bk' e' hk'
    rcases (hS b hb).1 with hq | hq
    ·exact h.dj k' k Bk' B e' hk1 hl b hb' hq
    ·have := (h.nw k' Bk' hk1 b hb').2; omega
   ·rw [(gne k e).2.2] at hb
    have hk1 := at_ k Bk e hk
    by_cases e' : k' = l
    ·subst e'
     rw [dl] at hb'
     rcases (hS b hb').1 with hq | hq
     ·exact h.dj k k' Bk B e hk1 hl b hb hq
     ·have := (h.nw k Bk hk1 b hb).2; omega
    ·rw [(gne k' e').2.2] at hb'
     exact h.dj k k' Bk Bk' hne hk1 (at_ k' Bk' e' hk') b hb hb'
  nw := fun k Bk hk b hb => by
   by_cases e : k = l
   ·subst e
    rw [dl] at hb
    refine ⟨?_, (hS b hb).2.1⟩
    rcases (hS b hb).1 with hq | hq
    ·exact (h.nw k B hl b hq).1
    ·exact .inl (Nat.le_trans h.size hq)
   ·rw [(gne k e).2.2] at hb
    have := h.nw k Bk (at_ k Bk e hk) b hb
    exact ⟨this.1, Nat.lt_of_lt_of_le this.2 hsize⟩
  f0 := fun b o hb => hup b o (h.f0 b o hb)
  f1 := fun b o hq => by
   rcases hnew b o hq with hq | hq | hq
   ·exact h.f1 b o hq
   ·exact .inr (.inl (Nat.le_trans h.size hq))
   ·exact .inr ((h.nw l B hl b hq).1)
  f2 := hlt
  tb := h.tb
  os := hos.trans h.os
  tape := htp.trans h.tape
  output := hout.trans h.output
  size := Nat.le_trans h.size hsize
  block := fun k hk hm => (hfr k (Nat.lt_of_lt_of_le hk h.size) (fun hq => by
   rcases (h.nw l B hl k hq).1 with hq | hq
   ·omega
   ·exact hm hq)).trans (h.block k hk hm) }
def gA0 (vs : List AV) (j : Nat) : Nat :=
 match vs[j]? with
 | some (.one (.ptr l _)) => l
 | some (.one (.own l _)) => l
 | _ => 0
def yP1 (vs : List AV) (j : Nat) (B : LB) (s : St) : Prop :=
 match vs[j]? with
 | some (.one (.ptr l off)) => off = 0 ∧ s.lb l = some B ∧ (∃ cells, B = .var cells) ∧ l ∉ zs0 vs j
 | some (.one (.own l n)) => s.lb l = some B ∧ (∃ e sz rows fz, B = .arr e sz rows fz ∧ n = rows.length) ∧ l ∉ zs0 vs j
 | _ => False
theorem sb0 (h : Sim w0 M0 F0 F g s a w) {vs : List AV} {us : List Value} (hv : RepAVs w F s.lb g vs us) {j : Nat} {ds1 ds2 : List AV} (hw1 : zJ0 s.lb (vs.take j) ds1) (hw2 : zJ0 s.lb (vs.drop (j + 1)) ds2)
  {fid : FuncId} {B B' : LB} {r : AV} (hsat : xt1 P fid ds1 ds2 B B' r) (hk : yP1 vs j B s) :
  Calls P fid us.toArray w fun ex w' => ∃ v F' g', ex = .returned v ∧ Sim w0 M0 F0 F' g' ((s.frzs (zs0 vs j)).put (gA0 vs j) B') a w' ∧ RepAV w' F' ((s.frzs (zs0 vs j)).put (gA0 vs j) B').lb g' r v := by
 obtain ⟨l, hl, hlo, hval⟩ : ∃ l, s.lb l = some B ∧ l ∉ zs0 vs j ∧ gA0 vs j = l ∧ ∃ v, vs[j]? = some v ∧ ∀ u, RepAV w F s.lb g v u → u = vj1 B (g.bl l) (g.hd l) := by
  unfold yP1 at hk
  split at hk
  ·rename_i l off he
   obtain ⟨rfl, hl, ⟨cells, rfl⟩, hlo⟩ := hk
   refine ⟨l, hl, hlo, by simp [gA0, he], _, he, fun u hu => ?_⟩
   simp only [RepAV, RepAC] at hu
   obtain ⟨_, B0, hB0, hq⟩ := hu
   rw [hl] at hB0
   obtain rfl := Option.some.inj hB0
   exact hq
  ·rename_i l n he
   obtain ⟨hl, ⟨e, sz, rows, fz, rfl, rfl⟩, hlo⟩ := hk
   refine ⟨l, hl, hlo, by simp [gA0, he], _, he, fun u hu => ?_⟩
   simp only [RepAV, RepAC] at hu
   obtain ⟨_, B0, hB0, hq⟩ := hu
   rw [hl] at hB0
   obtain rfl := Option.some.inj hB0
   exact hq.2 rfl
  ·exact hk.elim
 obtain ⟨hll, v, hvj, hval⟩ := hval
 obtain ⟨F1, hF1, u1, p1⟩ := h.freezes (zs0 vs j)
 have hv1 := RepAVs.mono (w := w) (w' := w) ⟨u1, fun _ _ _ => rfl⟩ (Keeps.refl s.lb g) _ _ hv
 have r1 : RepAVs w F1 noLk g0 ds1 (us.take j) := zW0 h u1 _ _ _ hw1 (hv1.takeL j) (fun l hl => p1 l (List.mem_append_left _ hl))
 have r2 : RepAVs w F1 noLk g0 ds2 (us.drop (j + 1)) := zW0 h u1 _ _ _ hw2 (hv1.dropL (j + 1)) (fun l hl => p1 l (List.mem_append_right _ hl))
 have hl1 : (s.frzs (zs0 vs j)).lb l = some B := by rw [yP0 _ _ _ hlo]; exact hl
 obtain ⟨u, hus, hu⟩ := hv.getL hvj
 rw [hus, hval u hu, hll]
 obtain ⟨_, hB, hB', hlike, hcall⟩ := hsat
 have hun := jQ1 hB (hF1.lb l B hl1) (hF1.so l B hl1)
 refine (hcall w F1 (us.take j) (g.bl l) (g.hd l) (us.drop (j + 1)) (g.ds l) hF1.fz r1 r2 (lj0 (g := g) (l := l) hB rfl rfl rfl (hF1.lb l B hl1)) (hF1.nd l B hl1) (fun b hb => ⟨(hF1.nw l B hl1 b hb).2, hun b hb⟩)).mono ?_
 rintro ex w' ⟨v', F', S', rfl, hr, hrow, hnS, hS, hup, hnew, hlt, hos, htp, hout, hsize, hfr⟩
 exact ⟨v', F', _, rfl, zz1 hF1 hl1 hB hB' hlike hrow hnS hS hup hnew hlt hos htp hout hsize hfr, RepAV.mono (Stays.refl _ _) ⟨fun l B hl => by simp [noLk] at hl⟩ _ _ hr⟩
theorem qL1 (h : Sim w0 M0 F0 F g s a w) {us : List Value} {fid : FuncId} {ds : List AV} {cells : List AC} (hds : RepAVs w F noLk g0 ds us) (hsat : vD1 P fid ds cells) {t : Nat} (ht : s.lb t = none) :
  Calls P fid us.toArray w fun ex w' => ∃ v F' g', ex = .returned v ∧ Sim w0 M0 F0 F' g' (s.put t (.var cells)) a w' ∧ RepAV w' F' (s.put t (.var cells)).lb g' (.one (.ptr t 0)) v := by
 obtain ⟨_, hcl, hcall⟩ := hsat
 refine (hcall w F us h.fz hds).mono ?_
 rintro ex w' ⟨b, F', rfl, hrow, hbel, hb1, hb2, hbu, hup, hnew, hlt⟩
 have hg : Grows w0 M0 F F' g s w w' := {
  stays := ⟨hup, fun b o hb => zL0 (hbel.block b (h.f2 b o hb)) o⟩
  mine := fun l B hl b hb => hbel.block b (h.nw l B hl b hb).2
  so := fun l B hl => (h.so l B hl).turn (h.lb l B hl) (fun b hb o hq => by
   rcases hnew b o hq with hq | hq
   ·exact hq
   ·have := (h.nw l B hl b hb).2; omega)
  f1 := fun b o hq => (hnew b o hq).imp id (fun hq => .inl (Nat.le_trans h.size hq))
  f2 := hlt
  os := hbel.os
  tape := hbel.tape
  output := hbel.output
  size := hbel.size
  block := fun k hk _ => hbel.block k (Nat.lt_of_lt_of_le hk h.size) }
 have h4 := (h.grows hg).putLB (l := t) (b := b) (v := g.hd t) (S := [b]) (B' := .var cells) (fun B hB => by rw [ht] at hB; cases hB)
  (lj0 (g := gV b (g.hd t) [b]) (l := 0) (B := .var cells) hcl (by simp [Gh.upd, gV]) (by simp [Gh.upd, gV]) (by simp [Gh.upd, gV]) (RepLB.hd hrow hcl))
  (by simp only [SoftOk, Gh.upd, if_true]; exact hbu) (by simp)
  (fun l' B hne hB k hk hk' => by
   have := (h.nw l' B hB k hk').2
   rw [List.mem_singleton.1 hk] at this; omega)
  (fun k hk => by rw [List.mem_singleton.1 hk]; exact ⟨.inl (Nat.le_trans h.size hb1), hb2⟩)
 refine ⟨_, F', _, rfl, h4, ?_⟩
 simp only [RepAV, RepAC]
 exact ⟨rfl, .var cells, by simp only [St.put_lb, if_true], by simp [za0, Gh.upd]⟩
end
end Go.Ai
namespace Go.Ai
open Go.RowKit
variable {P : Program}
def AC.ren (ρ : Nat → Nat) : AC → AC
 | .own l n => .own (ρ l) n
 | .ptr l o => .ptr (ρ l) o
 | a => a
def AV.ren1 (ρ : Nat → Nat) : AV → AV
 | .one a => .one (a.ren ρ)
 | .agg as => .agg (as.map (AC.ren ρ))
 | v => v
def AV.ren (ρ : Nat → Nat) : AV → AV
 | .tup vs => .tup (vs.map (AV.ren1 ρ))
 | v => v.ren1 ρ
def LB.ren (ρ : Nat → Nat) : LB → LB
 | .var cells => .var (cells.map (AC.ren ρ))
 | .arr e sz rows fz => .arr e sz (rows.map fun r => r.map (AC.ren ρ)) fz
 | B => B
def okA (m : Nat) : AC → Bool
 | .c _ => true
 | .nil => true
 | .e1 => true
 | .e0 => true
 | .m _ => true
 | .any => true
 | .own l _ => decide (l < m)
 | .ptr l _ => decide (l < m)
 | _ => false
def lJ0 (m : Nat) : AV → Bool
 | .one a => okA m a
 | .agg as => as.all (okA m)
 | _ => false
def qS1 (m : Nat) : AV → Bool
 | .tup vs => vs.all (lJ0 m)
 | v => lJ0 m v
def okX (m : Nat) : LB → Bool
 | .var cells => cells.all (okA m)
 | .arr _ _ rows fz => !fz && noD rows && rows.all fun r => r.all (okA m)
 | .tok _ => false
 | .dead => true
def jL0 : LB → Bool
 | .dead => false
 | _ => true
def okP (m : Nat) (B : LB) : Bool := okX m B && jL0 B
theorem AC.ren_id (a : AC) : a.ren (fun l => l) = a := by cases a <;> rfl
theorem vI0 (as : List AC) : as.map (AC.ren (fun l => l)) = as := by
 induction as with
 | nil => rfl
 | cons a as ih => simp only [List.map_cons, AC.ren_id, ih]
theorem AV.ren1_id (v : AV) : v.ren1 (fun l => l) = v := by
 cases v <;> simp only [AV.ren1, AC.ren_id, vI0]
theorem xx0 (as : List AV) : as.map (AV.ren1 (fun l => l)) = as := by
 induction as with
 | nil => rfl
 | cons a as ih => simp only [List.map_cons, AV.ren1_id, ih]
theorem AV.ren_id (v : AV) : v.ren (fun l => l) = v := by
 cases v <;> simp only [AV.ren, AV.ren1, AC.ren_id, vI0, xx0]
theorem LB.ren_id (B : LB) : B.ren (fun l => l) = B := by
 cases B <;> simp only [LB.ren, vI0, List.map_id']
theorem kE1 (ρ : Nat → Nat) (a : AC) : isD (a.ren ρ) = isD a := by cases a <;> rfl
theorem qM1 (ρ : Nat → Nat) (rows : List (List AC)) : noD (rows.map fun r => r.map (AC.ren ρ)) = noD rows := by
 unfold noD
 rw [List.all_map]
 congr 1
 funext r
 simp only [Function.comp, List.all_map]
 congr 1
 funext a
 simp only [Function.comp, kE1]
section tr
variable {w : World} {F : Fz} {lb lb' : Lk} {g g' : Gh} {ρ σ : Nat → Nat} {m : Nat}
structure Tr (m : Nat) (ρ σ : Nat → Nat) (lb : Lk) (g : Gh) (lb' : Lk) (g' : Gh) : Prop where
 at_ : ∀ l, l < m → ∀ B, lb (ρ l) = some B → ∃ B', lb' (σ l) = some B' ∧ (∀ n u, zK0 B (g.hd (ρ l)) n u → zK0 B' (g'.hd (σ l)) n u) ∧ (∀ off u, za0 B (g.bl (ρ l)) off u → za0 B' (g'.bl (σ l)) off u)
theorem ku1 (T : Tr m ρ σ lb g lb' g') {a : AC} {u : Value} (ha : okA m a = true) (h : RepAC w F lb g (a.ren ρ) u) : RepAC w F lb' g' (a.ren σ) u := by
 cases a <;> simp only [okA, decide_eq_true_eq] at ha <;> simp only [AC.ren, RepAC] at h ⊢ <;> try exact h
 case own l n =>
  obtain ⟨h1, B, hB, hq⟩ := h
  obtain ⟨B', hB', k, _⟩ := T.at_ l ha B hB
  exact ⟨h1, B', hB', k _ _ hq⟩
 case ptr l n =>
  obtain ⟨h1, B, hB, hq⟩ := h
  obtain ⟨B', hB', _, k⟩ := T.at_ l ha B hB
  exact ⟨h1, B', hB', k _ _ hq⟩
 all_goals exact absurd ha (by simp)
theorem wP1 (T : Tr m ρ σ lb g lb' g') : ∀ {as : List AC} {us : List Value}, as.all (okA m) = true → RepACs w F lb g (as.map (AC.ren ρ)) us → RepACs w F lb' g' (as.map (AC.ren σ)) us
 | [], _, _, h => by simpa only [List.map_nil, RepACs] using h
 | a :: as, us, ha, h => by
  simp only [List.all_cons, Bool.and_eq_true] at ha
  simp only [List.map_cons, RepACs] at h ⊢
  obtain ⟨u, us', h1, h2, h3⟩ := h
  exact ⟨u, us', h1, ku1 T ha.1 h2, wP1 T ha.2 h3⟩
theorem kv1 (T : Tr m ρ σ lb g lb' g') {a : AC} {u : Value} {S : List Nat} (ha : okA m a = true) (h : RepCell w F lb g (a.ren ρ) u S) : RepCell w F lb' g' (a.ren σ) u S := by
 cases a
 case m x => exact h
 case d x => exact absurd ha (by simp [okA])
 all_goals exact ⟨ku1 T ha h.1, h.2⟩
theorem rR0 (T : Tr m ρ σ lb g lb' g') : ∀ {as : List AC} {us : List Value} {S : List Nat}, as.all (okA m) = true → RepCells w F lb g (as.map (AC.ren ρ)) us S → RepCells w F lb' g' (as.map (AC.ren σ)) us S
 | [], _, _, _, h => by simpa only [List.map_nil, RepCells] using h
 | a :: as, us, S, ha, h => by
  simp only [List.all_cons, Bool.and_eq_true] at ha
  simp only [List.map_cons, RepCells] at h ⊢
  obtain ⟨u, us', S1, S2, h1, h2, h3, h4⟩ := h
  exact ⟨u, us', S1, S2, h1, h2, kv1 T ha.1 h3, rR0 T ha.2 h4⟩
theorem rQ0 (T : Tr m ρ σ lb g lb' g') {v : AV} {u : Value} (ha : lJ0 m v = true) (h : RepAV w F lb g (v.ren1 ρ) u) : RepAV w F lb' g' (v.ren1 σ) u := by
 cases v with
 | one a => simp only [AV.ren1, RepAV] at h ⊢; exact ku1 T ha h
 | agg as =>
  simp only [AV.ren1, RepAV] at h ⊢
  obtain ⟨us, h1, h2⟩ := h
  exact ⟨us, h1, wP1 T ha h2⟩
 | tup vs => exact absurd ha (by simp [lJ0])
 | any => exact absurd ha (by simp [lJ0])
theorem nA0 (T : Tr m ρ σ lb g lb' g') : ∀ {vs : List AV} {us : List Value}, vs.all (lJ0 m) = true → RepAVs w F lb g (vs.map (AV.ren1 ρ)) us → RepAVs w F lb' g' (vs.map (AV.ren1 σ)) us
 | [], _, _, h => by simpa only [List.map_nil, RepAVs] using h
 | a :: as, us, ha, h => by
  simp only [List.all_cons, Bool.and_eq_true] at ha
  simp only [List.map_cons, RepAVs] at h ⊢
  obtain ⟨u, us', h1, h2, h3⟩ := h
  exact ⟨u, us', h1, rQ0 T ha.1 h2, nA0 T ha.2 h3⟩
theorem dO1 (T : Tr m ρ σ lb g lb' g') {v : AV} {u : Value} (ha : qS1 m v = true) (h : RepAV w F lb g (v.ren ρ) u) : RepAV w F lb' g' (v.ren σ) u := by
 cases v with
 | tup vs =>
  simp only [AV.ren, RepAV] at h ⊢
  obtain ⟨us, h1, h2⟩ := h
  exact ⟨us, h1, nA0 T ha h2⟩
 | one a => exact rQ0 T (v := .one a) ha h
 | agg as => exact rQ0 T (v := .agg as) ha h
 | any => exact absurd ha (by simp [qS1, lJ0])
theorem yG1 (ρ : Nat → Nat) (rows : List (List AC)) : (rows.map fun r => r.map (AC.ren ρ)).flatten = rows.flatten.map (AC.ren ρ) := by
 induction rows with
 | nil => rfl
 | cons r rs ih => simp only [List.map_cons, List.flatten_cons, List.map_append, ih]
theorem yt1 (T : Tr m ρ σ lb g lb' g') {j : Nat} {B : LB} (hok : okX m B = true) (e0 : g'.bl (σ j) = g.bl (ρ j)) (e1 : g'.hd (σ j) = g.hd (ρ j)) (e2 : g'.ds (σ j) = g.ds (ρ j)) (h : RepLB w F lb g (ρ j) (B.ren ρ)) : RepLB w F lb' g' (σ j) (B.ren σ) := by
 cases B with
 | var cells =>
  obtain ⟨cs, e, h1, h2, h3⟩ := h
  exact ⟨cs, e, by rw [e0]; exact h1, wP1 T hok h2, by rw [e2, e0]; exact h3⟩
 | arr e sz rows fz =>
  obtain ⟨h1, h2, xs, S, h3, h4, h5⟩ := h
  simp only [okX, Bool.and_eq_true] at hok
  refine ⟨h1, ?_, xs, S, ?_, ?_, by rw [e1, e2]; exact h5⟩
  ·intro r hr
   obtain ⟨r0, hr0, rfl⟩ := List.mem_map.1 hr
   have := h2 (r0.map (AC.ren ρ)) (List.mem_map.2 ⟨r0, hr0, rfl⟩)
   rw [List.length_map] at this ⊢
   exact this
  ·rw [e1, List.length_map]; rw [List.length_map] at h3; exact h3
  ·rw [yG1] at h4 ⊢
   refine rR0 T (List.all_eq_true.2 fun a ha => ?_) h4
   obtain ⟨r, hr, har⟩ := List.mem_flatten.1 ha
   exact List.all_eq_true.1 (List.all_eq_true.1 hok.2 r hr) a har
 | tok x => exact absurd hok (by simp [okX])
 | dead => trivial
theorem ch0 {j : Nat} {B : LB} (e0 : g'.bl (σ j) = g.bl (ρ j)) (e1 : g'.hd (σ j) = g.hd (ρ j)) (e2 : g'.ds (σ j) = g.ds (ρ j)) (h : SoftOk F g (ρ j) (B.ren ρ)) : SoftOk F g' (σ j) (B.ren σ) := by
 cases B with
 | var cells => simp only [LB.ren, SoftOk] at h ⊢; rw [e0]; exact h
 | arr e sz rows fz =>
  simp only [LB.ren, SoftOk, qM1, List.length_map] at h ⊢
  rw [e1, e2]; exact h
 | tok x => simp only [LB.ren, SoftOk] at h ⊢; rw [e2]; exact h
 | dead => trivial
theorem jS1 {l : Nat} {B : LB} (hB : okX m B = true) (hd : jL0 B = true) (hr : RepLB w F lb g l (B.ren ρ)) (hs : SoftOk F g l (B.ren ρ)) : ∀ b, b ∈ g.ds l → ∀ o, ¬ F b o := by
 cases B with
 | var cells =>
  obtain ⟨_, _, _, _, hd⟩ := hr
  rw [hd]
  intro b hb o
  rw [List.mem_singleton.1 hb]
  exact hs o
 | arr e sz rows fz =>
  simp only [okX, Bool.and_eq_true, Bool.not_eq_true'] at hB
  simp only [LB.ren, SoftOk, qM1] at hs
  exact hs.2 hB.1.1 hB.1.2
 | tok x => exact absurd hB (by simp [okX])
 | dead => exact absurd hd (by simp [jL0])
theorem ownB_ren {B : LB} {h : Value} {n : Nat} {u : Value} : zK0 (B.ren ρ) h n u ↔ zK0 B h n u := by
 cases B <;> simp only [LB.ren, zK0, List.length_map]
theorem ptrB_ren {B : LB} {b off : Nat} {u : Value} : za0 (B.ren ρ) b off u ↔ za0 B b off u := by
 cases B <;> simp only [LB.ren, za0]
theorem epB_ren {B : LB} {h : Value} {n i off : Nat} {u : Value} : zx0 (B.ren ρ) h n i off u ↔ zx0 B h n i off u := by
 cases B <;> simp only [LB.ren, zx0, List.length_map]
theorem tkB_ren {B : LB} {h : Value} {i : Nat} {u : Value} : qg0 (B.ren ρ) h i u ↔ qg0 B h i u := by
 cases B <;> simp only [LB.ren, qg0]
end tr
def lkL (Bs : List LB) : Lk := fun k => Bs[k]?
structure RepX (w : World) (F : Fz) (g : Gh) (Bs : List LB) : Prop where
 lb : ∀ j B, Bs[j]? = some B → RepLB w F (lkL Bs) g j B
 so : ∀ j B, Bs[j]? = some B → SoftOk F g j B
 nd : ∀ j B, Bs[j]? = some B → (g.ds j).Nodup
 dj : ∀ j j' B B', j ≠ j' → Bs[j]? = some B → Bs[j']? = some B' → ∀ b, b ∈ g.ds j → b ∉ g.ds j'
 nw : ∀ j B, Bs[j]? = some B → ∀ b, b ∈ g.ds j → b < w.heap.size
def InX (g : Gh) (Bs : List LB) (b : Nat) : Prop := ∃ j B, Bs[j]? = some B ∧ b ∈ g.ds j
structure OutX (w : World) (F : Fz) (g : Gh) (Bs : List LB) (w' : World) (F' : Fz) (g' : Gh) (Bs' : List LB) : Prop where
 rep : RepX w' F' g' Bs'
 keep : ∀ j B, Bs[j]? = some B → ∃ B', Bs'[j]? = some B' ∧ (∀ n u, zK0 B (g.hd j) n u → zK0 B' (g'.hd j) n u) ∧ (∀ off u, za0 B (g.bl j) off u → za0 B' (g'.bl j) off u) ∧
  (∀ n i off u, zx0 B (g.hd j) n i off u → zx0 B' (g'.hd j) n i off u) ∧ (∀ i u, qg0 B (g.hd j) i u → qg0 B' (g'.hd j) i u)
 src : ∀ j B, Bs'[j]? = some B → ∀ b, b ∈ g'.ds j → InX g Bs b ∨ w.heap.size ≤ b
 up : ∀ b o, F b o → F' b o
 new : ∀ b o, F' b o → F b o ∨ w.heap.size ≤ b ∨ InX g Bs b
 lt : ∀ b o, F' b o → b < w'.heap.size
 os : w'.os = w.os
 tape : w'.tape = w.tape
 output : w'.output = w.output
 size : w.heap.size ≤ w'.heap.size
 frame : ∀ k, k < w.heap.size → ¬ InX g Bs k → w'.heap[k]? = w.heap[k]?
def fL0 (P : Program) (f : FuncId) (args : List AV) (Bs Bs' : List LB) (r : AV) : Prop :=
 qG0 P f ∧ (Bs.all (okP Bs.length)) = true ∧ (Bs'.all (okX Bs'.length)) = true ∧ qS1 Bs'.length r = true ∧
 ∀ (w : World) (F : Fz) (g : Gh) (us : List Value), FzOk w F → RepAVs w F (lkL Bs) g args us → RepX w F g Bs →
  Calls P f us.toArray w fun ex w' => ∃ v F' g', ex = .returned v ∧ RepAV w' F' (lkL Bs') g' r v ∧ OutX w F g Bs w' F' g' Bs'
def idx : List Nat → Nat → Nat
 | [], _ => 0
 | l :: ls, j => if j = 0 then l else idx ls (j - 1)
theorem yI0 : ∀ {L : List Nat} {j l : Nat}, L[j]? = some l → idx L j = l
 | [], _, _, h => by simp at h
 | x :: L, 0, l, h => by simpa [idx] using h
 | x :: L, j + 1, l, h => by
  simp only [idx]
  rw [if_neg (Nat.succ_ne_zero j), Nat.add_sub_cancel]
  exact yI0 (by simpa using h)
def pos : List Nat → Nat → Option Nat
 | [], _ => none
 | l :: ls, k => if k = l then some 0 else (pos ls k).map (· + 1)
theorem yB0 : ∀ {L : List Nat} {k j : Nat}, pos L k = some j → L[j]? = some k
 | [], _, _, h => by simp [pos] at h
 | l :: L, k, j, h => by
  simp only [pos] at h
  split at h
  ·rename_i e; obtain rfl := Option.some.inj h; simp [e]
  ·cases hp : pos L k with
   | none => rw [hp] at h; simp at h
   | some i => rw [hp] at h; simp at h; subst h; simpa using yB0 hp
theorem cK0 : ∀ {L : List Nat} {k : Nat}, pos L k = none → k ∉ L
 | [], _, _ => by simp
 | l :: L, k, h => by
  simp only [pos] at h
  split at h
  ·cases h
  ·rename_i e
   cases hp : pos L k with
   | none => simp [e, cK0 hp]
   | some i => rw [hp] at h; simp at h
theorem va0 {L : List Nat} (hn : L.Nodup) {j k : Nat} (h : L[j]? = some k) : pos L k = some j := by
 cases hp : pos L k with
 | none => exact absurd (List.mem_of_getElem? h) (cK0 hp)
 | some i =>
  have h2 := yB0 hp
  obtain ⟨hj, e1⟩ := List.getElem?_eq_some_iff.1 h
  obtain ⟨hi, e2⟩ := List.getElem?_eq_some_iff.1 h2
  rw [(List.getElem_inj hn).1 (e2.trans e1.symm)]
def lH0 (lb : Lk) (ρ : Nat → Nat) : List Nat → List LB → Prop
 | [], [] => True
 | l :: ls, B :: Bs => lb l = some (B.ren ρ) ∧ lH0 lb ρ ls Bs
 | _, _ => False
theorem xk0 {lb : Lk} {ρ : Nat → Nat} : ∀ {ls : List Nat} {Bs : List LB}, lH0 lb ρ ls Bs → ls.length = Bs.length ∧ ∀ (j : Nat) B, Bs[j]? = some B → ∃ l, ls[j]? = some l ∧ lb l = some (B.ren ρ)
 | [], [], _ => ⟨rfl, fun j B h => by simp at h⟩
 | l :: ls, B :: Bs, h => by
  obtain ⟨h1, h2⟩ := xk0 h.2
  refine ⟨by simp [h1], fun j B' hj => ?_⟩
  cases j with
  | zero => simp at hj; subst hj; exact ⟨l, rfl, h.1⟩
  | succ j => simpa using h2 j B' (by simpa using hj)
 | [], _ :: _, h => h.elim
 | _ :: _, [], h => h.elim
def vz1 : AC → Bool
 | .nil => true
 | .own _ _ => true
 | .ptr _ _ => true
 | _ => false
def xg1 : AV → Bool
 | .one a => vz1 a
 | .agg as => as.any vz1
 | _ => false
def fy0 (ls : List Nat) : List Nat → Bool
 | [] => true
 | l :: r => ls.all (fun k => !(k == l)) && fy0 ls r
theorem fz0 {ls : List Nat} : ∀ {r : List Nat}, fy0 ls r = true → ∀ l, l ∈ r → l ∉ ls
 | x :: r, h, l, hl => by
  simp only [fy0, Bool.and_eq_true] at h
  rcases List.mem_cons.1 hl with rfl | hl
  ·intro hm
   have := List.all_eq_true.1 h.1 l hm
   simp at this
  ·exact fz0 h.2 l hl
def conA (R : AV → AV → Prop) (ρ : Nat → Nat) (m : Nat) (ls : List Nat) : List AV → List AV → Prop
 | [], [] => True
 | v :: vs, d :: ds => (if xg1 d = true then v = d.ren1 ρ ∧ lJ0 m d = true else R v d ∧ fy0 ls v.owns = true) ∧ conA R ρ m ls vs ds
 | _, _ => False
theorem conA.mono {R R' : AV → AV → Prop} (hR : ∀ v d, R v d → R' v d) {ρ : Nat → Nat} {m : Nat} {ls : List Nat} : ∀ {vs ds : List AV}, conA R ρ m ls vs ds → conA R' ρ m ls vs ds
 | [], [], _ => trivial
 | v :: vs, d :: ds, h => by
  simp only [conA] at h ⊢
  refine ⟨?_, conA.mono hR h.2⟩
  have h1 := h.1
  split at h1
  ·rename_i e; rw [if_pos e]; exact h1
  ·rename_i e; rw [if_neg e]; exact ⟨hR _ _ h1.1, h1.2⟩
 | [], _ :: _, h => h.elim
 | _ :: _, [], h => h.elim
def bC0 : List AV → List AV → List Nat
 | v :: vs, d :: ds => (if xg1 d = true then [] else v.owns) ++ bC0 vs ds
 | _, _ => []
theorem pa0 {R : AV → AV → Prop} {ρ : Nat → Nat} {m : Nat} {ls : List Nat} : ∀ {vs ds : List AV}, conA R ρ m ls vs ds → ∀ l, l ∈ bC0 vs ds → l ∉ ls
 | [], [], _, _, h => by cases h
 | v :: vs, d :: ds, h, l, hl => by
  simp only [bC0, List.mem_append] at hl
  rcases hl with hl | hl
  ·have h1 := h.1
   split at hl
   ·cases hl
   ·rename_i e
    rw [if_neg e] at h1
    exact fz0 h1.2 l hl
  ·exact pa0 h.2 l hl
 | [], _ :: _, h, _, _ => h.elim
 | _ :: _, [], h, _, _ => h.elim
def wv0 (ρ : Nat → Nat) : List Nat → List LB → St → St
 | l :: ls, B :: Bs, s => wv0 ρ ls Bs (s.put l (B.ren ρ))
 | _, _, s => s
def vp0 (s : St) : List Nat → Prop
 | [] => True
 | n :: ns => s.lb n = none ∧ vp0 s ns
theorem fq0 {s : St} : ∀ {ns : List Nat}, vp0 s ns → ∀ n, n ∈ ns → s.lb n = none
 | x :: ns, h, n, hn => by
  rcases List.mem_cons.1 hn with rfl | hn
  ·exact h.1
  ·exact fq0 h.2 n hn
@[simp] theorem putsX_n (ρ : Nat → Nat) : ∀ (L : List Nat) (Bs : List LB) (s : St), (wv0 ρ L Bs s).n = s.n
 | [], _, _ => rfl
 | _ :: _, [], _ => rfl
 | l :: L, B :: Bs, s => by rw [wv0, putsX_n]; rfl
@[simp] theorem putsX_sl (ρ : Nat → Nat) : ∀ (L : List Nat) (Bs : List LB) (s : St), (wv0 ρ L Bs s).sl = s.sl
 | [], _, _ => rfl
 | _ :: _, [], _ => rfl
 | l :: L, B :: Bs, s => by rw [wv0, putsX_sl]; rfl
@[simp] theorem putsX_gh (ρ : Nat → Nat) : ∀ (L : List Nat) (Bs : List LB) (s : St), (wv0 ρ L Bs s).gh = s.gh
 | [], _, _ => rfl
 | _ :: _, [], _ => rfl
 | l :: L, B :: Bs, s => by rw [wv0, putsX_gh]; rfl
theorem rA0 (ρ : Nat → Nat) : ∀ (L : List Nat) (Bs : List LB) (s : St), L.Nodup → L.length = Bs.length → ∀ k,
  (pos L k = none → (wv0 ρ L Bs s).lb k = s.lb k) ∧ ∀ j B, pos L k = some j → Bs[j]? = some B → (wv0 ρ L Bs s).lb k = some (B.ren ρ)
 | [], [], s, _, _, k => ⟨fun _ => rfl, fun j B h => by simp [pos] at h⟩
 | l :: L, B :: Bs, s, hn, hl, k => by
  obtain ⟨i1, i2⟩ := rA0 ρ L Bs (s.put l (B.ren ρ)) (List.nodup_cons.1 hn).2 (by simpa using hl) k
  simp only [wv0]
  by_cases e : k = l
  ·subst e
   have hno : pos L k = none := by
    cases hp : pos L k with
    | none => rfl
    | some j => exact absurd (List.mem_of_getElem? (yB0 hp)) (List.nodup_cons.1 hn).1
   refine ⟨fun h => by simp [pos] at h, fun j B' hp hB => ?_⟩
   simp only [pos, if_true, Option.some.injEq] at hp
   subst hp
   simp at hB
   subst hB
   rw [i1 hno, St.put_lb, if_pos rfl]
  ·refine ⟨fun h => ?_, fun j B' hp hB => ?_⟩
   ·simp only [pos, if_neg e, Option.map_eq_none_iff] at h
    rw [i1 h, St.put_lb, if_neg e]
   ·simp only [pos, if_neg e, Option.map_eq_some_iff] at hp
    obtain ⟨i, hi, rfl⟩ := hp
    exact i2 i B' hi (by simpa using hB)
 | [], _ :: _, _, _, hl, _ => by simp at hl
 | _ :: _, [], _, _, hl, _ => by simp at hl
section
variable {w0 : World} {M0 : Ms} {F0 F F' : Fz} {g g' : Gh} {s : St} {a : Act} {w w' : World} {lb lb' : Lk}
def Gh.pull (g : Gh) (ρ : Nat → Nat) : Gh := ⟨fun j => g.bl (ρ j), fun j => g.hd (ρ j), fun j => g.ds (ρ j)⟩
def Gh.push (g g' : Gh) (L : List Nat) : Gh :=
 ⟨fun k => match pos L k with | some j => g'.bl j | none => g.bl k, fun k => match pos L k with | some j => g'.hd j | none => g.hd k, fun k => match pos L k with | some j => g'.ds j | none => g.ds k⟩
theorem jT1 {ls ns : List Nat} {Bs : List LB} (hB : lH0 s.lb (idx (ls ++ ns)) ls Bs) : Tr Bs.length (idx (ls ++ ns)) (fun l => l) s.lb g (lkL Bs) (g.pull (idx (ls ++ ns))) := by
 refine ⟨fun l hl B hlb => ?_⟩
 have hb : Bs[l]? = some Bs[l] := List.getElem?_eq_getElem hl
 obtain ⟨k, hk, hkb⟩ := (xk0 hB).2 l _ hb
 have e : idx (ls ++ ns) l = k := yI0 (by rw [List.getElem?_append_left (List.getElem?_eq_some_iff.1 hk).1]; exact hk)
 rw [e, hkb] at hlb
 obtain rfl := Option.some.inj hlb
 refine ⟨Bs[l], hb, fun n u hq => ?_, fun off u hq => ?_⟩
 ·exact ownB_ren.1 hq
 ·exact ptrB_ren.1 hq
theorem jl1 (h : Sim w0 M0 F0 F g s a w) {ls ns : List Nat} (hnd : (ls ++ ns).Nodup) {Bs : List LB} (hB : lH0 s.lb (idx (ls ++ ns)) ls Bs) (hok : (Bs.all (okP Bs.length)) = true) :
  RepX w F (g.pull (idx (ls ++ ns))) Bs := by
 have at_ : ∀ j B, Bs[j]? = some B → s.lb (idx (ls ++ ns) j) = some (B.ren (idx (ls ++ ns))) ∧ okX Bs.length B = true ∧ ∃ l, (ls ++ ns)[j]? = some l ∧ idx (ls ++ ns) j = l := by
  intro j B hj
  obtain ⟨k, hk, hkb⟩ := (xk0 hB).2 j B hj
  have e2 : (ls ++ ns)[j]? = some k := by rw [List.getElem?_append_left (List.getElem?_eq_some_iff.1 hk).1]; exact hk
  have e := yI0 e2
  have := List.all_eq_true.1 hok B (List.mem_of_getElem? hj)
  simp only [okP, Bool.and_eq_true] at this
  exact ⟨by rw [e]; exact hkb, this.1, k, e2, e⟩
 refine ⟨fun j B hj => ?_, fun j B hj => ?_, fun j B hj => ?_, fun j j' B B' hne hj hj' b hb => ?_, fun j B hj b hb => ?_⟩
 ·obtain ⟨h1, h2, _⟩ := at_ j B hj
  have := yt1 (g' := g.pull (idx (ls ++ ns))) (σ := fun l => l) (jT1 hB) h2 rfl rfl rfl (h.lb _ _ h1)
  rwa [LB.ren_id] at this
 ·obtain ⟨h1, h2, _⟩ := at_ j B hj
  have := ch0 (g' := g.pull (idx (ls ++ ns))) (σ := fun l => l) (j := j) rfl rfl rfl (h.so _ _ h1)
  rwa [LB.ren_id] at this
 ·exact h.nd _ _ (at_ j B hj).1
 ·obtain ⟨h1, _, l, h2, h3⟩ := at_ j B hj
  obtain ⟨k1, _, l', k2, k3⟩ := at_ j' B' hj'
  refine h.dj _ _ _ _ ?_ h1 k1 b hb
  rw [h3, k3]
  rintro rfl
  exact hne (Option.some.inj ((va0 hnd h2).symm.trans (va0 hnd k2)))
 ·exact (h.nw _ _ (at_ j B hj).1 b hb).2
theorem wy1 (h : Sim w0 M0 F0 F g s a w) {ls ns : List Nat} (hnd : (ls ++ ns).Nodup) {Bs Bs' : List LB} (hB : lH0 s.lb (idx (ls ++ ns)) ls Bs) (hok : (Bs.all (okP Bs.length)) = true) (hok' : (Bs'.all (okX Bs'.length)) = true)
  (hfr : vp0 s ns) (hlen : (ls ++ ns).length = Bs'.length) (ho : OutX w F (g.pull (idx (ls ++ ns))) Bs w' F' g' Bs') :
  Sim w0 M0 F0 F' (g.push g' (ls ++ ns)) (wv0 (idx (ls ++ ns)) (ls ++ ns) Bs' s) a w' ∧ ∀ r v, qS1 Bs'.length r = true → RepAV w' F' (lkL Bs') g' r v → RepAV w' F' (wv0 (idx (ls ++ ns)) (ls ++ ns) Bs' s).lb (g.push g' (ls ++ ns)) (r.ren (idx (ls ++ ns))) v := by
 obtain ⟨hl1, hBg⟩ := xk0 hB
 generalize hρ : idx (ls ++ ns) = ρ at *
 have at_ : ∀ j B, Bs[j]? = some B → ∃ l, (ls ++ ns)[j]? = some l ∧ ρ j = l ∧ s.lb l = some (B.ren ρ) ∧ okX Bs.length B = true ∧ jL0 B = true := by
  intro j B hj
  obtain ⟨k, hk, hkb⟩ := hBg j B hj
  have e2 : (ls ++ ns)[j]? = some k := by rw [List.getElem?_append_left (List.getElem?_eq_some_iff.1 hk).1]; exact hk
  have e := yI0 e2
  rw [hρ] at e
  have := List.all_eq_true.1 hok B (List.mem_of_getElem? hj)
  simp only [okP, Bool.and_eq_true] at this
  exact ⟨k, e2, e, hkb, this.1, this.2⟩
 have inx : ∀ b, InX (g.pull ρ) Bs b → ∃ l B, s.lb l = some B ∧ l ∈ ls ++ ns ∧ b ∈ g.ds l ∧ ∀ o, ¬ F b o := by
  rintro b ⟨j, B, hj, hb⟩
  obtain ⟨l, k1, k2, k3, k4, k5⟩ := at_ j B hj
  have hb : b ∈ g.ds l := by rw [← k2]; exact hb
  exact ⟨l, _, k3, List.mem_of_getElem? k1, hb, jS1 k4 k5 (h.lb _ _ k3) (h.so _ _ k3) b hb⟩
 have lbP : ∀ k, (pos (ls ++ ns) k = none → (wv0 ρ (ls ++ ns) Bs' s).lb k = s.lb k) ∧ ∀ j B, pos (ls ++ ns) k = some j → Bs'[j]? = some B → (wv0 ρ (ls ++ ns) Bs' s).lb k = some (B.ren ρ) := rA0 ρ (ls ++ ns) Bs' s hnd hlen
 have other : ∀ k B, s.lb k = some B → pos (ls ++ ns) k = none → ∀ b, b ∈ g.ds k → ¬ InX (g.pull ρ) Bs b := by
  intro k B hk hp b hb hin
  obtain ⟨l, B', h1, h2, h3, _⟩ := inx b hin
  refine h.dj k l B B' ?_ hk h1 b hb h3
  rintro rfl
  exact cK0 hp h2
 have gN : ∀ k, pos (ls ++ ns) k = none → (g.push g' (ls ++ ns)).bl k = g.bl k ∧ (g.push g' (ls ++ ns)).hd k = g.hd k ∧ (g.push g' (ls ++ ns)).ds k = g.ds k := by
  intro k hk; simp only [Gh.push, hk]; exact ⟨trivial, trivial, trivial⟩
 have gS : ∀ k j, pos (ls ++ ns) k = some j → (g.push g' (ls ++ ns)).bl k = g'.bl j ∧ (g.push g' (ls ++ ns)).hd k = g'.hd j ∧ (g.push g' (ls ++ ns)).ds k = g'.ds j := by
  intro k hk j; simp only [Gh.push, j]; exact ⟨trivial, trivial, trivial⟩
 have bAt : ∀ k j, pos (ls ++ ns) k = some j → ∃ B, Bs'[j]? = some B ∧ ρ j = k := by
  intro k j hp
  have h1 := yB0 hp
  have hj := (List.getElem?_eq_some_iff.1 h1).1
  rw [hlen] at hj
  exact ⟨Bs'[j], List.getElem?_eq_getElem hj, by rw [← hρ]; exact yI0 h1⟩
 have posρ : ∀ j, j < Bs'.length → pos (ls ++ ns) (ρ j) = some j := by
  intro j hj
  rw [← hlen] at hj
  have h1 : (ls ++ ns)[j]? = some (ls ++ ns)[j] := List.getElem?_eq_getElem hj
  have h2 := yI0 h1
  rw [hρ] at h2
  rw [h2]
  exact va0 hnd h1
 have T : Tr Bs'.length (fun l => l) ρ (lkL Bs') g' (wv0 ρ (ls ++ ns) Bs' s).lb (g.push g' (ls ++ ns)) := by
  refine ⟨fun l hl B hlb => ?_⟩
  have hp := posρ l hl
  obtain ⟨e0, e1, _⟩ := gS _ _ hp
  refine ⟨B.ren ρ, (lbP _).2 l B hp hlb, fun n u hq => ?_, fun off u hq => ?_⟩
  ·rw [e1]; exact ownB_ren.2 hq
  ·rw [e0]; exact ptrB_ren.2 hq
 have st : Stays w w' F F' := ⟨ho.up, fun b o hb => zL0 (ho.frame b (h.f2 b o hb) (fun hin => by
  obtain ⟨_, _, _, _, _, hf⟩ := inx b hin
  exact hf o hb)) o⟩
 have K : Keeps s.lb g (wv0 ρ (ls ++ ns) Bs' s).lb (g.push g' (ls ++ ns)) := by
  refine ⟨fun l B hl => ?_⟩
  cases hp : pos (ls ++ ns) l with
  | none =>
   obtain ⟨e0, e1, _⟩ := gN l hp
   exact ⟨B, by rw [(lbP l).1 hp]; exact hl, by rw [e0, e1]; exact ⟨fun _ _ h => h, fun _ _ h => h, fun _ _ _ _ h => h, fun _ _ h => h⟩⟩
  | some j =>
   obtain ⟨e0, e1, _⟩ := gS l j hp
   have hg := yB0 hp
   have hjl : j < ls.length := by
    rcases Nat.lt_or_ge j ls.length with hj | hj
    ·exact hj
    ·rw [List.getElem?_append_right hj] at hg
     have := fq0 hfr l (List.mem_of_getElem? hg)
     rw [hl] at this; cases this
   rw [hl1] at hjl
   have hb : Bs[j]? = some Bs[j] := List.getElem?_eq_getElem hjl
   obtain ⟨l', k1, k2, k3, _⟩ := at_ j _ hb
   rw [hg] at k1
   obtain rfl := Option.some.inj k1
   rw [hl] at k3
   obtain rfl := Option.some.inj k3
   obtain ⟨B', hB', c1, c2, c3, c4⟩ := ho.keep j _ hb
   have p0 : (g.pull ρ).bl j = g.bl l := by simp only [Gh.pull, k2]
   have p1 : (g.pull ρ).hd j = g.hd l := by simp only [Gh.pull, k2]
   rw [p1] at c1 c3 c4
   rw [p0] at c2
   refine ⟨B'.ren ρ, (lbP l).2 j B' hp hB', ?_⟩
   rw [e0, e1]
   exact ⟨fun n u hq => ownB_ren.2 (c1 n u (ownB_ren.1 hq)), fun n u hq => ptrB_ren.2 (c2 n u (ptrB_ren.1 hq)), fun n i off u hq => epB_ren.2 (c3 n i off u (epB_ren.1 hq)), fun i u hq => tkB_ren.2 (c4 i u (tkB_ren.1 hq))⟩
 refine ⟨?_, fun r v hr hv => by
  have := dO1 T hr (by rw [AV.ren_id]; exact hv)
  exact this⟩
 have lbS : ∀ k B, (wv0 ρ (ls ++ ns) Bs' s).lb k = some B → (pos (ls ++ ns) k = none ∧ s.lb k = some B) ∨ ∃ j B', pos (ls ++ ns) k = some j ∧ Bs'[j]? = some B' ∧ B = B'.ren ρ ∧ ρ j = k := by
  intro k B hk
  cases hp : pos (ls ++ ns) k with
  | none => rw [(lbP k).1 hp] at hk; exact .inl ⟨rfl, hk⟩
  | some j =>
   obtain ⟨B', hB', e⟩ := bAt k j hp
   rw [(lbP k).2 j B' hp hB'] at hk
   exact .inr ⟨j, B', rfl, hB', (Option.some.inj hk).symm, e⟩
 exact {
  sz := by rw [putsX_n]; exact h.sz
  df := h.df
  sl := fun i => by rw [putsX_sl]; exact RepAV.mono st K _ _ (h.sl i)
  gh := by rw [putsX_gh]; exact RepAVs.mono st K _ _ h.gh
  lb := fun k B hk => by
   rcases lbS k B hk with ⟨hp, hk⟩ | ⟨j, B', hp, hB', rfl, e⟩
   ·obtain ⟨e0, e1, e2⟩ := gN k hp
    exact RepLB.mono st K e0 e1 e2 (fun b hb => ho.frame b (h.nw k B hk b hb).2 (other k B hk hp b hb)) (h.lb k B hk)
   ·obtain ⟨e0, e1, e2⟩ := gS k j hp
    subst e
    have hb := List.all_eq_true.1 hok' B' (List.mem_of_getElem? hB')
    exact yt1 (j := j) T hb e0 e1 e2 (by rw [LB.ren_id]; exact ho.rep.lb j B' hB')
  so := fun k B hk => by
   rcases lbS k B hk with ⟨hp, hk⟩ | ⟨j, B', hp, hB', rfl, e⟩
   ·obtain ⟨e0, e1, e2⟩ := gN k hp
    have hso := (h.so k B hk).turn (F' := F') (h.lb k B hk) (fun b hb o hq => by
     rcases ho.new b o hq with hq | hq | hq
     ·exact hq
     ·have := (h.nw k B hk b hb).2; omega
     ·exact absurd hq (other k B hk hp b hb))
    cases B <;> simp only [SoftOk, e0, e1, e2] at hso ⊢ <;> exact hso
   ·obtain ⟨e0, e1, e2⟩ := gS k j hp
    subst e
    exact ch0 (j := j) (ρ := fun l => l) e0 e1 e2 (by rw [LB.ren_id]; exact ho.rep.so j B' hB')
  nd := fun k B hk => by
   rcases lbS k B hk with ⟨hp, hk⟩ | ⟨j, B', hp, hB', rfl, e⟩
   ·rw [(gN k hp).2.2]; exact h.nd k B hk
   ·rw [(gS k j hp).2.2]; exact ho.rep.nd j B' hB'
  dj := fun k k' B B' hne hk hk' b hb hb' => by
   rcases lbS k B hk with ⟨hp, hk⟩ | ⟨j, C, hp, hC, rfl, e⟩
   ·rw [(gN k hp).2.2] at hb
    rcases lbS k' B' hk' with ⟨hp', hk'⟩ | ⟨j', C', hp', hC', rfl, e'⟩
    ·rw [(gN k' hp').2.2] at hb'
     exact h.dj k k' B B' hne hk hk' b hb hb'
    ·rw [(gS k' j' hp').2.2] at hb'
     rcases ho.src j' C' hC' b hb' with hq | hq
     ·exact other k B hk hp b hb hq
     ·have := (h.nw k B hk b hb).2; omega
   ·rw [(gS k j hp).2.2] at hb
    rcases lbS k' B' hk' with ⟨hp', hk'⟩ | ⟨j', C', hp', hC', rfl, e'⟩
    ·rw [(gN k' hp').2.2] at hb'
     rcases ho.src j C hC b hb with hq | hq
     ·exact other k' B' hk' hp' b hb' hq
     ·have := (h.nw k' B' hk' b hb').2; omega
    ·rw [(gS k' j' hp').2.2] at hb'
     refine ho.rep.dj j j' C C' ?_ hC hC' b hb hb'
     rintro rfl
     exact hne (e.symm.trans e')
  nw := fun k B hk b hb => by
   rcases lbS k B hk with ⟨hp, hk⟩ | ⟨j, C, hp, hC, rfl, e⟩
   ·rw [(gN k hp).2.2] at hb
    have := h.nw k B hk b hb
    exact ⟨this.1, Nat.lt_of_lt_of_le this.2 ho.size⟩
   ·rw [(gS k j hp).2.2] at hb
    refine ⟨?_, ho.rep.nw j C hC b hb⟩
    rcases ho.src j C hC b hb with hq | hq
    ·obtain ⟨l, B', h1, _, h3, _⟩ := inx b hq
     exact (h.nw l B' h1 b h3).1
    ·exact .inl (Nat.le_trans h.size hq)
  f0 := fun b o hb => ho.up b o (h.f0 b o hb)
  f1 := fun b o hq => by
   rcases ho.new b o hq with hq | hq | hq
   ·exact h.f1 b o hq
   ·exact .inr (.inl (Nat.le_trans h.size hq))
   ·obtain ⟨l, B', h1, _, h3, _⟩ := inx b hq
    exact .inr (h.nw l B' h1 b h3).1
  f2 := ho.lt
  tb := h.tb
  os := ho.os.trans h.os
  tape := ho.tape.trans h.tape
  output := ho.output.trans h.output
  size := Nat.le_trans h.size ho.size
  block := fun k hk hm => (ho.frame k (Nat.lt_of_lt_of_le hk h.size) (fun hq => by
   obtain ⟨l, B', h1, _, h3, _⟩ := inx k hq
   rcases (h.nw l B' h1 k h3).1 with hq | hq
   ·omega
   ·exact hm hq)).trans (h.block k hk hm) }
theorem zJ1 {ls : List Nat} {Bs : List LB} {ρ : Nat → Nat} {os : List Nat} (ho : ∀ l, l ∈ os → l ∉ ls) (h : lH0 s.lb ρ ls Bs) : lH0 (s.frzs os).lb ρ ls Bs := by
 have : ∀ {ls : List Nat} {Bs : List LB}, (∀ l, l ∈ os → l ∉ ls) → lH0 s.lb ρ ls Bs → lH0 (s.frzs os).lb ρ ls Bs := by
  intro ls
  induction ls with
  | nil => intro Bs _ h; cases Bs <;> exact h
  | cons l ls ih =>
   intro Bs ho h
   cases Bs with
   | nil => exact h.elim
   | cons B Bs =>
    refine ⟨?_, ih (fun k hk hm => ho k hk (by simp [hm])) h.2⟩
    rw [yP0 os s l (fun hm => ho l hm (by simp))]
    exact h.1
 exact this ho h
theorem pD0 {F1 : Fz} (h : Sim w0 M0 F0 F g s a w) (u1 : ∀ b o, F b o → F1 b o) {ls : List Nat} {m : Nat} {ρ : Nat → Nat} {lbX : Lk} {gX : Gh} (T : Tr m ρ (fun l => l) s.lb g lbX gX) : ∀ {vs ds : List AV} {us : List Value}, conA (wm0 s.lb) ρ m ls vs ds →
  (∀ l, l ∈ bC0 vs ds → ∀ e sz rows fz, s.lb l = some (.arr e sz rows fz) → ∀ b o, b ∈ zV0 (g.hd l) → o < rows.length * sz → F1 b o) →
  RepAVs w F1 s.lb g vs us → RepAVs w F1 lbX gX ds us
 | [], [], us, _, _, hv => by simpa only [RepAVs] using hv
 | v :: vs, d :: ds, us, hc, p1, hv => by
  simp only [RepAVs] at hv ⊢
  obtain ⟨u, us', rfl, h1, h2⟩ := hv
  refine ⟨u, us', rfl, ?_, pD0 h u1 T hc.2 (fun l hl => p1 l (by simp [bC0, hl])) h2⟩
  have hc1 := hc.1
  split at hc1
  ·obtain ⟨rfl, hok⟩ := hc1
   have := rQ0 T hok h1
   rwa [AV.ren1_id] at this
  ·rename_i e
   have := zW0 h u1 [v] [d] [u] ⟨d, [], rfl, hc1.1, rfl⟩ ⟨u, [], rfl, h1, rfl⟩ (fun l hl => p1 l (by
    simp only [List.flatMap_cons, List.flatMap_nil, List.append_nil] at hl
    simp only [bC0, List.mem_append, if_neg e]
    exact .inl hl))
   simp only [RepAVs] at this
   obtain ⟨u', us', he, h3, _⟩ := this
   obtain ⟨rfl, _⟩ := List.cons.inj he
   exact RepAV.mono (Stays.refl _ _) ⟨fun l B hl => by simp [noLk] at hl⟩ _ _ h3
 | [], _ :: _, _, hc, _, _ => hc.elim
 | _ :: _, [], _, hc, _, _ => hc.elim
theorem zL1 (h : Sim w0 M0 F0 F g s a w) {vs args : List AV} {us : List Value} (hv : RepAVs w F s.lb g vs us) {fid : FuncId} {Bs Bs' : List LB} {r : AV} (hsat : fL0 P fid args Bs Bs' r) {ls ns : List Nat} (hnd : (ls ++ ns).Nodup)
  (hB : lH0 s.lb (idx (ls ++ ns)) ls Bs) (hA : conA (wm0 s.lb) (idx (ls ++ ns)) Bs.length ls vs args) (hfr : vp0 s ns) (hlen : (ls ++ ns).length = Bs'.length) :
  Calls P fid us.toArray w fun ex w' => ∃ v F' g', ex = .returned v ∧ Sim w0 M0 F0 F' g' (wv0 (idx (ls ++ ns)) (ls ++ ns) Bs' (s.frzs (bC0 vs args))) a w' ∧ RepAV w' F' (wv0 (idx (ls ++ ns)) (ls ++ ns) Bs' (s.frzs (bC0 vs args))).lb g' (r.ren (idx (ls ++ ns))) v := by
 obtain ⟨_, hok, hok', hr, hcall⟩ := hsat
 obtain ⟨F1, hF1, u1, p1⟩ := h.freezes (bC0 vs args)
 have hv1 := RepAVs.mono (w := w) (w' := w) ⟨u1, fun _ _ _ => rfl⟩ (Keeps.refl s.lb g) _ _ hv
 have hB1 := zJ1 (pa0 hA) hB
 have hfr1 : vp0 (s.frzs (bC0 vs args)) ns := by
  have : ∀ (os : List Nat) (s : St) (n : Nat), s.lb n = none → (s.frzs os).lb n = none := by
   intro os
   induction os with
   | nil => intro s n hn; exact hn
   | cons o os ih =>
    intro s n hn
    exact ih (s.frz o) n (by simp only [St.frz]; split <;> simp [hn])
  clear hlen hnd hB hA hB1
  induction ns with
  | nil => trivial
  | cons n ns ih => exact ⟨this _ s n hfr.1, ih hfr.2⟩
 refine (hcall w F1 _ us hF1.fz (pD0 h u1 (jT1 hB) hA p1 hv1) (jl1 hF1 hnd hB1 hok)).mono ?_
 rintro ex w' ⟨v, F', g', rfl, hrep, hout⟩
 obtain ⟨h1, h2⟩ := wy1 hF1 hnd hB1 hok hok' hfr1 hlen hout
 exact ⟨v, F', _, rfl, h1, h2 r v hr hrep⟩
def nU0 (vs args : List AV) (Bs' : List LB) (r : AV) (ls ns : List Nat) (s : St) (d : Option Tmp) : St := (wv0 (idx (ls ++ ns)) (ls ++ ns) Bs' (s.frzs (bC0 vs args))).set d (r.ren (idx (ls ++ ns)))
end
end Go.Ai
