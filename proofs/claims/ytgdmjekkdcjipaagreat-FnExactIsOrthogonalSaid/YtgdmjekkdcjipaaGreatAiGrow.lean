/- The program's tables that stand in every world a contract speaks of: (block, cells). A seat whose functions read such a table lays its own list here. -/
import Derived.Orders
import Derived.Below
import Derived.Laws.AppendOwn
import Derived.Laws.OwnMore
import Derived.KernelRfl
set_option linter.unusedVariables false
set_option linter.unusedSimpArgs false
namespace Go.Ai
def rP0 : List (Nat × List Value) := []
open Go.RowKit
inductive C where
 | v (x : Value)
 | sl (rows : List (List C))
abbrev Fz := Nat → Nat → Prop
def okv : Value → Prop
 | .agg _ => False
 | .tuple _ => False
 | _ => True
mutual
def Rd (w : World) (F : Fz) : C → Value → Prop
 | .v x, u => u = x ∧ okv x
 | .sl rows, u => ∃ A cap sz, u = .slice A rows.length cap ∧ rows.length ≤ cap ∧ cap ≤ maxLen ∧ 0 < sz ∧
   (A = none → cap = 0) ∧ (∀ a, A = some a → (0 < cap → a.spot = none) ∧ RdRows w F a.block sz a.off rows)
def RdCells (w : World) (F : Fz) (b : Nat) : Nat → List C → Prop
 | _, [] => True
 | o, c :: cs => F b o ∧ (∃ u, w.cell? ⟨b, o, none⟩ = some u ∧ Rd w F c u) ∧ RdCells w F b (o + 1) cs
def RdRows (w : World) (F : Fz) (b sz : Nat) : Nat → List (List C) → Prop
 | _, [] => True
 | o, r :: rs => r.length = sz ∧ RdCells w F b o r ∧ RdRows w F b sz (o + sz) rs
end
structure Stays (w w' : World) (F F' : Fz) : Prop where
 up : ∀ b o, F b o → F' b o
 same : ∀ b o, F b o → w'.cell? ⟨b, o, none⟩ = w.cell? ⟨b, o, none⟩
def TblOk (w : World) (F : Fz) : Prop := ∀ b cs, (b, cs) ∈ rP0 → (∃ o, F b o) ∧ ∃ e fr, w.heap[b]? = some (.cells cs.toArray e fr)
structure FzOk (w : World) (F : Fz) : Prop where
 lt : ∀ b o, F b o → b < w.heap.size
 tb : TblOk w F
instance {w : World} {F : Fz} : CoeFun (FzOk w F) (fun _ => ∀ b o, F b o → b < w.heap.size) := ⟨FzOk.lt⟩
theorem Stays.refl (w : World) (F : Fz) : Stays w w F F := ⟨fun _ _ h => h, fun _ _ _ => rfl⟩
theorem Stays.trans {w w' w'' : World} {F F' F'' : Fz} (h : Stays w w' F F') (k : Stays w' w'' F' F'') : Stays w w'' F F'' :=
 ⟨fun b o hb => k.up b o (h.up b o hb), fun b o hb => (k.same b o (h.up b o hb)).trans (h.same b o hb)⟩
mutual
theorem Rd.mono {w w' : World} {F F' : Fz} (h : Stays w w' F F') : ∀ (c : C) (u : Value), Rd w F c u → Rd w' F' c u
 | .v _, _, hr => by simpa only [Rd] using hr
 | .sl rows, u, hr => by
  simp only [Rd] at hr ⊢
  obtain ⟨A, cap, sz, h1, h2, h3, h4, h5, h6⟩ := hr
  exact ⟨A, cap, sz, h1, h2, h3, h4, h5, fun a ha => ⟨(h6 a ha).1, RdRows.mono h _ _ _ rows (h6 a ha).2⟩⟩
theorem RdCells.mono {w w' : World} {F F' : Fz} (h : Stays w w' F F') (b : Nat) : ∀ (o : Nat) (cs : List C), RdCells w F b o cs → RdCells w' F' b o cs
 | _, [], _ => by simp only [RdCells]
 | o, c :: cs, hr => by
  simp only [RdCells] at hr ⊢
  obtain ⟨h1, ⟨u, hu, hc⟩, h3⟩ := hr
  exact ⟨h.up _ _ h1, ⟨u, (h.same _ _ h1).trans hu, Rd.mono h c u hc⟩, RdCells.mono h b (o + 1) cs h3⟩
theorem RdRows.mono {w w' : World} {F F' : Fz} (h : Stays w w' F F') (b sz : Nat) : ∀ (o : Nat) (rs : List (List C)), RdRows w F b sz o rs → RdRows w' F' b sz o rs
 | _, [], _ => by simp only [RdRows]
 | o, r :: rs, hr => by
  simp only [RdRows] at hr ⊢
  exact ⟨hr.1, RdCells.mono h b o r hr.2.1, RdRows.mono h b sz (o + sz) rs hr.2.2⟩
end
mutual
def Own (w : World) : C → Value → List Nat → Prop
 | .v x, u, S => u = x ∧ okv x ∧ S = []
 | .sl rows, u, S => (u = .slice none 0 0 ∧ rows = [] ∧ S = []) ∨
   ∃ b cap cs e sz S', u = .slice (some ⟨b, 0, none⟩) rows.length cap ∧ w.heap[b]? = some (.cells cs e (0, 0)) ∧ rows.length ≤ cap ∧ cap ≤ maxLen ∧
    cs.size = cap * sz ∧ 0 < sz ∧ S = b :: S' ∧ OwnRows w sz rows (cs.toList.take (rows.length * sz)) S'
def OwnCells (w : World) : List C → List Value → List Nat → Prop
 | [], us, S => us = [] ∧ S = []
 | c :: cs, us, S => ∃ u us' S1 S2, us = u :: us' ∧ S = S1 ++ S2 ∧ Own w c u S1 ∧ OwnCells w cs us' S2
def OwnRows (w : World) (sz : Nat) : List (List C) → List Value → List Nat → Prop
 | [], us, S => us = [] ∧ S = []
 | r :: rs, us, S => ∃ us1 us2 S1 S2, us = us1 ++ us2 ∧ S = S1 ++ S2 ∧ r.length = sz ∧ OwnCells w r us1 S1 ∧ OwnRows w sz rs us2 S2
end
mutual
theorem Own.mono {w w' : World} : ∀ (c : C) (u : Value) (S : List Nat), (∀ b, b ∈ S → w'.heap[b]? = w.heap[b]?) → Own w c u S → Own w' c u S
 | .v _, _, _, _, hr => by simpa only [Own] using hr
 | .sl rows, u, S, hb, hr => by
  simp only [Own] at hr ⊢
  rcases hr with hr | ⟨b, cap, cs, e, sz, S', h1, h2, h3, h4, h5, h6, h7, h8⟩
  ·exact .inl hr
  ·subst h7
   exact .inr ⟨b, cap, cs, e, sz, S', h1, (hb b (by simp)).trans h2, h3, h4, h5, h6, rfl, OwnRows.mono sz rows _ S' (fun k hk => hb k (by simp [hk])) h8⟩
theorem OwnCells.mono {w w' : World} : ∀ (cs : List C) (us : List Value) (S : List Nat), (∀ b, b ∈ S → w'.heap[b]? = w.heap[b]?) → OwnCells w cs us S → OwnCells w' cs us S
 | [], _, _, _, hr => by simpa only [OwnCells] using hr
 | c :: cs, us, S, hb, hr => by
  simp only [OwnCells] at hr ⊢
  obtain ⟨u, us', S1, S2, h1, h2, h3, h4⟩ := hr
  subst h2
  exact ⟨u, us', S1, S2, h1, rfl, Own.mono c u S1 (fun k hk => hb k (by simp [hk])) h3, OwnCells.mono cs us' S2 (fun k hk => hb k (by simp [hk])) h4⟩
theorem OwnRows.mono {w w' : World} (sz : Nat) : ∀ (rs : List (List C)) (us : List Value) (S : List Nat), (∀ b, b ∈ S → w'.heap[b]? = w.heap[b]?) → OwnRows w sz rs us S → OwnRows w' sz rs us S
 | [], _, _, _, hr => by simpa only [OwnRows] using hr
 | r :: rs, us, S, hb, hr => by
  simp only [OwnRows] at hr ⊢
  obtain ⟨us1, us2, S1, S2, h1, h2, h3, h4, h5⟩ := hr
  subst h2
  exact ⟨us1, us2, S1, S2, h1, rfl, h3, OwnCells.mono r us1 S1 (fun k hk => hb k (by simp [hk])) h4, OwnRows.mono sz rs us2 S2 (fun k hk => hb k (by simp [hk])) h5⟩
end
theorem Own.one {w : World} {c : C} {u : Value} {S : List Nat} (h : Own w c u S) : u.oneCell' = true := by
 cases c with
 | v x => simp only [Own] at h; obtain ⟨rfl, h, _⟩ := h; cases u <;> simp_all [okv, Value.oneCell']
 | sl rows =>
  simp only [Own] at h
  rcases h with ⟨rfl, _⟩ | ⟨b, cap, cs, e, sz, S', rfl, _⟩ <;> rfl
def vP1 (w : World) (o : Option C) (u : Value) (S : List Nat) : Prop :=
 match o with
 | some c => Own w c u S
 | none => S = []
def OwnTs (w : World) : List (Option C) → List Value → List Nat → Prop
 | [], us, S => us = [] ∧ S = []
 | o :: os, us, S => ∃ u us' S1 S2, us = u :: us' ∧ S = S1 ++ S2 ∧ vP1 w o u S1 ∧ OwnTs w os us' S2
theorem OwnTs.mono {w w' : World} : ∀ (os : List (Option C)) (us : List Value) (S : List Nat), (∀ b, b ∈ S → w'.heap[b]? = w.heap[b]?) → OwnTs w os us S → OwnTs w' os us S
 | [], _, _, _, h => by simpa only [OwnTs] using h
 | o :: os, us, S, hb, h => by
  simp only [OwnTs] at h ⊢
  obtain ⟨u, us', S1, S2, h1, h2, h3, h4⟩ := h
  subst h2
  refine ⟨u, us', S1, S2, h1, rfl, ?_, OwnTs.mono os us' S2 (fun b hb' => hb b (by simp [hb'])) h4⟩
  cases o with
  | some c => exact Own.mono c u S1 (fun b hb' => hb b (by simp [hb'])) h3
  | none => exact h3
theorem OwnTs.len {w : World} : ∀ (os : List (Option C)) (us : List Value) (S : List Nat), OwnTs w os us S → us.length = os.length
 | [], _, _, h => by simp only [OwnTs] at h; simp [h.1]
 | o :: os, us, S, h => by
  simp only [OwnTs] at h
  obtain ⟨u, us', S1, S2, rfl, rfl, _, h4⟩ := h
  simp [OwnTs.len os us' S2 h4]
theorem OwnTs.get {w : World} : ∀ (os : List (Option C)) (us : List Value) (S : List Nat) (i : Nat) (c : C), OwnTs w os us S → os[i]? = some (some c) →
  ∃ u SA Si SB, us[i]? = some u ∧ S = SA ++ (Si ++ SB) ∧ Own w c u Si ∧ (∀ o' Si', vP1 w o' u Si' → OwnTs w (os.set i o') us (SA ++ (Si' ++ SB))) ∧
   (∀ w' o' Si', (∀ b, b ∈ SA ++ SB → w'.heap[b]? = w.heap[b]?) → vP1 w' o' u Si' → OwnTs w' (os.set i o') us (SA ++ (Si' ++ SB)))
 | [], _, _, i, _, _, h => by simp at h
 | o :: os, us, S, 0, c, h, hi => by
  simp only [OwnTs] at h
  obtain ⟨u, us', S1, S2, rfl, rfl, h3, h4⟩ := h
  simp at hi; subst hi
  have main : ∀ w' o' Si', (∀ b, b ∈ S2 → w'.heap[b]? = w.heap[b]?) → vP1 w' o' u Si' → OwnTs w' ((some c :: os).set 0 o') (u :: us') ([] ++ (Si' ++ S2)) := by
   intro w' o' Si' hb ho
   simp only [List.set_cons_zero, OwnTs, List.nil_append]
   exact ⟨u, us', Si', S2, rfl, rfl, ho, OwnTs.mono os us' S2 hb h4⟩
  exact ⟨u, [], S1, S2, rfl, rfl, h3, fun o' Si' ho => main w o' Si' (fun _ _ => rfl) ho, fun w' o' Si' hb ho => main w' o' Si' (fun b hb' => hb b (by simpa using hb')) ho⟩
 | o :: os, us, S, i + 1, c, h, hi => by
  simp only [OwnTs] at h
  obtain ⟨u0, us', S1, S2, rfl, rfl, h3, h4⟩ := h
  obtain ⟨u, SA, Si, SB, k1, rfl, k3, k4, k5⟩ := OwnTs.get os us' S2 i c h4 (by simpa using hi)
  have main : ∀ w' o' Si', (∀ b, b ∈ S1 ++ SA ++ SB → w'.heap[b]? = w.heap[b]?) → vP1 w' o' u Si' → OwnTs w' ((o :: os).set (i + 1) o') (u0 :: us') (S1 ++ SA ++ (Si' ++ SB)) := by
   intro w' o' Si' hb ho
   simp only [List.set_cons_succ, OwnTs]
   refine ⟨u0, us', S1, SA ++ (Si' ++ SB), rfl, by simp, ?_, k5 w' o' Si' (fun b hb' => hb b (by simp at hb' ⊢; rcases hb' with h | h <;> simp [h])) ho⟩
   cases o with
   | some c0 => exact Own.mono c0 u0 S1 (fun b hb' => hb b (by simp [hb'])) h3
   | none => exact h3
  exact ⟨u, S1 ++ SA, Si, SB, by simpa using k1, by simp, k3, fun o' Si' ho => main w o' Si' (fun _ _ => rfl) ho, fun w' o' Si' hb ho => main w' o' Si' hb ho⟩
def dr1 (S : List Nat) : Fz := fun b _ => b ∈ S
mutual
theorem Own.rd {w : World} {F : Fz} : ∀ (c : C) (u : Value) (S : List Nat), (∀ b o, b ∈ S → F b o) → Own w c u S → Rd w F c u
 | .v _, _, _, _, hr => by simp only [Own] at hr; simp only [Rd]; exact ⟨hr.1, hr.2.1⟩
 | .sl rows, u, S, hF, hr => by
  simp only [Own] at hr
  simp only [Rd]
  rcases hr with ⟨h1, h2, _⟩ | ⟨b, cap, cs, e, sz, S', h1, h2, h3, h4, h5, h6, h7, h8⟩
  ·subst h2; exact ⟨none, 0, 1, h1, Nat.le_refl _, Nat.zero_le _, Nat.one_pos, fun _ => rfl, fun a ha => by cases ha⟩
  ·subst h7
   refine ⟨some ⟨b, 0, none⟩, cap, sz, h1, h3, h4, h6, (fun h => by cases h), fun a ha => ?_⟩
   obtain rfl := Option.some.inj ha
   refine ⟨fun _ => rfl, ?_⟩
   refine OwnRows.rd sz b 0 rows _ S' (fun k o hk => hF k o (by simp [hk])) (fun o => hF b o (by simp)) (fun i x hx => ?_) h8
   simp only [World.cell?, h2, Nat.zero_add]
   have hlt := (List.getElem?_eq_some_iff.1 hx).1
   rw [List.getElem?_take] at hx
   split at hx
   ·simpa using hx
   ·cases hx
theorem OwnCells.rd {w : World} {F : Fz} (b o : Nat) : ∀ (cs : List C) (us : List Value) (S : List Nat), (∀ k p, k ∈ S → F k p) → (∀ p, F b p) →
  (∀ (i : Nat) x, us[i]? = some x → w.cell? ⟨b, o + i, none⟩ = some x) → OwnCells w cs us S → RdCells w F b o cs
 | [], _, _, _, _, _, _ => by simp only [RdCells]
 | c :: cs, us, S, hF, hb, hc, hr => by
  simp only [OwnCells] at hr
  simp only [RdCells]
  obtain ⟨u, us', S1, S2, h1, h2, h3, h4⟩ := hr
  subst h1 h2
  refine ⟨hb o, ⟨u, by simpa using hc 0 u (by simp), Own.rd c u S1 (fun k p hk => hF k p (by simp [hk])) h3⟩, ?_⟩
  refine OwnCells.rd b (o + 1) cs us' S2 (fun k p hk => hF k p (by simp [hk])) hb (fun i x hx => ?_) h4
  have := hc (i + 1) x (by simpa using hx)
  rwa [show o + (i + 1) = o + 1 + i by omega] at this
theorem OwnRows.rd {w : World} {F : Fz} (sz b o : Nat) : ∀ (rs : List (List C)) (us : List Value) (S : List Nat), (∀ k p, k ∈ S → F k p) → (∀ p, F b p) →
  (∀ (i : Nat) x, us[i]? = some x → w.cell? ⟨b, o + i, none⟩ = some x) → OwnRows w sz rs us S → RdRows w F b sz o rs
 | [], _, _, _, _, _, _ => by simp only [RdRows]
 | r :: rs, us, S, hF, hb, hc, hr => by
  simp only [OwnRows] at hr
  simp only [RdRows]
  obtain ⟨us1, us2, S1, S2, h1, h2, h3, h4, h5⟩ := hr
  subst h1 h2
  have hlen : us1.length = sz := by rw [← h3]; exact (OwnCells.len r us1 S1 h4).symm
  refine ⟨h3, OwnCells.rd b o r us1 S1 (fun k p hk => hF k p (by simp [hk])) hb (fun i x hx => hc i x ?_) h4, ?_⟩
  ·rw [List.getElem?_append_left (List.getElem?_eq_some_iff.1 hx).1]; exact hx
  ·refine OwnRows.rd sz b (o + sz) rs us2 S2 (fun k p hk => hF k p (by simp [hk])) hb (fun i x hx => ?_) h5
   have := hc (sz + i) x (by rw [List.getElem?_append_right (by omega), hlen, Nat.add_sub_cancel_left]; exact hx)
   rwa [← Nat.add_assoc] at this
theorem OwnCells.len {w : World} : ∀ (cs : List C) (us : List Value) (S : List Nat), OwnCells w cs us S → cs.length = us.length
 | [], _, _, hr => by simp only [OwnCells] at hr; simp [hr.1]
 | c :: cs, us, S, hr => by
  simp only [OwnCells] at hr
  obtain ⟨u, us', S1, S2, h1, h2, h3, h4⟩ := hr
  subst h1
  simp [OwnCells.len cs us' S2 h4]
end
end Go.Ai
namespace Go.Ai
open Go.RowKit
inductive AC where
 | c (x : C)
 | nil
 | own (l n : Nat)
 | ptr (l off : Nat)
 | ep (l n i off : Nat)
 | ip (cs : List C)
 | clo (f : FuncId) (caps : List AC)
 | tk (k i : Nat)
 | d (x : C)
 | m (x : C)
 | e1
 | e0
 | any
inductive AV where
 | one (a : AC)
 | agg (as : List AC)
 | tup (vs : List AV)
 | any
inductive LB where
 | var (cells : List AC)
 | arr (e : TypeId) (sz : Nat) (rows : List (List AC)) (fz : Bool)
 | tok (xs : List (Option C))
 | dead
abbrev Lk := Nat → Option LB
structure Gh where
 bl : Nat → Nat
 hd : Nat → Value
 ds : Nat → List Nat
structure St where
 n : Nat
 sl : Nat → AV
 lb : Lk
 gh : List AV
structure Ms where
 bs : List Nat
 gv : List Value
instance : Membership Nat Ms := ⟨fun M b => b ∈ M.bs⟩
def St.set (s : St) (d : Option Tmp) (v : AV) : St :=
 match d with
 | some d => { s with sl := fun t => if t = d then v else s.sl t }
 | none => s
def St.put (s : St) (l : Nat) (B : LB) : St := { s with lb := fun k => if k = l then some B else s.lb k }
def zK0 (B : LB) (h : Value) (n : Nat) (u : Value) : Prop :=
 match B with
 | .arr _ _ rows _ => n ≤ rows.length ∧ (n = rows.length → u = h)
 | _ => True
def za0 (B : LB) (b off : Nat) (u : Value) : Prop :=
 match B with
 | .var _ => u = .pointer (some ⟨b, off, none⟩)
 | _ => True
def zx0 (B : LB) (h : Value) (n i off : Nat) (u : Value) : Prop :=
 match B with
 | .arr _ sz rows _ => n ≤ rows.length ∧ (n = rows.length → i < n ∧ ∃ b cap, h = .slice (some ⟨b, 0, none⟩) n cap ∧ u = .pointer (some ⟨b, i * sz + off, none⟩))
 | _ => True
def qg0 (B : LB) (h : Value) (i : Nat) (u : Value) : Prop :=
 match B with
 | .tok _ => ∃ us : List Value, h = .agg us.toArray ∧ us[i]? = some u
 | _ => True
mutual
def RepAC (w : World) (F : Fz) (lb : Lk) (g : Gh) : AC → Value → Prop
 | .c x, u => Rd w F x u
 | .nil, u => u = .slice none 0 0
 | .e1, u => ∃ a cap, u = .slice (some a) 0 cap ∧ cap ≤ maxLen ∧ (0 < cap → a.spot = none)
 | .e0, u => ∃ A, u = .slice A 0 0
 | .own l n, u => u.oneCell' = true ∧ ∃ B, lb l = some B ∧ zK0 B (g.hd l) n u
 | .ptr l off, u => u.oneCell' = true ∧ ∃ B, lb l = some B ∧ za0 B (g.bl l) off u
 | .ep l n i off, u => u.oneCell' = true ∧ ∃ B, lb l = some B ∧ zx0 B (g.hd l) n i off u
 | .ip cs, u => ∃ b o, u = .pointer (some ⟨b, o, none⟩) ∧ RdCells w F b o cs
 | .clo f caps, u => ∃ us : List Value, u = .func (.func f) #[] us.toArray ∧ RepACs w F lb g caps us
 | .tk k i, u => u.oneCell' = true ∧ ∃ B, lb k = some B ∧ qg0 B (g.hd k) i u
 | .d _, _ => False
 | .m _, _ => False
 | .any, u => u.oneCell' = true
def RepACs (w : World) (F : Fz) (lb : Lk) (g : Gh) : List AC → List Value → Prop
 | [], us => us = []
 | a :: as, us => ∃ u us', us = u :: us' ∧ RepAC w F lb g a u ∧ RepACs w F lb g as us'
end
mutual
def RepAV (w : World) (F : Fz) (lb : Lk) (g : Gh) : AV → Value → Prop
 | .one a, u => RepAC w F lb g a u
 | .agg as, u => ∃ us : List Value, u = .agg us.toArray ∧ RepACs w F lb g as us
 | .tup vs, u => ∃ us : List Value, u = .tuple us.toArray ∧ RepAVs w F lb g vs us
 | .any, _ => True
def RepAVs (w : World) (F : Fz) (lb : Lk) (g : Gh) : List AV → List Value → Prop
 | [], us => us = []
 | v :: vs, us => ∃ u us', us = u :: us' ∧ RepAV w F lb g v u ∧ RepAVs w F lb g vs us'
end
theorem kU1 {x : Value} (h : okv x) : x.oneCell' = true := by cases x <;> simp_all [okv, Value.oneCell']
theorem Rd.one {w : World} {F : Fz} {c : C} {u : Value} (h : Rd w F c u) : u.oneCell' = true := by
 cases c with
 | v x => simp only [Rd] at h; obtain ⟨rfl, h⟩ := h; exact kU1 h
 | sl rows => simp only [Rd] at h; obtain ⟨A, cap, sz, rfl, _⟩ := h; rfl
theorem RepAC.one {w : World} {F : Fz} {lb : Lk} {g : Gh} {a : AC} {u : Value} (h : RepAC w F lb g a u) : u.oneCell' = true := by
 cases a <;> simp only [RepAC] at h
 case c x => exact h.one
 case nil => subst h; rfl
 case e1 => obtain ⟨_, _, rfl, _⟩ := h; rfl
 case e0 => obtain ⟨_, rfl⟩ := h; rfl
 case own => exact h.1
 case ptr => exact h.1
 case ep => exact h.1
 case ip => obtain ⟨b, o, rfl, _⟩ := h; rfl
 case clo => obtain ⟨us, rfl, _⟩ := h; rfl
 case tk => exact h.1
 case any => exact h
structure Keeps (lb : Lk) (g : Gh) (lb' : Lk) (g' : Gh) : Prop where
 own : ∀ l B, lb l = some B → ∃ B', lb' l = some B' ∧ (∀ n u, zK0 B (g.hd l) n u → zK0 B' (g'.hd l) n u) ∧ (∀ off u, za0 B (g.bl l) off u → za0 B' (g'.bl l) off u) ∧
  (∀ n i off u, zx0 B (g.hd l) n i off u → zx0 B' (g'.hd l) n i off u) ∧ (∀ i u, qg0 B (g.hd l) i u → qg0 B' (g'.hd l) i u)
theorem Keeps.refl (lb : Lk) (g : Gh) : Keeps lb g lb g := ⟨fun _ B h => ⟨B, h, fun _ _ h => h, fun _ _ h => h, fun _ _ _ _ h => h, fun _ _ h => h⟩⟩
mutual
theorem RepAC.mono {w w' : World} {F F' : Fz} {lb lb' : Lk} {g g' : Gh} (hs : Stays w w' F F') (hk : Keeps lb g lb' g') : ∀ (a : AC) (u : Value), RepAC w F lb g a u → RepAC w' F' lb' g' a u
 | .c x, u, h => by simp only [RepAC] at h ⊢; exact Rd.mono hs x u h
 | .nil, u, h => by simpa only [RepAC] using h
 | .e1, u, h => by simpa only [RepAC] using h
 | .e0, u, h => by simpa only [RepAC] using h
 | .own l n, u, h => by
  simp only [RepAC] at h ⊢
  obtain ⟨h1, B, hB, h2⟩ := h
  obtain ⟨B', hB', k, _⟩ := hk.own l B hB
  exact ⟨h1, B', hB', k _ _ h2⟩
 | .ptr l off, u, h => by
  simp only [RepAC] at h ⊢
  obtain ⟨h1, B, hB, h2⟩ := h
  obtain ⟨B', hB', _, k, _⟩ := hk.own l B hB
  exact ⟨h1, B', hB', k _ _ h2⟩
 | .ep l n i off, u, h => by
  simp only [RepAC] at h ⊢
  obtain ⟨h1, B, hB, h2⟩ := h
  obtain ⟨B', hB', _, _, k, _⟩ := hk.own l B hB
  exact ⟨h1, B', hB', k _ _ _ _ h2⟩
 | .ip cs, u, h => by
  simp only [RepAC] at h ⊢
  obtain ⟨b, o, h1, h2⟩ := h
  exact ⟨b, o, h1, RdCells.mono hs b o cs h2⟩
 | .clo f caps, u, h => by
  simp only [RepAC] at h ⊢
  obtain ⟨us, h1, h2⟩ := h
  exact ⟨us, h1, RepACs.mono hs hk caps us h2⟩
 | .tk k i, u, h => by
  simp only [RepAC] at h ⊢
  obtain ⟨h1, B, hB, h2⟩ := h
  obtain ⟨B', hB', _, _, _, k⟩ := hk.own k B hB
  exact ⟨h1, B', hB', k _ _ h2⟩
 | .d _, _, h => by simp only [RepAC] at h
 | .m _, _, h => by simp only [RepAC] at h
 | .any, _, h => by simpa only [RepAC] using h
theorem RepACs.mono {w w' : World} {F F' : Fz} {lb lb' : Lk} {g g' : Gh} (hs : Stays w w' F F') (hk : Keeps lb g lb' g') : ∀ (as : List AC) (us : List Value), RepACs w F lb g as us → RepACs w' F' lb' g' as us
 | [], us, h => by simpa only [RepACs] using h
 | a :: as, us, h => by
  simp only [RepACs] at h ⊢
  obtain ⟨u, us', h1, h2, h3⟩ := h
  exact ⟨u, us', h1, RepAC.mono hs hk a u h2, RepACs.mono hs hk as us' h3⟩
end
mutual
theorem RepAV.mono {w w' : World} {F F' : Fz} {lb lb' : Lk} {g g' : Gh} (hs : Stays w w' F F') (hk : Keeps lb g lb' g') : ∀ (v : AV) (u : Value), RepAV w F lb g v u → RepAV w' F' lb' g' v u
 | .one a, u, h => by simp only [RepAV] at h ⊢; exact RepAC.mono hs hk a u h
 | .agg as, u, h => by
  simp only [RepAV] at h ⊢
  obtain ⟨us, h1, h2⟩ := h
  exact ⟨us, h1, RepACs.mono hs hk as us h2⟩
 | .tup vs, u, h => by
  simp only [RepAV] at h ⊢
  obtain ⟨us, h1, h2⟩ := h
  exact ⟨us, h1, RepAVs.mono hs hk vs us h2⟩
 | .any, _, _ => by simp only [RepAV]
theorem RepAVs.mono {w w' : World} {F F' : Fz} {lb lb' : Lk} {g g' : Gh} (hs : Stays w w' F F') (hk : Keeps lb g lb' g') : ∀ (vs : List AV) (us : List Value), RepAVs w F lb g vs us → RepAVs w' F' lb' g' vs us
 | [], us, h => by simpa only [RepAVs] using h
 | a :: as, us, h => by
  simp only [RepAVs] at h ⊢
  obtain ⟨u, us', h1, h2, h3⟩ := h
  exact ⟨u, us', h1, RepAV.mono hs hk a u h2, RepAVs.mono hs hk as us' h3⟩
end
def RepCell (w : World) (F : Fz) (lb : Lk) (g : Gh) (a : AC) (u : Value) (S : List Nat) : Prop :=
 match a with
 | .d x => Own w x u S ∧ Rd w F x u
 | .m x => Own w x u S
 | a => RepAC w F lb g a u ∧ S = []
def RepCells (w : World) (F : Fz) (lb : Lk) (g : Gh) : List AC → List Value → List Nat → Prop
 | [], us, S => us = [] ∧ S = []
 | a :: as, us, S => ∃ u us' S1 S2, us = u :: us' ∧ S = S1 ++ S2 ∧ RepCell w F lb g a u S1 ∧ RepCells w F lb g as us' S2
theorem RepCell.one {w : World} {F : Fz} {lb : Lk} {g : Gh} {a : AC} {u : Value} {S : List Nat} (h : RepCell w F lb g a u S) : u.oneCell' = true := by
 cases a
 case d x => exact h.2.one
 case m x => exact Own.one h
 all_goals exact h.1.one
theorem RepCell.mono {w w' : World} {F F' : Fz} {lb lb' : Lk} {g g' : Gh} (hs : Stays w w' F F') (hk : Keeps lb g lb' g') {a : AC} {u : Value} {S : List Nat}
  (hb : ∀ b, b ∈ S → w'.heap[b]? = w.heap[b]?) (h : RepCell w F lb g a u S) : RepCell w' F' lb' g' a u S := by
 cases a
 case d x => exact ⟨Own.mono x u S hb h.1, Rd.mono hs x u h.2⟩
 case m x => exact Own.mono x u S hb h
 all_goals exact ⟨RepAC.mono hs hk _ u h.1, h.2⟩
theorem RepCells.mono {w w' : World} {F F' : Fz} {lb lb' : Lk} {g g' : Gh} (hs : Stays w w' F F') (hk : Keeps lb g lb' g') : ∀ (as : List AC) (us : List Value) (S : List Nat),
  (∀ b, b ∈ S → w'.heap[b]? = w.heap[b]?) → RepCells w F lb g as us S → RepCells w' F' lb' g' as us S
 | [], _, _, _, h => by simpa only [RepCells] using h
 | a :: as, us, S, hb, h => by
  simp only [RepCells] at h ⊢
  obtain ⟨u, us', S1, S2, h1, h2, h3, h4⟩ := h
  subst h2
  exact ⟨u, us', S1, S2, h1, rfl, h3.mono hs hk (fun b hb' => hb b (by simp [hb'])), RepCells.mono hs hk as us' S2 (fun b hb' => hb b (by simp [hb'])) h4⟩
theorem RepCells.len {w : World} {F : Fz} {lb : Lk} {g : Gh} : ∀ (as : List AC) (us : List Value) (S : List Nat), RepCells w F lb g as us S → as.length = us.length
 | [], _, _, h => by simp only [RepCells] at h; simp [h.1]
 | a :: as, us, S, h => by
  simp only [RepCells] at h
  obtain ⟨u, us', S1, S2, h1, h2, h3, h4⟩ := h
  subst h1
  simp [RepCells.len as us' S2 h4]
theorem RepACs.len {w : World} {F : Fz} {lb : Lk} {g : Gh} : ∀ (as : List AC) (us : List Value), RepACs w F lb g as us → as.length = us.length
 | [], _, h => by simp only [RepACs] at h; simp [h]
 | a :: as, us, h => by
  simp only [RepACs] at h
  obtain ⟨u, us', h1, h2, h3⟩ := h
  subst h1
  simp [RepACs.len as us' h3]
def zV0 (v : Value) : List Nat := v.ownBlock.toList
def RepLB (w : World) (F : Fz) (lb : Lk) (g : Gh) (l : Nat) : LB → Prop
 | .var cells => ∃ cs e, w.heap[g.bl l]? = some (.cells cs.toArray e (0, 0)) ∧ RepACs w F lb g cells cs ∧ g.ds l = [g.bl l]
 | .arr e sz rows _ => 0 < sz ∧ (∀ r, r ∈ rows → r.length = sz) ∧ ∃ xs S, w.ownsRow 0 e sz (g.hd l) rows.length xs ∧ RepCells w F lb g rows.flatten xs S ∧ g.ds l = zV0 (g.hd l) ++ S
 | .tok xs => ∃ us : List Value, g.hd l = .agg us.toArray ∧ OwnTs w xs us (g.ds l)
 | .dead => True
theorem vt0 {w w' : World} {base : Nat} {e : TypeId} {sz : Nat} {v : Value} {n : Nat} {xs : List Value} (h : w.ownsRow base e sz v n xs)
  (hb : ∀ b, b ∈ zV0 v → w'.heap[b]? = w.heap[b]?) : w'.ownsRow base e sz v n xs := by
 obtain ⟨h1, h2⟩ := h
 refine ⟨h1, ?_⟩
 rcases h2 with h2 | ⟨gg, cap, cur, hv, hg, hh, r⟩
 ·exact .inl h2
 ·exact .inr ⟨gg, cap, cur, hv, hg, by rw [hb gg (by subst hv; simp [zV0, Value.ownBlock])]; exact hh, r⟩
theorem RepLB.mono {w w' : World} {F F' : Fz} {lb lb' : Lk} {g g' : Gh} (hs : Stays w w' F F') (hk : Keeps lb g lb' g') {l : Nat} {B : LB}
  (e1 : g'.bl l = g.bl l) (e2 : g'.hd l = g.hd l) (e3 : g'.ds l = g.ds l)
  (hb : ∀ b, b ∈ g.ds l → w'.heap[b]? = w.heap[b]?) (h : RepLB w F lb g l B) : RepLB w' F' lb' g' l B := by
 cases B with
 | var cells =>
  obtain ⟨cs, e, h1, h2, h3⟩ := h
  refine ⟨cs, e, ?_, RepACs.mono hs hk _ _ h2, by rw [e3, e1]; exact h3⟩
  rw [e1, hb _ (by rw [h3]; simp)]
  exact h1
 | arr e sz rows fz =>
  obtain ⟨h1, h2, xs, S, h3, h4, h5⟩ := h
  refine ⟨h1, h2, xs, S, ?_, RepCells.mono hs hk _ _ _ (fun b hb' => hb b (by rw [h5]; simp [hb'])) h4, by rw [e3, e2]; exact h5⟩
  rw [e2]
  exact vt0 h3 (fun b hb' => hb b (by rw [h5]; simp [hb']))
 | tok x =>
  simp only [RepLB] at h ⊢
  rw [e2, e3]
  obtain ⟨us, h1, h2⟩ := h
  exact ⟨us, h1, OwnTs.mono _ _ _ hb h2⟩
 | dead => trivial
def LB.soft : LB → Bool
 | .var _ => true
 | .arr _ _ _ fz => !fz
 | .tok _ => true
 | .dead => false
def isD : AC → Bool
 | .d _ => true
 | _ => false
def noD (rows : List (List AC)) : Bool := rows.all fun r => r.all fun x => !isD x
def SoftOk (F : Fz) (g : Gh) (l : Nat) : LB → Prop
 | .var _ => ∀ o, ¬ F (g.bl l) o
 | .arr _ sz rows fz => (∀ b, b ∈ zV0 (g.hd l) → ∀ o, (fz = false ∨ rows.length * sz ≤ o) → ¬ F b o) ∧ (fz = false → noD rows = true → ∀ b, b ∈ g.ds l → ∀ o, ¬ F b o)
 | .tok _ => ∀ b, b ∈ g.ds l → ∀ o, ¬ F b o
 | .dead => True
def vS1 (w0 : World) (M0 : Ms) (F0 : Fz) : Prop := ∀ b cs, (b, cs) ∈ rP0 → b ∉ M0 ∧ (∃ o, F0 b o) ∧ ∃ e fr, w0.heap[b]? = some (.cells cs.toArray e fr)
theorem TblOk.start {w : World} {F : Fz} {S : List Nat} {gv : List Value} (h : TblOk w F) (hS : ∀ b, b ∈ S → ∀ o, ¬ F b o) : vS1 w ⟨S, gv⟩ F :=
 fun b cs hb => ⟨fun hm => (h b cs hb).1.elim fun o ho => hS b hm o ho, h b cs hb⟩
structure Sim (w0 : World) (M0 : Ms) (F0 F : Fz) (g : Gh) (s : St) (a : Act) (w : World) : Prop where
 sz : a.tmps.size = s.n
 df : a.defers = []
 sl : ∀ i, RepAV w F s.lb g (s.sl i) (a.tmps.getD i undef)
 gh : RepAVs w F s.lb g s.gh M0.gv
 lb : ∀ l B, s.lb l = some B → RepLB w F s.lb g l B
 so : ∀ l B, s.lb l = some B → SoftOk F g l B
 nd : ∀ l B, s.lb l = some B → (g.ds l).Nodup
 dj : ∀ l l' B B', l ≠ l' → s.lb l = some B → s.lb l' = some B' → ∀ b, b ∈ g.ds l → b ∉ g.ds l'
 nw : ∀ l B, s.lb l = some B → ∀ b, b ∈ g.ds l → (w0.heap.size ≤ b ∨ b ∈ M0) ∧ b < w.heap.size
 f0 : ∀ b o, F0 b o → F b o
 f1 : ∀ b o, F b o → F0 b o ∨ w0.heap.size ≤ b ∨ b ∈ M0
 f2 : ∀ b o, F b o → b < w.heap.size
 tb : vS1 w0 M0 F0
 os : w.os = w0.os
 tape : w.tape = w0.tape
 output : w.output = w0.output
 size : w0.heap.size ≤ w.heap.size
 block : ∀ k, k < w0.heap.size → k ∉ M0 → w.heap[k]? = w0.heap[k]?
theorem Sim.fz {w0 : World} {M0 : Ms} {F0 F : Fz} {g : Gh} {s : St} {a : Act} {w : World} (h : Sim w0 M0 F0 F g s a w) : FzOk w F := ⟨h.f2, fun b cs hb => by
 obtain ⟨h1, ⟨o, h2⟩, e, fr, h3⟩ := h.tb b cs hb
 exact ⟨⟨o, h.f0 b o h2⟩, e, fr, (h.block b (Array.getElem?_eq_some_iff.1 h3).1 h1).trans h3⟩⟩
variable {w0 : World} {M0 : Ms} {F0 F F' : Fz} {g g' : Gh} {s : St} {a : Act} {w w' : World}
@[simp] theorem St.set_lb (s : St) (d : Option Tmp) (v : AV) : (s.set d v).lb = s.lb := by cases d <;> rfl
@[simp] theorem St.set_gh (s : St) (d : Option Tmp) (v : AV) : (s.set d v).gh = s.gh := by cases d <;> rfl
@[simp] theorem St.put_gh (s : St) (l : Nat) (B : LB) : (s.put l B).gh = s.gh := rfl
@[simp] theorem St.set_n (s : St) (d : Option Tmp) (v : AV) : (s.set d v).n = s.n := by cases d <;> rfl
@[simp] theorem St.put_n (s : St) (l : Nat) (B : LB) : (s.put l B).n = s.n := rfl
@[simp] theorem St.put_sl (s : St) (l : Nat) (B : LB) : (s.put l B).sl = s.sl := rfl
theorem St.set_sl (s : St) (d : Tmp) (v : AV) (t : Nat) : (s.set (some d) v).sl t = if t = d then v else s.sl t := rfl
theorem St.put_lb (s : St) (l : Nat) (B : LB) (k : Nat) : (s.put l B).lb k = if k = l then some B else s.lb k := rfl
@[simp] theorem St.set_none (s : St) (v : AV) : s.set none v = s := rfl
theorem Sim.set (h : Sim w0 M0 F0 F g s a w) {d : Tmp} {v : AV} {u : Value} (hd : d < s.n) (hv : RepAV w F s.lb g v u) :
  Sim w0 M0 F0 F g (s.set (some d) v) (a.put (some d) u) w where
 sz := by simp [Act.put, h.sz]
 df := h.df
 sl := fun i => by
  have hi := h.sl i
  by_cases e : i = d
  ·subst e
   simp only [St.set_sl, if_true, St.set_lb, Act.put]
   have : i < a.tmps.size := by rw [h.sz]; exact hd
   simpa [Array.getD, this] using hv
  ·simp only [St.set_sl, if_neg e, St.set_lb, Act.put]
   simp only [Array.getD_eq_getD_getElem?] at hi ⊢
   rw [Array.getElem?_setIfInBounds_ne (Ne.symm e)]
   exact hi
 gh := h.gh
 lb := h.lb
 so := h.so
 nd := h.nd
 dj := h.dj
 nw := h.nw
 f0 := h.f0
 f1 := h.f1
 f2 := h.f2
 tb := h.tb
 os := h.os
 tape := h.tape
 output := h.output
 size := h.size
 block := h.block
theorem Sim.set? (h : Sim w0 M0 F0 F g s a w) {d : Option Tmp} {v : AV} {u : Value} (hd : ∀ t, d = some t → t < s.n) (hv : RepAV w F s.lb g v u) :
  Sim w0 M0 F0 F g (s.set d v) (a.put d u) w := by
 cases d with
 | none => exact h
 | some t => exact h.set (hd t rfl) hv
structure Grows (w0 : World) (M0 : Ms) (F F' : Fz) (g : Gh) (s : St) (w w' : World) : Prop where
 stays : Stays w w' F F'
 mine : ∀ l B, s.lb l = some B → ∀ b, b ∈ g.ds l → w'.heap[b]? = w.heap[b]?
 so : ∀ l B, s.lb l = some B → SoftOk F' g l B
 f1 : ∀ b o, F' b o → F b o ∨ w0.heap.size ≤ b ∨ b ∈ M0
 f2 : ∀ b o, F' b o → b < w'.heap.size
 os : w'.os = w.os
 tape : w'.tape = w.tape
 output : w'.output = w.output
 size : w.heap.size ≤ w'.heap.size
 block : ∀ k, k < w0.heap.size → k ∉ M0 → w'.heap[k]? = w.heap[k]?
theorem Sim.grows (h : Sim w0 M0 F0 F g s a w) (k : Grows w0 M0 F F' g s w w') : Sim w0 M0 F0 F' g s a w' where
 sz := h.sz
 df := h.df
 sl := fun i => RepAV.mono k.stays (Keeps.refl _ _) _ _ (h.sl i)
 gh := RepAVs.mono k.stays (Keeps.refl _ _) _ _ h.gh
 lb := fun l B hl => RepLB.mono k.stays (Keeps.refl _ _) rfl rfl rfl (k.mine l B hl) (h.lb l B hl)
 so := k.so
 nd := h.nd
 dj := h.dj
 nw := fun l B hl b hb => ⟨(h.nw l B hl b hb).1, Nat.lt_of_lt_of_le (h.nw l B hl b hb).2 k.size⟩
 f0 := fun b o hb => k.stays.up b o (h.f0 b o hb)
 f1 := fun b o hb => (k.f1 b o hb).elim (h.f1 b o) .inr
 f2 := k.f2
 tb := h.tb
 os := k.os.trans h.os
 tape := k.tape.trans h.tape
 output := k.output.trans h.output
 size := Nat.le_trans h.size k.size
 block := fun i hi hm => (k.block i hi hm).trans (h.block i hi hm)
theorem zL0 {w w' : World} {b : Nat} (h : w'.heap[b]? = w.heap[b]?) (o : Nat) : w'.cell? ⟨b, o, none⟩ = w.cell? ⟨b, o, none⟩ := by simp [World.cell?, h]
theorem Sim.drew (h : Sim w0 M0 F0 F g s a w) : Sim w0 M0 F0 F g s a { w with drawn := w.drawn + 1 } :=
 h.grows ⟨⟨fun _ _ hb => hb, fun _ _ _ => rfl⟩, fun _ _ _ _ _ => rfl, h.so, fun _ _ hb => .inl hb, h.f2, rfl, rfl, rfl, Nat.le_refl _, fun _ _ _ => rfl⟩
theorem Sim.alloc (h : Sim w0 M0 F0 F g s a w) (o : Obj) : Sim w0 M0 F0 F g s a (w.alloc o) := by
 have hh : ∀ k, k < w.heap.size → (w.alloc o).heap[k]? = w.heap[k]? := fun k hk => heap_alloc_old w o k hk
 refine h.grows ⟨⟨fun _ _ hb => hb, fun b o' hb => zL0 (hh b (h.f2 b o' hb)) o'⟩, fun l B hl b hb => hh b (h.nw l B hl b hb).2, h.so, fun _ _ hb => .inl hb, ?_, rfl, rfl, rfl, ?_, fun k hk _ => hh k (Nat.lt_of_lt_of_le hk h.size)⟩
 ·intro b o' hb; have := h.f2 b o' hb; simp; omega
 ·simp
def Gh.upd (g : Gh) (l b : Nat) (v : Value) (S : List Nat) : Gh :=
 { bl := fun k => if k = l then b else g.bl k, hd := fun k => if k = l then v else g.hd k, ds := fun k => if k = l then S else g.ds k }
theorem Keeps.upd {lb : Lk} {g : Gh} {l : Nat} {b : Nat} {v : Value} {S : List Nat} {B' : LB}
  (hc : ∀ B, lb l = some B → (∀ n u, zK0 B (g.hd l) n u → zK0 B' v n u) ∧ (∀ off u, za0 B (g.bl l) off u → za0 B' b off u) ∧
   (∀ n i off u, zx0 B (g.hd l) n i off u → zx0 B' v n i off u) ∧ (∀ i u, qg0 B (g.hd l) i u → qg0 B' v i u)) :
  Keeps lb g (fun k => if k = l then some B' else lb k) (g.upd l b v S) := by
 constructor
 intro k B hB
 by_cases e : k = l
 ·subst e
  exact ⟨B', by simp, by simpa [Gh.upd] using hc B hB⟩
 ·exact ⟨B, by simp [e, hB], by simp [Gh.upd, e]⟩
theorem Sim.putLB (h : Sim w0 M0 F0 F g s a w) {l b : Nat} {v : Value} {S : List Nat} {B' : LB}
  (hc : ∀ B, s.lb l = some B → (∀ n u, zK0 B (g.hd l) n u → zK0 B' v n u) ∧ (∀ off u, za0 B (g.bl l) off u → za0 B' b off u) ∧
   (∀ n i off u, zx0 B (g.hd l) n i off u → zx0 B' v n i off u) ∧ (∀ i u, qg0 B (g.hd l) i u → qg0 B' v i u))
  (hr : RepLB w F (s.put l B').lb (g.upd l b v S) l B') (hs : SoftOk F (g.upd l b v S) l B') (hn : S.Nodup)
  (hd : ∀ l' B, l' ≠ l → s.lb l' = some B → ∀ k, k ∈ S → k ∉ g.ds l') (hw : ∀ k, k ∈ S → (w0.heap.size ≤ k ∨ k ∈ M0) ∧ k < w.heap.size) :
  Sim w0 M0 F0 F (g.upd l b v S) (s.put l B') a w := by
 have K : Keeps s.lb g (s.put l B').lb (g.upd l b v S) := Keeps.upd hc
 have ne : ∀ k, k ≠ l → (g.upd l b v S).bl k = g.bl k ∧ (g.upd l b v S).hd k = g.hd k ∧ (g.upd l b v S).ds k = g.ds k := fun k hk => by simp [Gh.upd, hk]
 have at_ : ∀ k B, k ≠ l → (s.put l B').lb k = some B → s.lb k = some B := fun k B hk hB => by simpa [St.put_lb, hk] using hB
 have at_l : ∀ B, (s.put l B').lb l = some B → B = B' := fun B hB => by simpa [St.put_lb, eq_comm] using hB
 have dl : (g.upd l b v S).ds l = S := by simp [Gh.upd]
 exact {
  sz := h.sz
  df := h.df
  sl := fun i => RepAV.mono (Stays.refl _ _) K _ _ (h.sl i)
  gh := RepAVs.mono (Stays.refl _ _) K _ _ h.gh
  lb := fun k B hB => by
   by_cases e : k = l
   ·subst e; rw [at_l B hB]; exact hr
   ·exact RepLB.mono (Stays.refl _ _) K (ne k e).1 (ne k e).2.1 (ne k e).2.2 (fun _ _ => rfl) (h.lb k B (at_ k B e hB))
  so := fun k B hB => by
   by_cases e : k = l
   ·subst e; rw [at_l B hB]; exact hs
   ·have := h.so k B (at_ k B e hB)
    cases B <;> first | exact True.intro | simpa [SoftOk, (ne k e).1, (ne k e).2.1, (ne k e).2.2] using this
  nd := fun k B hB => by
   by_cases e : k = l
   ·subst e; rw [dl]; exact hn
   ·rw [(ne k e).2.2]; exact h.nd k B (at_ k B e hB)
  dj := fun k k' B B'' hkk hB hB'' => by
   by_cases e : k = l
   ·subst e
    rw [dl, (ne k' (Ne.symm hkk)).2.2]
    exact hd k' B'' (Ne.symm hkk) (at_ k' B'' (Ne.symm hkk) hB'')
   ·by_cases e' : k' = l
    ·subst e'
     rw [dl, (ne k e).2.2]
     exact fun x hx hx' => hd k B e (at_ k B e hB) x hx' hx
    ·rw [(ne k e).2.2, (ne k' e').2.2]
     exact h.dj k k' B B'' hkk (at_ k B e hB) (at_ k' B'' e' hB'')
  nw := fun k B hB => by
   by_cases e : k = l
   ·subst e; rw [dl]; exact hw
   ·rw [(ne k e).2.2]; exact h.nw k B (at_ k B e hB)
  f0 := h.f0
  f1 := h.f1
  f2 := h.f2
  tb := h.tb
  os := h.os
  tape := h.tape
  output := h.output
  size := h.size
  block := h.block }
theorem Sim.newVar (h : Sim w0 M0 F0 F g s a w) {d : Nat} {cells : List AC} {cs : List Value} (e : TypeId) (hd : s.lb d = none) (hc : RepACs w F s.lb g cells cs) :
  ∃ g', Sim w0 M0 F0 F g' (s.put d (.var cells)) a (w.alloc (.cells cs.toArray e)) ∧ g'.bl d = w.heap.size ∧ g'.hd = g.hd := by
 have h1 := h.alloc (.cells cs.toArray e)
 have hF : ∀ o, ¬ F w.heap.size o := fun o hf => Nat.lt_irrefl _ (h.f2 _ o hf)
 have K : Keeps s.lb g (s.put d (.var cells)).lb (g.upd d w.heap.size (g.hd d) [w.heap.size]) := Keeps.upd (fun B hB => by rw [hd] at hB; cases hB)
 refine ⟨g.upd d w.heap.size (g.hd d) [w.heap.size], h1.putLB (fun B hB => by rw [hd] at hB; cases hB) ?_ ?_ ?_ ?_ ?_, by simp [Gh.upd], ?_⟩
 ·refine ⟨cs, e, ?_, ?_, by simp [Gh.upd]⟩
  ·simp only [Gh.upd, if_true]; exact heap_alloc_new w _
  ·refine RepACs.mono ⟨fun _ _ hb => hb, fun b o hb => zL0 (heap_alloc_old w _ b (h.f2 b o hb)) o⟩ K _ _ hc
 ·simpa [SoftOk, Gh.upd] using hF
 ·simp
 ·intro l' B _ hB k hk hk'
  simp at hk; subst hk
  exact Nat.lt_irrefl _ (h.nw l' B hB _ hk').2
 ·intro k hk
  simp at hk; subst hk
  exact ⟨.inl h.size, by simp⟩
 ·funext k; simp only [Gh.upd]; split <;> simp_all
theorem RepACs.cells {w : World} {F : Fz} {lb : Lk} {g : Gh} : ∀ (as : List AC) (us : List Value), RepACs w F lb g as us → RepCells w F lb g as us []
 | [], us, h => by simp only [RepACs] at h; simp [RepCells, h]
 | a :: as, us, h => by
  simp only [RepACs] at h
  obtain ⟨u, us', h1, h2, h3⟩ := h
  refine ⟨u, us', [], [], h1, rfl, ?_, RepACs.cells as us' h3⟩
  cases a <;> first | exact ⟨h2, rfl⟩ | (simp only [RepAC] at h2)
theorem Sim.newRow (h : Sim w0 M0 F0 F g s a w) {d : Nat} {e : TypeId} {sz : Nat} {rows : List (List AC)} {cs : List Value} {cap : Nat} (hd : s.lb d = none) (hsz : 0 < sz)
  (hr : ∀ r, r ∈ rows → r.length = sz) (hcap : rows.length ≤ cap) (hmax : cap ≤ maxLen) (hlen : cs.length = cap * sz) (hc : RepACs w F s.lb g rows.flatten (cs.take (rows.length * sz))) :
  ∃ g', Sim w0 M0 F0 F g' (s.put d (.arr e sz rows false)) a (w.alloc (.cells cs.toArray e)) ∧ g'.hd d = .slice (some ⟨w.heap.size, 0, none⟩) rows.length cap ∧ g'.bl = g.bl := by
 have h1 := h.alloc (.cells cs.toArray e)
 have hF : ∀ o, ¬ F w.heap.size o := fun o hf => Nat.lt_irrefl _ (h.f2 _ o hf)
 have K : Keeps s.lb g (s.put d (.arr e sz rows false)).lb (g.upd d (g.bl d) (.slice (some ⟨w.heap.size, 0, none⟩) rows.length cap) [w.heap.size]) := Keeps.upd (fun B hB => by rw [hd] at hB; cases hB)
 have hlf : rows.flatten.length = rows.length * sz := by
  clear hc hcap hlen K
  induction rows with
  | nil => simp
  | cons r rs ih => simp [hr r (by simp), ih (fun q hq => hr q (by simp [hq])), Nat.add_mul]; omega
 refine ⟨g.upd d (g.bl d) (.slice (some ⟨w.heap.size, 0, none⟩) rows.length cap) [w.heap.size], h1.putLB (fun B hB => by rw [hd] at hB; cases hB) ?_ ?_ ?_ ?_ ?_, by simp [Gh.upd], ?_⟩
 ·refine ⟨hsz, hr, cs.take (rows.length * sz), [], ?_, ?_, by simp [Gh.upd, zV0, Value.ownBlock]⟩
  ·refine ⟨?_, .inr ⟨w.heap.size, cap, cs.toArray, by simp [Gh.upd], Nat.zero_le _, heap_alloc_new w _, hcap, hmax, by simp [hlen], by simp⟩⟩
   have := RepACs.len _ _ hc
   rw [hlf] at this; exact this.symm
  ·exact RepACs.cells _ _ (RepACs.mono ⟨fun _ _ hb => hb, fun b o hb => zL0 (heap_alloc_old w _ b (h.f2 b o hb)) o⟩ K _ _ hc)
 ·simp only [SoftOk, Gh.upd, if_true, zV0, Value.ownBlock, Option.toList, List.mem_singleton]
  refine ⟨by rintro b rfl o _; exact hF o, fun _ _ b hb o => ?_⟩
  rw [hb]; exact hF o
 ·simp
 ·intro l' B _ hB k hk hk'
  simp at hk; subst hk
  exact Nat.lt_irrefl _ (h.nw l' B hB _ hk').2
 ·intro k hk
  simp at hk; subst hk
  exact ⟨.inl h.size, by simp⟩
 ·funext k; simp only [Gh.upd]; split <;> simp_all
end Go.Ai
namespace Go.Ai
open Go.RowKit
variable {P : Program} {w0 : World} {M0 : Ms} {F0 F F' : Fz} {g g' : Gh} {s : St} {a : Act} {w w' : World}
theorem Sim.world (h : Sim w0 M0 F0 F g s a w) (st : Stays w w' F F') (hlb : ∀ l B, s.lb l = some B → RepLB w' F' s.lb g l B) (so : ∀ l B, s.lb l = some B → SoftOk F' g l B)
  (f1 : ∀ b o, F' b o → F b o ∨ w0.heap.size ≤ b ∨ b ∈ M0) (f2 : ∀ b o, F' b o → b < w'.heap.size) (os : w'.os = w.os) (tape : w'.tape = w.tape) (output : w'.output = w.output)
  (size : w.heap.size ≤ w'.heap.size) (block : ∀ k, k < w0.heap.size → k ∉ M0 → w'.heap[k]? = w.heap[k]?) : Sim w0 M0 F0 F' g s a w' where
 sz := h.sz
 df := h.df
 sl := fun i => RepAV.mono st (Keeps.refl _ _) _ _ (h.sl i)
 gh := RepAVs.mono st (Keeps.refl _ _) _ _ h.gh
 lb := hlb
 so := so
 nd := h.nd
 dj := h.dj
 nw := fun l B hl b hb => ⟨(h.nw l B hl b hb).1, Nat.lt_of_lt_of_le (h.nw l B hl b hb).2 size⟩
 f0 := fun b o hb => st.up b o (h.f0 b o hb)
 f1 := fun b o hb => (f1 b o hb).elim (h.f1 b o) .inr
 f2 := f2
 tb := h.tb
 os := os.trans h.os
 tape := tape.trans h.tape
 output := output.trans h.output
 size := Nat.le_trans h.size size
 block := fun i hi hm => (block i hi hm).trans (h.block i hi hm)
theorem xP0 {w : World} {b : Nat} {old new : Array Value} {t : TypeId} {fr : Nat × Nat} (hg : w.heap[b]? = some (.cells old t fr)) {n : Nat} (hp : new.toList.take n = old.toList.take n) (o : Nat) (ho : o < n) :
  (w.setRow b new).cell? ⟨b, o, none⟩ = w.cell? ⟨b, o, none⟩ := by
 rw [cell_setRow_same w b o old new t fr hg, cell_of_row w b o old t fr hg]
 have h1 : (new.toList.take n)[o]? = (old.toList.take n)[o]? := by rw [hp]
 simpa [List.getElem?_take, ho] using h1
theorem jQ0 (w : World) (t ty e : TypeId) (i : TypeInfo) (z : Value) (ht : P.underlying t = some (.slice e)) (hi : P.info? e = some i) (hz : i.zero = some z)
  (hzs : z.cells.size = i.size) (hsz : 0 < i.size) (v : Value) (n : Nat) (xs : List Value) (hown : w.ownsRow 0 e i.size v n xs)
  (ad : Addr) (m c : Nat) (news : List Value) (hm : 0 < m) (hl : news.length = m * i.size) (hnews : ∀ j u, news[j]? = some u → w.cell? (ad.add j) = some u) (h1 : ∀ u ∈ news, u.oneCell' = true)
  (h63 : n + m ≤ maxLen) (hbytes : (n + m) * i.bytes ≤ 140737488355328) :
  ∃ v' w', (Builtin.append_ #[t, t] ty #[v, .slice (some ad) m c]).run P w = .ok v' w' ∧ w'.ownsRow 0 e i.size v' (n + m) (xs ++ news) ∧ w'.ownsRow 0 e i.size v n xs ∧
   (∀ k, k < w.heap.size → k ∉ zV0 v → w'.heap[k]? = w.heap[k]?) ∧ (∀ b, b ∈ zV0 v → ∀ o, o < n * i.size → w'.cell? ⟨b, o, none⟩ = w.cell? ⟨b, o, none⟩) ∧
   ((zV0 v' = zV0 v ∧ v' ≠ .slice none 0 0 ∧ w'.heap.size = w.heap.size) ∨ (zV0 v' = [w.heap.size] ∧ w'.heap.size = w.heap.size + 1)) ∧ w'.os = w.os ∧ w'.tape = w.tape ∧ w'.output = w.output := by
 have hsmall : n + m ≤ 9223372036854775807 := by simp only [maxLen] at h63; omega
 have hlen : (xs ++ news).length = (n + m) * i.size := by rw [List.length_append, hown.1, hl, Nat.add_mul]
 have grown : ∀ (old : Nat), old < n + m →
   (w.drew.alloc (.cells (xs.toArray ++ news.toArray ++ Builtin.zeroCells z.cells (grownCap w (n + m) old e - (n + m))) e)).ownsRow 0 e i.size
    (.slice (some ⟨w.heap.size, 0, none⟩) (n + m) (grownCap w (n + m) old e)) (n + m) (xs ++ news) := by
  intro old ho
  have hge := grownCap_ge w (n + m) old e
  have hcm : grownCap w (n + m) old e ≤ maxLen := grownCap_le_maxLen w (n + m) old e h63
  refine ⟨hlen, .inr ⟨w.heap.size, _, _, rfl, Nat.zero_le _, heap_alloc_new w.drew _, hge, hcm, ?_, ?_⟩⟩
  ·simp only [Array.size_append, List.size_toArray, size_zeroCells, hzs, hown.1, hl, ← Nat.add_mul]
   congr 1
   omega
  ·simp only [Array.toList_append, List.append_assoc]
   rw [← List.append_assoc, ← hlen]
   exact List.take_left
 have old_ : ∀ (o : Obj) k, k < w.heap.size → (w.drew.alloc o).heap[k]? = w.heap[k]? := fun o k hk => heap_alloc_old w.drew o k hk
 rcases hown.2 with ⟨rfl, rfl⟩ | ⟨g, cap, cur, rfl, hbg, hg, hnc, hcm, hcs, htake⟩
 ·have hx : xs = [] := List.eq_nil_of_length_eq_zero (by simpa using hown.1)
  subst hx
  have hr := run_append_nil (P := P) w t ty e i z ht hi hz ad m c news hl hnews (by omega) (by omega) (by have hb := hbytes; simp only [Nat.zero_add] at hb; omega)
  have hgr := grown 0 (by omega)
  simp only [Nat.zero_add, List.nil_append, Array.empty_append] at hgr ⊢
  exact ⟨_, _, hr, hgr, World.ownsRow_nil _ _ _ _, fun k hk _ => old_ _ k hk, fun b hb => by simp [zV0, Value.ownBlock] at hb, .inr ⟨by simp [zV0, Value.ownBlock], by simp⟩, rfl, rfl, rfl⟩
 ·have hglt : g < w.heap.size := (Array.getElem?_eq_some_iff.1 hg).1
  by_cases hroom : n + m ≤ cap
  ·have hfit : n * i.size + news.length ≤ cur.size := by rw [hl, hcs, ← Nat.add_mul]; exact Nat.mul_le_mul_right _ hroom
   have hr := run_append_room (P := P) w t ty e i ht hi g n cap cur hg ad m c news hl hnews h1 hroom hfit
   have this : (cur.toList.take (n * i.size)).length = n * i.size := by simp; omega
   have htk : ((cur.toList.take (n * i.size) ++ news ++ cur.toList.drop (n * i.size + news.length)).toArray).toList.take (n * i.size) = cur.toList.take (n * i.size) := by
    rw [List.append_assoc, List.take_append_of_le_length (by rw [this]; exact Nat.le_refl _), List.take_take, Nat.min_self]
   have hsize : ((cur.toList.take (n * i.size) ++ news ++ cur.toList.drop (n * i.size + news.length)).toArray).size = cap * i.size := by
    simp only [List.size_toArray, List.length_append, List.length_take, List.length_drop, Array.length_toList]; omega
   refine ⟨_, _, hr, ⟨hlen, .inr ⟨g, cap, _, rfl, hbg, setRow_heap w g cur _ e _ hg, hroom, hcm, hsize, ?_⟩⟩, ⟨hown.1, .inr ⟨g, cap, _, rfl, hbg, setRow_heap w g cur _ e _ hg, hnc, hcm, hsize, ?_⟩⟩,
    fun k _ hk => setRow_other w g k _ (fun e => hk (by simp [zV0, Value.ownBlock, e])), ?_, .inl ⟨rfl, by simp, by simp⟩, rfl, rfl, rfl⟩
   ·rw [htake, ← hlen]
    exact List.take_left
   ·rw [htk]; exact htake
   ·intro b hb o ho
    simp [zV0, Value.ownBlock] at hb
    subst hb
    exact xP0 hg htk o ho
  ·have holds : ∀ j u, xs[j]? = some u → w.cell? ((⟨g, 0, none⟩ : Addr).add j) = some u := hown.cells (g := g) rfl
   have hr := run_append_grow (P := P) w t ty e i z ht hi hz ⟨g, 0, none⟩ n cap xs hown.1 holds ad m c news hl hnews (by omega) (by omega) (growslice_fits (by omega) hbytes)
   have hgr := grown cap (by omega)
   refine ⟨_, _, hr, hgr, vt0 hown (fun b hb => ?_), fun k hk _ => old_ _ k hk, fun b hb o _ => ?_, .inr ⟨by simp [zV0, Value.ownBlock], by simp⟩, rfl, rfl, rfl⟩
   ·simp [zV0, Value.ownBlock] at hb; subst hb; exact old_ _ _ hglt
   ·simp [zV0, Value.ownBlock] at hb; subst hb; exact zL0 (old_ _ _ hglt) o
theorem RepCells.append {w : World} {F : Fz} {lb : Lk} {g : Gh} : ∀ (as : List AC) (us : List Value) (S : List Nat) (bs : List AC) (vs : List Value) (T : List Nat),
  RepCells w F lb g as us S → RepCells w F lb g bs vs T → RepCells w F lb g (as ++ bs) (us ++ vs) (S ++ T)
 | [], us, S, bs, vs, T, h, k => by simp only [RepCells] at h; obtain ⟨rfl, rfl⟩ := h; simpa using k
 | a :: as, us, S, bs, vs, T, h, k => by
  simp only [RepCells] at h
  obtain ⟨u, us', S1, S2, rfl, rfl, h3, h4⟩ := h
  exact ⟨u, us' ++ vs, S1, S2 ++ T, by simp, by simp, h3, RepCells.append as us' S2 bs vs T h4 k⟩
theorem Sim.app (h : Sim w0 M0 F0 F g s a w) {l : Nat} {e : TypeId} {i : TypeInfo} {z : Value} {rows more : List (List AC)} {fz : Bool} (hl : s.lb l = some (.arr e i.size rows fz))
  (t ty : TypeId) (ht : P.underlying t = some (.slice e)) (hi : P.info? e = some i) (hz : i.zero = some z) (hzs : z.cells.size = i.size)
  (hmr : ∀ r, r ∈ more → r.length = i.size) (hm : 0 < more.length) (ad : Addr) (c : Nat) (news : List Value) (hrep : RepACs w F s.lb g more.flatten news)
  (hnews : ∀ j u, news[j]? = some u → w.cell? (ad.add j) = some u) (h63 : rows.length + more.length ≤ maxLen) (hbytes : (rows.length + more.length) * i.bytes ≤ 140737488355328) :
  ∃ v' w' g', (Builtin.append_ #[t, t] ty #[g.hd l, .slice (some ad) more.length c]).run P w = .ok v' w' ∧ Sim w0 M0 F0 F g' (s.put l (.arr e i.size (rows ++ more) fz)) a w' ∧ g'.hd l = v' := by
 obtain ⟨hsz, hrl, xs, S, hown, hcells, hds⟩ := h.lb l _ hl
 have hlf : more.flatten.length = more.length * i.size := by
  clear hrep hbytes h63 hm
  induction more with
  | nil => simp
  | cons r rs ih => simp [hmr r (by simp), ih (fun q hq => hmr q (by simp [hq])), Nat.add_mul]; omega
 have hnl : news.length = more.length * i.size := by rw [← RepACs.len _ _ hrep, hlf]
 have hone : ∀ u ∈ news, u.oneCell' = true := by
  intro u hu
  have : ∀ (as : List AC) (us : List Value), RepACs w F s.lb g as us → ∀ u ∈ us, u.oneCell' = true := by
   intro as
   induction as with
   | nil => intro us hr u hu; simp only [RepACs] at hr; subst hr; cases hu
   | cons a as ih =>
    intro us hr u hu
    simp only [RepACs] at hr
    obtain ⟨u', us', rfl, h2, h3⟩ := hr
    rcases List.mem_cons.1 hu with rfl | hu
    ·exact h2.one
    ·exact ih us' h3 u hu
  exact this _ _ hrep u hu
 obtain ⟨v', w', hrun, hown', hownold, hoth, hpre, hblk, hos, htape, hout⟩ := jQ0 (P := P) w t ty e i z ht hi hz hzs hsz (g.hd l) rows.length xs hown ad more.length c news hm hnl hnews hone h63 hbytes
 have hle : w.heap.size ≤ w'.heap.size := by rcases hblk with ⟨_, _, hq⟩ | ⟨_, hq⟩ <;> omega
 have hmine : ∀ b, b ∈ zV0 (g.hd l) → b ∈ g.ds l := fun b hb => by rw [hds]; simp [hb]
 have hso := h.so l _ hl
 simp only [SoftOk] at hso
 have stays : Stays w w' F F := ⟨fun _ _ hb => hb, fun b o hb => by
  by_cases hin : b ∈ zV0 (g.hd l)
  ·by_cases ho : o < rows.length * i.size
   ·exact hpre b hin o ho
   ·exact absurd hb (hso.1 b hin o (.inr (by omega)))
  ·exact zL0 (hoth b (h.f2 b o hb) hin) o⟩
 have hSnot : ∀ b, b ∈ S → b ∉ zV0 (g.hd l) := fun b hb hb' => by
  have hnd := h.nd l _ hl
  rw [hds, List.nodup_append] at hnd
  exact hnd.2.2 b hb' b hb rfl
 have hSlt : ∀ b, b ∈ S → b < w.heap.size := fun b hb => (h.nw l _ hl b (by rw [hds]; simp [hb])).2
 have h1 : Sim w0 M0 F0 F g s a w' := by
  refine h.world stays ?_ h.so (fun _ _ hb => .inl hb) (fun b o hb => Nat.lt_of_lt_of_le (h.f2 b o hb) hle) hos htape hout hle ?_
  ·intro l' B hB
   by_cases he : l' = l
   ·subst he
    rw [hl] at hB
    obtain rfl := Option.some.inj hB
    exact ⟨hsz, hrl, xs, S, hownold, RepCells.mono stays (Keeps.refl _ _) _ _ _ (fun b hb => hoth b (hSlt b hb) (hSnot b hb)) hcells, hds⟩
   ·exact RepLB.mono stays (Keeps.refl _ _) rfl rfl rfl (fun b hb => hoth b (h.nw l' B hB b hb).2 (fun hin => h.dj l' l B _ he hB hl b hb (hmine b hin))) (h.lb l' B hB)
  ·intro k hk hkm
   refine hoth k (Nat.lt_of_lt_of_le hk h.size) (fun hin => ?_)
   rcases (h.nw l _ hl k (hmine k hin)).1 with hq | hq
   ·omega
   ·exact hkm hq
 have hc : ∀ B, s.lb l = some B → (∀ n u, zK0 B (g.hd l) n u → zK0 (.arr e i.size (rows ++ more) fz) v' n u) ∧ (∀ off u, za0 B (g.bl l) off u → za0 (.arr e i.size (rows ++ more) fz) (g.bl l) off u) ∧
   (∀ n j off u, zx0 B (g.hd l) n j off u → zx0 (.arr e i.size (rows ++ more) fz) v' n j off u) ∧ (∀ k u, qg0 B (g.hd l) k u → qg0 (.arr e i.size (rows ++ more) fz) v' k u) := by
  intro B hB
  rw [hl] at hB
  obtain rfl := Option.some.inj hB
  refine ⟨fun n u hq => ?_, fun _ _ _ => trivial, fun n j off u hq => ?_, fun _ _ _ => trivial⟩
  ·simp only [zK0, List.length_append] at hq ⊢; exact ⟨by omega, fun hn => by omega⟩
  ·simp only [zx0, List.length_append] at hq ⊢; exact ⟨by omega, fun hn => by omega⟩
 have K : Keeps s.lb g (s.put l (.arr e i.size (rows ++ more) fz)).lb (g.upd l (g.bl l) v' (zV0 v' ++ S)) := Keeps.upd hc
 refine ⟨v', w', g.upd l (g.bl l) v' (zV0 v' ++ S), hrun, h1.putLB hc ?_ ?_ ?_ ?_ ?_, by simp [Gh.upd]⟩
 ·refine ⟨hsz, fun r hr => (List.mem_append.1 hr).elim (hrl r) (hmr r), xs ++ news, S, ?_, ?_, by simp [Gh.upd]⟩
  ·simpa [Gh.upd] using hown'
  ·rw [List.flatten_append]
   have k1 := RepCells.mono stays K _ _ _ (fun b hb => hoth b (hSlt b hb) (hSnot b hb)) hcells
   have k2 := RepACs.cells _ _ (RepACs.mono stays K _ _ hrep)
   simpa using RepCells.append _ _ _ _ _ _ k1 k2
 ·simp only [SoftOk, Gh.upd, if_true, List.length_append]
  have first : ∀ b, b ∈ zV0 v' → ∀ o, (fz = false ∨ (rows.length + more.length) * i.size ≤ o) → ¬ F b o := by
   intro b hb o ho
   rcases hblk with ⟨he, _, _⟩ | ⟨he, _⟩
   ·rw [he] at hb
    exact hso.1 b hb o (ho.imp id (fun hq => by rw [Nat.add_mul] at hq; omega))
   ·rw [he] at hb
    simp at hb; subst hb
    exact fun hf => Nat.lt_irrefl _ (h.f2 _ o hf)
  refine ⟨first, fun hz hn b hb o => ?_⟩
  rcases List.mem_append.1 hb with hb | hb
  ·exact first b hb o (.inl hz)
  ·simp only [noD, List.all_append, Bool.and_eq_true] at hn
   exact hso.2 hz hn.1 b (by rw [hds]; simp [hb]) o
 ·have hnd := h.nd l _ hl
  rw [hds, List.nodup_append] at hnd
  rw [List.nodup_append]
  rcases hblk with ⟨he, _, _⟩ | ⟨he, _⟩
  ·rw [he]; exact hnd
  ·rw [he]
   refine ⟨by simp, hnd.2.1, fun x hx y hy hxy => ?_⟩
   simp at hx; subst hx; subst hxy
   exact Nat.lt_irrefl _ (hSlt _ hy)
 ·intro l' B hne hB k hk hk'
  rcases List.mem_append.1 hk with hk | hk
  ·rcases hblk with ⟨he, _, _⟩ | ⟨he, _⟩
   ·rw [he] at hk
    exact h.dj l' l B _ hne hB hl k hk' (hmine k hk)
   ·rw [he] at hk; simp at hk; subst hk
    exact Nat.lt_irrefl _ (h.nw l' B hB _ hk').2
  ·exact h.dj l' l B _ hne hB hl k hk' (by rw [hds]; simp [hk])
 ·intro k hk
  rcases List.mem_append.1 hk with hk | hk
  ·rcases hblk with ⟨he, _, hq⟩ | ⟨he, hq⟩
   ·rw [he] at hk
    exact ⟨(h.nw l _ hl k (hmine k hk)).1, by rw [hq]; exact (h.nw l _ hl k (hmine k hk)).2⟩
   ·rw [he] at hk; simp at hk; subst hk
    exact ⟨.inl h.size, by omega⟩
  ·exact ⟨(h.nw l _ hl k (by rw [hds]; simp [hk])).1, Nat.lt_of_lt_of_le (hSlt k hk) hle⟩
end Go.Ai
