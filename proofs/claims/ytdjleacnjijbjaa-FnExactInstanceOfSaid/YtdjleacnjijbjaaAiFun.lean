/- States as lists; a function's contract from its code. -/
import Derived.Test.YtdjleacnjijbjaaAiCode
namespace Go.Ai
set_option linter.unusedVariables false
set_option linter.unusedSimpArgs false
open Go.RowKit

variable {P : Program} {tab : Tab}

def look (L : List (Nat × AV)) (t : Nat) : AV :=
  match L with
  | [] => .any
  | (k, v) :: L => if t = k then v else look L t
def lookB (B : List (Nat × LB)) (l : Nat) : Option LB :=
  match B with
  | [] => none
  | (k, b) :: B => if l = k then some b else lookB B l
theorem look_nil (t : Nat) : look [] t = .any := rfl
theorem look_cons (k : Nat) (v : AV) (L : List (Nat × AV)) (t : Nat) : look ((k, v) :: L) t = if t = k then v else look L t := rfl
theorem lookB_nil (l : Nat) : lookB [] l = none := rfl
theorem lookB_cons (k : Nat) (b : LB) (B : List (Nat × LB)) (l : Nat) : lookB ((k, b) :: B) l = if l = k then some b else lookB B l := rfl
def mk (n : Nat) (L : List (Nat × AV)) (B : List (Nat × LB)) (G : List AV := []) : St := ⟨n, look L, lookB B, G⟩

section
variable (n : Nat) (L : List (Nat × AV)) (B : List (Nat × LB)) (G : List AV)
theorem mk_set (t : Tmp) (v : AV) : (mk n L B G).set (some t) v = mk n ((t, v) :: L) B G := rfl
theorem mk_set0 (v : AV) : (mk n L B G).set none v = mk n L B G := rfl
theorem mk_put (l : Nat) (b : LB) : (mk n L B G).put l b = mk n L ((l, b) :: B) G := rfl
theorem mk_n : (mk n L B G).n = n := rfl
theorem mk_sl (t : Nat) : (mk n L B G).sl t = look L t := rfl
theorem mk_lb : (mk n L B G).lb = lookB B := rfl
theorem mk_gh : (mk n L B G).gh = G := rfl
theorem mk_withLb (B' : List (Nat × LB)) : (mk n L B G).withLb (lookB B') = mk n L B' G := rfl
theorem updL_look (k : Nat) (b : LB) : updL k b (lookB B) = lookB ((k, b) :: B) := rfl
end
def frzB (l : Nat) : List (Nat × LB) → List (Nat × LB)
  | [] => []
  | (k, b) :: B => (if k = l then (k, b.frz) else (k, b)) :: frzB l B
theorem lookB_frz (l k : Nat) : ∀ (B : List (Nat × LB)), lookB (frzB l B) k = if k = l then (lookB B k).map LB.frz else lookB B k
  | [] => by simp [frzB, lookB]
  | (j, b) :: B => by
    by_cases e : j = l
    · subst e
      by_cases e2 : k = j
      · subst e2; simp [frzB, lookB]
      · simp [frzB, lookB, e2, lookB_frz j k B]
    · by_cases e2 : k = j
      · subst e2; simp [frzB, lookB, e]
      · simp [frzB, lookB, e, e2, lookB_frz l k B]
theorem mk_frz (n : Nat) (L : List (Nat × AV)) (B : List (Nat × LB)) (G : List AV) (l : Nat) : (mk n L B G).frz l = mk n L (frzB l B) G := by
  simp only [mk, St.frz]
  congr 1
  funext k
  rw [lookB_frz]
theorem frzs_nil (s : St) : s.frzs [] = s := rfl
theorem frzs_cons (s : St) (l : Nat) (ls : List Nat) : s.frzs (l :: ls) = (s.frz l).frzs ls := rfl

def leL (L : List (Nat × AV)) (lb : Lk) : List (Nat × AV) → Prop
  | [] => True
  | (t, v) :: r => look L t = v ∧ inV lb v ∧ leL L lb r
def leB (B : List (Nat × LB)) (lb : Lk) : List (Nat × LB) → Prop
  | [] => True
  | (l, b) :: r => lookB B l = some b ∧ inB lb b ∧ leB B lb r

def leG (lb : Lk) : List AV → Prop
  | [] => True
  | v :: G => inV lb v ∧ leG lb G
theorem leG_mem {lb : Lk} : ∀ {G : List AV}, leG lb G → ∀ v, v ∈ G → inV lb v
  | _ :: _, h, v, hv => by
    rcases List.mem_cons.1 hv with rfl | hv
    · exact h.1
    · exact leG_mem h.2 v hv
theorem le_mk' {n : Nat} {L L' : List (Nat × AV)} {B B' : List (Nat × LB)} {G : List AV} (h1 : leL L (lookB B') L') (h2 : leB B (lookB B') B') (h3 : leG (lookB B') G) : Le (mk n L B G) (mk n L' B' G) where
  n := rfl
  sl := fun t => by
    simp only [mk_sl, mk_lb]
    have : ∀ (X : List (Nat × AV)), leL L (lookB B') X → look X t = .any ∨ (look X t = look L t ∧ inV (lookB B') (look X t)) := by
      intro X
      induction X with
      | nil => intro _; exact .inl rfl
      | cons p X ih =>
        obtain ⟨k, v⟩ := p
        rintro ⟨k1, k2, k3⟩
        simp only [look]
        split
        · rename_i e; subst e; exact .inr ⟨k1.symm, k2⟩
        · exact ih k3
    exact this L' h1
  lb := fun l b hl => by
    simp only [mk_lb] at hl ⊢
    have : ∀ (X : List (Nat × LB)), leB B (lookB B') X → lookB X l = some b → lookB B l = some b ∧ inB (lookB B') b := by
      intro X
      induction X with
      | nil => intro _ h; cases h
      | cons p X ih =>
        obtain ⟨k, v⟩ := p
        rintro ⟨k1, k2, k3⟩ h
        simp only [lookB] at h
        split at h
        · rename_i e; subst e
          obtain rfl := Option.some.inj h
          exact ⟨k1, k2⟩
        · exact ih k3 h
    exact this B' h2 hl
  gh := ⟨rfl, leG_mem h3⟩
theorem le_mk {n : Nat} {L L' : List (Nat × AV)} {B B' : List (Nat × LB)} {G : List AV} (h1 : leL L (lookB B') L') (h2 : leB B (lookB B') B') (h3 : leG (lookB B') G := by first | trivial | simp [leG, lookB, inV, inC]) : Wk (mk n L B G) (mk n L' B' G) := (le_mk' h1 h2 h3).wk

def enumA (k : Nat) : List AV → List (Nat × AV)
  | [] => []
  | v :: vs => (k, v) :: enumA (k + 1) vs

def joinR : List AV → AV
  | [v] => v
  | vs => .tup vs
def resV (tab : Tab) (s : St) : ResultVar → Option (Prop × AV)
  | .tmp t => some (True, s.sl t)
  | .cell a t => loadA tab s.lb t (s.sl a)
def resVs (tab : Tab) (s : St) : List ResultVar → Option (Prop × List AV)
  | [] => some (True, [])
  | x :: xs => match resV tab s x, resVs tab s xs with
    | some (p, v), some (q, vs) => some (p ∧ q, v :: vs)
    | _, _ => none
def retS (tab : Tab) (rs : List ResultVar) (r : AV) (s : St) : Prop :=
  match resVs tab s rs with
  | some (p, vs) => p ∧ okAVs s.lb vs ∧ joinR (vAVs s.lb vs) = r
  | none => False
def retA (tab : Tab) (rs : List ResultVar) (r : AV) : Exit → St → Prop
  | .normal, s => retS tab rs r s
  | .ret, s => retS tab rs r s
  | _, _ => False

theorem enumA_rep {w : World} {F : Fz} {lb : Lk} {g : Gh} : ∀ (vs : List AV) (us : List Value) (k i : Nat) (rest : List Value), RepAVs w F lb g vs us →
    look (enumA k vs) i = .any ∨ (k ≤ i ∧ i < k + vs.length ∧ RepAV w F lb g (look (enumA k vs) i) ((us ++ rest).getD (i - k) undef))
  | [], _, _, _, _, _ => .inl rfl
  | v :: vs, us, k, i, rest, h => by
    simp only [RepAVs] at h
    obtain ⟨u, us', rfl, h1, h2⟩ := h
    by_cases e : i = k
    · subst e
      refine .inr ⟨Nat.le_refl _, by simp, ?_⟩
      simpa [enumA, look] using h1
    · rcases enumA_rep vs us' (k + 1) i rest h2 with h | ⟨h3, h4, h5⟩
      · exact .inl (by simpa [enumA, look, e] using h)
      · refine .inr ⟨by omega, by simp; omega, ?_⟩
        have : i - k = (i - (k + 1)) + 1 := by omega
        simp only [enumA, look, if_neg e, this]
        simpa using h5

theorem getD_toArray (l : List Value) (i : Nat) (d : Value) : l.toArray.getD i d = l.getD i d := by
  simp [Array.getD_eq_getD_getElem?]

theorem RepAVs.len {w : World} {F : Fz} {lb : Lk} {g : Gh} : ∀ (vs : List AV) (us : List Value), RepAVs w F lb g vs us → vs.length = us.length
  | [], _, h => by simp only [RepAVs] at h; simp [h]
  | v :: vs, us, h => by
    simp only [RepAVs] at h
    obtain ⟨u, us', rfl, h1, h2⟩ := h
    simp [RepAVs.len vs us' h2]

theorem entry_sim {w : World} {F : Fz} {args : List AV} {us : List Value} {n : Nat} (hF : ∀ b o, F b o → b < w.heap.size) (hlen : args.length ≤ n) (h : RepAVs w F noLk g0 args us) :
    Sim w ⟨[], []⟩ F F g0 (mk n (enumA 0 args) []) { tmps := us.toArray ++ Array.replicate (n - us.toArray.size) undef, defers := [] } w where
  sz := by have := RepAVs.len _ _ h; simp [mk_n]; omega
  df := rfl
  sl := fun i => by
    have e : us.toArray ++ Array.replicate (n - us.toArray.size) undef = (us ++ List.replicate (n - us.length) undef).toArray := by simp
    simp only [mk_sl, mk_lb, e, getD_toArray]
    rcases enumA_rep args us 0 i (List.replicate (n - us.length) undef) h with h | ⟨_, _, h⟩
    · rw [h]; simp only [RepAV]
    · exact RepAV.mono (Stays.refl _ _) ⟨fun l B hl => by simp [noLk] at hl⟩ _ _ h
  gh := rfl
  lb := fun l B hl => by cases hl
  so := fun l B hl => by cases hl
  nd := fun l B hl => by cases hl
  dj := fun l l' B B' _ hl => by cases hl
  nw := fun l B hl => by cases hl
  f0 := fun _ _ h => h
  f1 := fun _ _ h => .inl h
  f2 := hF
  os := rfl
  tape := rfl
  output := rfl
  size := Nat.le_refl _
  block := fun _ _ _ => rfl

theorem asAddr_sure {t : TypeId} {u x : Value} {w : World} (h : (Instr.loadAt t u).run P w = .ok x w) : (do loadVar t (← asAddr u) : Sem Value).run P w = .ok x w := by
  cases u with
  | pointer a =>
    cases a with
    | some a => exact h
    | none => simp [Instr.loadAt, Instr.sureAddr] at h
  | _ => simp [Instr.loadAt, Instr.sureAddr] at h

def resRun (tmps : Array Value) : ResultVar → Sem Value
  | .tmp t => pure (tmps.getD t undef)
  | .cell b t => do loadVar t (← asAddr (tmps.getD b undef))

theorem resVs_run (hT : TabOk P tab) {w0 : World} {M0 : Ms} {F0 F : Fz} {g : Gh} {s : St} {a : Act} {w : World} (h : Sim w0 M0 F0 F g s a w) : ∀ (rs : List ResultVar) (p : Prop) (vs : List AV), resVs tab s rs = some (p, vs) → p →
    ∃ us, (rs.mapM (m := Sem) (resRun a.tmps)).run P w = .ok us w ∧ RepAVs w F s.lb g vs us
  | [], p, vs, ho, _ => by
    obtain ⟨rfl, rfl⟩ := Prod.mk.inj (Option.some.inj ho)
    exact ⟨[], rfl, rfl⟩
  | x :: xs, p, vs, ho, hp => by
    simp only [resVs] at ho
    split at ho
    · rename_i p1 v q vs' hx hxs
      obtain ⟨rfl, rfl⟩ := Prod.mk.inj (Option.some.inj ho)
      obtain ⟨us, k1, k2⟩ := resVs_run hT h xs q vs' hxs hp.2
      have : ∃ u, (resRun a.tmps x).run P w = .ok u w ∧ RepAV w F s.lb g v u := by
        cases x with
        | tmp t =>
          obtain ⟨rfl, rfl⟩ := Prod.mk.inj (Option.some.inj hx)
          exact ⟨_, rfl, h.sl t⟩
        | cell b t =>
          obtain ⟨u, h1, h2⟩ := loadA_sound (P := P) hT h (h.sl b) hx hp.1
          exact ⟨u, asAddr_sure h1, h2⟩
      obtain ⟨u, k3, k4⟩ := this
      refine ⟨u :: us, ?_, u, us, rfl, k4, k2⟩
      rw [List.mapM_cons, Sem.run_bind, k3, Result.andThen_ok, Sem.run_bind, k1]
      rfl
    · cases ho

def joinU : List Value → Value
  | [v] => v
  | vs => .tuple vs.toArray
theorem results_run (hT : TabOk P tab) {w0 : World} {M0 : Ms} {F0 F : Fz} {g : Gh} {s : St} {a : Act} {w : World} (h : Sim w0 M0 F0 F g s a w) {fn : Func} {rs : List ResultVar} {p : Prop} {vs : List AV} (hr : fn.results.toList = rs) (ho : resVs tab s rs = some (p, vs)) (hp : p) :
    ∃ us : List Value, (results fn a.tmps).run P w = .ok (joinU us) w ∧ RepAVs w F s.lb g vs us := by
  subst hr
  obtain ⟨us, k1, k2⟩ := resVs_run hT h _ p vs ho hp
  refine ⟨us, ?_, k2⟩
  have e : results fn a.tmps = (fn.results.mapM (resRun a.tmps) >>= fun vs => pure (if h : vs.size = 1 then vs[0] else .tuple vs)) := rfl
  rw [e, Array.mapM_eq_mapM_toList, Sem.run_bind, Sem.run_map, k1]
  cases us with
  | nil => rfl
  | cons u us => cases us <;> rfl

theorem ret_sound (hT : TabOk P tab) {w0 : World} {F0 F : Fz} {g : Gh} {s : St} {a : Act} {w : World} (h : Sim w0 ⟨[], []⟩ F0 F g s a w) {fn : Func} {rs : List ResultVar} {r : AV} (hrs : fn.results.toList = rs) (hr : retS tab rs r s) :
    ∃ v F', (results fn a.tmps).run P w = .ok v w ∧ (∀ b o, F0 b o → F' b o) ∧ (∀ b o, F' b o → F0 b o ∨ w0.heap.size ≤ b) ∧ (∀ b o, F' b o → b < w.heap.size) ∧ RepAV w F' noLk g0 r v := by
  unfold retS at hr
  split at hr
  case h_2 => exact hr.elim
  rename_i p vs ho
  obtain ⟨hp, h1, rfl⟩ := hr
  obtain ⟨us, hrun, hargs⟩ := results_run hT h hrs ho hp
  obtain ⟨F1, hs1, u1, p1⟩ := h.freezes (vs.flatMap AV.owns)
  have hargs1 := RepAVs.mono (w := w) (w' := w) ⟨u1, fun _ _ _ => rfl⟩ (Keeps.refl s.lb g) _ _ hargs
  have hv := viewAVs_sound' h u1 _ _ _ (viewAVs_ok h1) hargs1 (fun l hl => p1 l hl)
  refine ⟨_, F1, hrun, hs1.f0, fun b o hb => (hs1.f1 b o hb).imp id (fun hq => hq.elim id (fun hq => by cases hq)), hs1.f2, ?_⟩
  clear hrun
  generalize hds : vAVs s.lb vs = ds at hv ⊢
  cases ds with
  | nil =>
    simp only [RepAVs] at hv
    subst hv
    simp only [joinR, RepAV, RepAVs]
    exact ⟨[], rfl, rfl⟩
  | cons d ds =>
    simp only [RepAVs] at hv
    obtain ⟨u, us', rfl, k1, k2⟩ := hv
    cases ds with
    | nil => simp only [RepAVs] at k2; subst k2; exact k1
    | cons d' ds =>
      simp only [RepAVs] at k2
      obtain ⟨u', us', rfl, k3, k4⟩ := k2
      simp only [joinR, RepAV, RepAVs]
      exact ⟨u :: u' :: us', rfl, u, u' :: us', rfl, k1, u', us', rfl, k3, k4⟩

/-- **A function's contract, from its code.** -/
theorem sat_of_code (hT : TabOk P tab) (hm : P.follows .mixedOrders = true) {f : FuncId} {fn : Func} {c : Code} {args : List AV} {r : AV} {rs : List ResultVar} {n : Nat} (hf : P.funcs[f]? = some fn) (hb : fn.body = some c) (hr : fn.results.toList = rs) (hn : fn.ntmps = n) (hname : fn.name ≠ "runtime.NumGoroutine")
    (hok : okCode c = true) (hlen : args.length ≤ n) (h : codeK P tab c (retA tab rs r) (mk n (enumA 0 args) [])) : Sat P f args r := by
  subst hr hn
  refine ⟨⟨fn, hf, hname, by rw [hb]; simp⟩, fun w F us hF hrep => ?_⟩
  refine calls_of_wp hf hb (wp_mono (codeK_sound hT hm c _ _ hok h w ⟨[], []⟩ F _ w ⟨F, g0, entry_sim hF hlen hrep⟩) ?_)
  rintro e a' w' ⟨s', hq, F1, g1, hs'⟩
  have main : retS tab fn.results.toList r s' → ∃ v, (results fn a'.tmps).run P w' = .ok v w' ∧ ∃ v' F', Ending.returned v = .returned v' ∧ Below w.heap.size w w' ∧ (∀ b o, F b o → F' b o) ∧ (∀ b o, F' b o → F b o ∨ w.heap.size ≤ b) ∧ (∀ b o, F' b o → b < w'.heap.size) ∧ RepAV w' F' noLk g0 r v' := by
    intro hq
    obtain ⟨v, F', k0, k1, k2, k3, k4⟩ := ret_sound hT hs' rfl hq
    exact ⟨v, k0, v, F', rfl, ⟨hs'.os, hs'.tape, hs'.output, hs'.size, fun k hk => hs'.block k hk (fun h => by cases h)⟩, k1, k2, k3, k4⟩
  cases e with
  | normal => exact ⟨hs'.df, main hq⟩
  | ret => exact ⟨hs'.df, main hq⟩
  | _ => exact hq.elim

end Go.Ai
