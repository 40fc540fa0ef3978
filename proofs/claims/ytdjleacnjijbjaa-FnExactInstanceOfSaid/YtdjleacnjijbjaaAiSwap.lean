/- Two steps that do not touch each other may be exchanged. -/
import Derived.Test.YtdjleacnjijbjaaAiCongr
namespace Go.Ai
set_option linter.unusedVariables false
set_option linter.unusedSimpArgs false
open Go.RowKit

variable {P : Program} {tab : Tab} {ops : Array Oper}

def St.app (s : St) (φ : Lk → Lk) (d : Option Tmp) (v : AV) : St := ({ s with lb := φ s.lb } : St).set d v
def putL (d : Nat) (B : LB) (lb : Lk) : Lk := fun k => if k = d then some B else lb k
def frzL1 (l : Nat) (lb : Lk) : Lk := fun k => if k = l then (lb k).map LB.frz else lb k
def frzL (ls : List Nat) (lb : Lk) : Lk := ls.foldl (fun lb l => frzL1 l lb) lb

theorem frzs_eq (ls : List Nat) : ∀ (s : St), s.frzs ls = { s with lb := frzL ls s.lb } := by
  induction ls with
  | nil => intro s; rfl
  | cons l ls ih => intro s; exact ih (s.frz l)

inductive Form (o : Oper) (s : St) : (Lk → Lk) → Prop
  | id : Form o s (fun lb => lb)
  | put (d : Nat) (B : LB) (hd : o.dst = some d) (hn : s.lb d = none) : Form o s (putL d B)
  | frz (ls : List Nat) (h : ∀ l, l ∈ ls → ∃ x, x ∈ o.op.operands.toList ∧ l ∈ (opv s x).refs) : Form o s (frzL ls)

structure AgreeW (ops : Array Oper) (o : Oper) (s t : St) : Prop where
  sl : ∀ k, k ∈ o.looksAt ops → t.sl k = s.sl k
  lb : ∀ x, x ∈ o.op.operands.toList → ∀ l, l ∈ (opv s x).refs → eqv (s.lb l) (t.lb l)
  dn : ∀ d, o.dst = some d → s.lb d = none → t.lb d = none
  n : t.n = s.n

theorem looks_ops {o : Oper} {k : Tmp} (h : k ∈ tmpsOf o.op.operands) : k ∈ o.looksAt ops := by
  unfold Oper.looksAt
  exact List.mem_append_left _ h

theorem want_congr {o : Oper} {s t : St} {b : Bool} (hs : ∀ k, k ∈ o.looksAt ops → t.sl k = s.sl k) (h : Want ops o s b) : Want ops o t b := by
  unfold Want at h ⊢
  cases hg : o.guard with
  | none => rw [hg] at h; exact h
  | some p =>
    obtain ⟨j, w⟩ := p
    rw [hg] at h
    simp only at h ⊢
    obtain ⟨d, hd, h⟩ := h
    have : t.sl d = s.sl d := hs d (by
      unfold Oper.looksAt
      refine List.mem_append_right _ ?_
      rw [hg]
      simp only [hd]
      simp)
    exact ⟨d, hd, by rw [this]; exact h⟩

theorem owns_refs : ∀ (v : AV) (l : Nat), l ∈ v.owns → l ∈ v.refs := by
  have one : ∀ (a : AC) (l : Nat), l ∈ a.owns → l ∈ a.refs := by
    intro a l h
    cases a <;> simp_all [AC.owns, AC.refs]
  intro v l h
  cases v with
  | one a => exact one a l h
  | agg as =>
    obtain ⟨a, ha, hl⟩ := List.mem_flatMap.1 h
    exact List.mem_flatMap.2 ⟨a, ha, one a l hl⟩
  | _ => simp [AV.owns] at h

theorem viewC_congr {lb lb' : Lk} {a : AC} {x : C} (h : ∀ l, l ∈ a.refs → eqv (lb l) (lb' l)) (hv : ViewC lb a x) : ViewC lb' a x := by
  cases a <;> simp only [ViewC] at hv ⊢ <;> try exact hv
  rename_i l n
  obtain ⟨e, sz, rows, fz, rows', hl, hr⟩ := hv
  rcases h l (by simp [AC.refs]) with he | ⟨e1, sz1, rows1, f, f', h1, h2⟩
  · exact ⟨e, sz, rows, fz, rows', he ▸ hl, hr⟩
  · rw [hl] at h1
    obtain ⟨rfl, rfl, rfl, rfl⟩ := LB.arr.inj (Option.some.inj h1)
    exact ⟨e, sz, rows, f', rows', h2, hr⟩
theorem viewCs_congr {lb lb' : Lk} : ∀ (as ys : List AC), (∀ l, l ∈ as.flatMap AC.refs → eqv (lb l) (lb' l)) → ViewCs lb as ys → ViewCs lb' as ys
  | [], _, _, hv => by simpa only [ViewCs] using hv
  | a :: as, ys, h, hv => by
    simp only [ViewCs] at hv ⊢
    obtain ⟨x, ys', h1, h2, h3⟩ := hv
    exact ⟨x, ys', h1, viewC_congr (fun l hl => h l (by simp [hl])) h2, viewCs_congr as ys' (fun l hl => h l (by
      obtain ⟨c, hc1, hc2⟩ := List.mem_flatMap.1 hl
      exact List.mem_flatMap.2 ⟨c, by simp [hc1], hc2⟩)) h3⟩
theorem viewAV_congr {lb lb' : Lk} {v d : AV} (h : ∀ l, l ∈ v.refs → eqv (lb l) (lb' l)) (hv : ViewAV lb v d) : ViewAV lb' v d := by
  cases v <;> simp only [ViewAV] at hv ⊢
  · obtain ⟨x, h1, h2⟩ := hv
    exact ⟨x, h1, viewC_congr h h2⟩
  · obtain ⟨ys, h1, h2⟩ := hv
    exact ⟨ys, h1, viewCs_congr _ _ h h2⟩
theorem viewAVs_congr {lb lb' : Lk} : ∀ (vs ds : List AV), (∀ v, v ∈ vs → ∀ l, l ∈ v.refs → eqv (lb l) (lb' l)) → ViewAVs lb vs ds → ViewAVs lb' vs ds
  | [], _, _, hv => by simpa only [ViewAVs] using hv
  | v :: vs, ds, h, hv => by
    simp only [ViewAVs] at hv ⊢
    obtain ⟨d, ds', h1, h2, h3⟩ := hv
    exact ⟨d, ds', h1, viewAV_congr (h v (by simp)) h2, viewAVs_congr vs ds' (fun u hu => h u (by simp [hu])) h3⟩

theorem viewB_congr {lb lb' : Lk} {a : AC} {x : C} (h : ∀ l, l ∈ a.refs → eqv (lb l) (lb' l)) (hv : ViewB lb a x) : ViewB lb' a x := by
  cases a
  case tk k i =>
    obtain ⟨xs, hl, hx⟩ := hv
    rcases h k (by simp [AC.refs]) with he | ⟨e1, sz1, rows1, f, f', h1, h2⟩
    · exact ⟨xs, he ▸ hl, hx⟩
    · rw [hl] at h1; cases h1
  all_goals exact viewC_congr (x := x) h hv
theorem viewBs_congr {lb lb' : Lk} : ∀ (as ys : List AC), (∀ l, l ∈ as.flatMap AC.refs → eqv (lb l) (lb' l)) → ViewBs lb as ys → ViewBs lb' as ys
  | [], _, _, hv => by simpa only [ViewBs] using hv
  | a :: as, ys, h, hv => by
    simp only [ViewBs] at hv ⊢
    obtain ⟨x, ys', h1, h2, h3⟩ := hv
    exact ⟨x, ys', h1, viewB_congr (fun l hl => h l (by simp [hl])) h2, viewBs_congr as ys' (fun l hl => h l (by
      obtain ⟨c, hc1, hc2⟩ := List.mem_flatMap.1 hl
      exact List.mem_flatMap.2 ⟨c, by simp [hc1], hc2⟩)) h3⟩
theorem viewBV_congr {lb lb' : Lk} {v d : AV} (h : ∀ l, l ∈ v.refs → eqv (lb l) (lb' l)) (hv : ViewBV lb v d) : ViewBV lb' v d := by
  cases v <;> simp only [ViewBV] at hv ⊢
  · obtain ⟨x, h1, h2⟩ := hv
    exact ⟨x, h1, viewB_congr h h2⟩
  · obtain ⟨ys, h1, h2⟩ := hv
    exact ⟨ys, h1, viewBs_congr _ _ h h2⟩
theorem viewBVs_congr {lb lb' : Lk} : ∀ (vs ds : List AV), (∀ v, v ∈ vs → ∀ l, l ∈ v.refs → eqv (lb l) (lb' l)) → ViewBVs lb vs ds → ViewBVs lb' vs ds
  | [], _, _, hv => by simpa only [ViewBVs] using hv
  | v :: vs, ds, h, hv => by
    simp only [ViewBVs] at hv ⊢
    obtain ⟨d, ds', h1, h2, h3⟩ := hv
    exact ⟨d, ds', h1, viewBV_congr (h v (by simp)) h2, viewBVs_congr vs ds' (fun u hu => h u (by simp [hu])) h3⟩

theorem call_operands {c : Call} {x : Operand} (h : x ∈ c.args.toList) : x ∈ (Op.call c).operands.toList := by
  simp only [Op.operands, Call.operands, Array.toList_append, List.mem_append]; exact .inr h
theorem call_callee {c : Call} {f : Operand} (h : c.callee = .value f) : f ∈ (Op.call c).operands.toList := by
  simp [Op.operands, Call.operands, h]

/-- A call does the same in a state that agrees. -/
theorem actsCall_form {o : Oper} {s s' : St} (h : ActsCall P o s s') : ∃ φ v, s' = s.app φ o.dst v ∧ Form o s φ ∧ ∀ t, AgreeW ops o s t → ActsCall P o t (t.app φ o.dst v) := by
  obtain ⟨c, f, fid, hop, hcal, hfn, hdst, hby⟩ := h
  have O : ∀ t, AgreeW ops o s t → ∀ x, x ∈ o.op.operands.toList → opv t x = opv s x := fun t ha x hx => opv_same (fun k hk => ha.sl k (looks_ops hk)) hx
  have args : ∀ t, AgreeW ops o s t → c.args.toList.map (opv t) = c.args.toList.map (opv s) := fun t ha => List.map_congr_left (fun x hx => O t ha x (by rw [hop]; exact call_operands hx))
  have look : ∀ t, AgreeW ops o s t → ∀ v, v ∈ c.args.toList.map (opv s) → ∀ l, l ∈ v.refs → eqv (s.lb l) (t.lb l) := fun t ha v hv l hl => by
    obtain ⟨x, hx, rfl⟩ := List.mem_map.1 hv
    exact ha.lb x (by rw [hop]; exact call_operands hx) l hl
  have mk : ∀ t, AgreeW ops o s t → ∀ s2, CallBy P fid (c.args.toList.map (opv s)) o.dst t s2 → ActsCall P o t s2 := fun t ha s2 hb =>
    ⟨c, f, fid, hop, hcal, by rw [O t ha f (by rw [hop]; exact call_callee hcal)]; exact hfn, by rw [ha.n]; exact hdst, by rw [args t ha]; exact hb⟩
  rcases hby with ⟨ds, r, hview, hsat, rfl⟩ | ⟨ds, r, hview, hsat, hpl, rfl⟩ | ⟨ds, r, d, hview, hsat, hd, hfr, rfl⟩
  · refine ⟨frzL ((c.args.toList.map (opv s)).flatMap AV.owns), r, by rw [frzs_eq]; rfl, .frz _ (fun l hl => ?_), fun t ha => mk t ha _ (.inl ⟨ds, r, viewAVs_congr _ _ (look t ha) hview, hsat, by rw [frzs_eq]; rfl⟩)⟩
    obtain ⟨v, hv, hl⟩ := List.mem_flatMap.1 hl
    obtain ⟨x, hx, rfl⟩ := List.mem_map.1 hv
    exact ⟨x, by rw [hop]; exact call_operands hx, owns_refs _ _ hl⟩
  · exact ⟨fun lb => lb, r, rfl, .id, fun t ha => mk t ha _ (.inr (.inl ⟨ds, r, viewBVs_congr _ _ (look t ha) hview, hsat, hpl, rfl⟩))⟩
  · refine ⟨putL d (.tok (flR r)), tkR d r, rfl, .put d _ hd hfr, fun t ha => mk t ha _ (.inr (.inr ⟨ds, r, d, viewBVs_congr _ _ (look t ha) hview, hsat, hd, ha.dn d hd hfr, rfl⟩))⟩

theorem strong_upd {o : Oper} {s : St} {pr : Prop} {v : AV} {l : Nat} {B : LB} (h : outF tab o s = some (pr, .upd v l B)) : strong o = true := by
  unfold outF at h
  split at h
  · cases ht : tab _ <;> rw [ht] at h <;> cases h
  · cases ht : (opv s _).cs <;> rw [ht] at h <;> cases h
  · split at h
    · split at h
      · split at h
        · rename_i x _ _ _ _ _
          cases hf : fillA _ _ _ <;> rw [hf] at h <;> cases h
        · cases h
      · cases h
    · cases h
  · split at h
    · split at h
      · split at h
        · cases h
        · cases h
      · cases h
    · cases h
  · rename_i t p x hop
    simp [strong, hop]
  · rename_i c hop
    unfold callF at h
    split at h
    · rename_i hc; simp [strong, hop, hc]
    · cases hf : callPure tab s c <;> rw [hf] at h <;> cases h
  · cases hf : pureF tab o s <;> rw [hf] at h <;> cases h

theorem app_new {o : Oper} {s : St} {d : Nat} {v : AV} {B : LB} (hd : o.dst = some d) : (Eff.new v B).app o.dst s = s.app (putL d B) o.dst v := by
  unfold Eff.app St.app; rw [hd]; rfl

theorem step_weak {o : Oper} {s s' : St} (hw : strong o = false) (h : Step P tab ops o s s') : ∃ φ v, s' = s.app φ o.dst v ∧ Form o s φ ∧ ∀ t, AgreeW ops o s t → Step P tab ops o t (t.app φ o.dst v) := by
  rcases h with ⟨hwant, hact⟩ | ⟨hwant, hd, rfl⟩
  · rcases hact with ⟨pr, e, ho, hp, hk, rfl⟩ | hc
    · have cong : ∀ t, AgreeW ops o s t → outF tab o t = some (pr, e) := fun t ha => by
        rw [← ho]; exact outF_congr hw (fun k hk => ha.sl k (looks_ops hk)) ha.lb
      cases e with
      | val v => exact ⟨fun lb => lb, v, rfl, .id, fun t ha => .inl ⟨want_congr ha.sl hwant, .inl ⟨pr, .val v, cong t ha, hp, by simp only [Eff.ok] at hk ⊢; rw [ha.n]; exact hk, rfl⟩⟩⟩
      | new v B =>
        obtain ⟨d, hd, hn, hf⟩ := hk
        refine ⟨putL d B, v, app_new hd, .put d B hd hf, fun t ha => .inl ⟨want_congr ha.sl hwant, .inl ⟨pr, .new v B, cong t ha, hp, ⟨d, hd, by rw [ha.n]; exact hn, ha.dn d hd hf⟩, (app_new hd).symm⟩⟩⟩
      | upd v l B => exact absurd (strong_upd ho) (by simp [hw])
    · obtain ⟨φ, v, h1, h2, h3⟩ := actsCall_form (ops := ops) hc
      exact ⟨φ, v, h1, h2, fun t ha => .inl ⟨want_congr ha.sl hwant, .inr (h3 t ha)⟩⟩
  · exact ⟨fun lb => lb, .tup [], rfl, .id, fun t ha => .inr ⟨want_congr ha.sl hwant, by rw [ha.n]; exact hd, rfl⟩⟩

theorem free_val {o : Oper} {s : St} {pr : Prop} {e : Eff} (hf : memfree o = true) (h : outF tab o s = some (pr, e)) : ∃ v, e = .val v := by
  unfold outF at h
  split at h
  · rename_i t hop; simp [memfree, hop] at hf
  · rename_i t x hop; simp [memfree, hop] at hf
  · rename_i t len parts hop; simp [memfree, hop] at hf
  · rename_i t x y hop; simp [memfree, hop] at hf
  · rename_i t p x hop; simp [memfree, hop] at hf
  · rename_i c hop; simp [memfree, hop] at hf
  · cases hq : pureF tab o s with
    | none => rw [hq] at h; cases h
    | some r => rw [hq] at h; obtain ⟨_, rfl⟩ := Prod.mk.inj (Option.some.inj h); exact ⟨_, rfl⟩

theorem step_free {o : Oper} {s s' : St} (hf : memfree o = true) (h : Step P tab ops o s s') : ∃ v, s' = s.set o.dst v ∧ ∀ t : St, (∀ k, k ∈ o.looksAt ops → t.sl k = s.sl k) → t.n = s.n → Step P tab ops o t (t.set o.dst v) := by
  rcases h with ⟨hwant, hact⟩ | ⟨hwant, hd, rfl⟩
  · rcases hact with ⟨pr, e, ho, hp, hk, rfl⟩ | ⟨c, _, _, hop, _⟩
    · obtain ⟨v, rfl⟩ := free_val hf ho
      exact ⟨v, rfl, fun t hs hn => .inl ⟨want_congr hs hwant, .inl ⟨pr, .val v, by rw [← ho]; exact outF_free hf (fun k hk => hs k (looks_ops hk)), hp, by simp only [Eff.ok] at hk ⊢; rw [hn]; exact hk, rfl⟩⟩⟩
    · simp [memfree, hop] at hf
  · exact ⟨.tup [], rfl, fun t hs hn => .inr ⟨want_congr hs hwant, by rw [hn]; exact hd, rfl⟩⟩

theorem step_any {o : Oper} {s s' : St} (h : Step P tab ops o s s') : ∃ φ v, s' = s.app φ o.dst v ∧ ∀ t : St, (∀ k, k ∈ o.looksAt ops → t.sl k = s.sl k) → t.lb = s.lb → t.n = s.n → Step P tab ops o t (t.app φ o.dst v) := by
  by_cases hw : strong o = false
  · obtain ⟨φ, v, h1, _, h3⟩ := step_weak hw h
    exact ⟨φ, v, h1, fun t hs hl hn => h3 t ⟨hs, fun x _ l _ => by rw [hl]; exact eqv.refl _, fun d _ hq => by rw [hl]; exact hq, hn⟩⟩
  · rcases h with ⟨hwant, hact⟩ | ⟨hwant, hd, rfl⟩
    · rcases hact with ⟨pr, e, ho, hp, hk, rfl⟩ | hc
      · have cong : ∀ t : St, (∀ k, k ∈ o.looksAt ops → t.sl k = s.sl k) → t.lb = s.lb → outF tab o t = some (pr, e) := fun t hs hl => by
          rw [← ho]; exact outF_slots (fun k hk => hs k (looks_ops hk)) hl
        cases e with
        | val v => exact ⟨fun lb => lb, v, rfl, fun t hs hl hn => .inl ⟨want_congr hs hwant, .inl ⟨pr, .val v, cong t hs hl, hp, by simp only [Eff.ok] at hk ⊢; rw [hn]; exact hk, rfl⟩⟩⟩
        | new v B =>
          obtain ⟨d, hd, hn', hf⟩ := hk
          exact ⟨putL d B, v, app_new hd, fun t hs hl hn => .inl ⟨want_congr hs hwant, .inl ⟨pr, .new v B, cong t hs hl, hp, ⟨d, hd, by rw [hn]; exact hn', by rw [hl]; exact hf⟩, (app_new hd).symm⟩⟩⟩
        | upd v l B => exact ⟨putL l B, v, rfl, fun t hs hl hn => .inl ⟨want_congr hs hwant, .inl ⟨pr, .upd v l B, cong t hs hl, hp, by simp only [Eff.ok] at hk ⊢; rw [hn]; exact hk, rfl⟩⟩⟩
      · obtain ⟨φ, v, h1, _, h3⟩ := actsCall_form (ops := ops) hc
        exact ⟨φ, v, h1, fun t hs hl hn => .inl ⟨want_congr hs hwant, .inr (h3 t ⟨hs, fun x _ l _ => by rw [hl]; exact eqv.refl _, fun d _ hq => by rw [hl]; exact hq, hn⟩)⟩⟩
    · exact ⟨fun lb => lb, .tup [], rfl, fun t hs hl hn => .inr ⟨want_congr hs hwant, by rw [hn]; exact hd, rfl⟩⟩

theorem app_sl (s : St) (φ : Lk → Lk) (d : Option Tmp) (v : AV) (k : Tmp) (h : d ≠ some k) : (s.app φ d v).sl k = s.sl k := by
  unfold St.app
  cases d with
  | none => rfl
  | some d => rw [St.set_sl]; exact if_neg (fun e => h (by rw [e]))
theorem app_lb (s : St) (φ : Lk → Lk) (d : Option Tmp) (v : AV) : (s.app φ d v).lb = φ s.lb := by simp [St.app]
theorem app_n (s : St) (φ : Lk → Lk) (d : Option Tmp) (v : AV) : (s.app φ d v).n = s.n := by simp [St.app]

theorem app_comm (s : St) (φ ψ : Lk → Lk) (d e : Option Tmp) (u v : AV) (hne : ∀ t, d = some t → e ≠ some t) (hc : φ (ψ s.lb) = ψ (φ s.lb)) : (s.app φ d u).app ψ e v = (s.app ψ e v).app φ d u := by
  obtain ⟨n, sl, lb, gh⟩ := s
  simp only at hc
  cases d with
  | none => cases e <;> simp [St.app, St.set, hc]
  | some d =>
    cases e with
    | none => simp [St.app, St.set, hc]
    | some e =>
      simp only [St.app, St.set, hc, St.mk.injEq, true_and, and_true]
      funext t
      by_cases h1 : t = d
      · by_cases h2 : t = e
        · subst h1; subst h2; exact absurd rfl (hne t rfl)
        · rw [if_neg h2, if_pos h1, if_pos h1]
      · by_cases h2 : t = e
        · rw [if_pos h2, if_neg h1, if_pos h2]
        · rw [if_neg h2, if_neg h1, if_neg h1, if_neg h2]

theorem frzL_none (ls : List Nat) : ∀ (lb : Lk) (k : Nat), lb k = none → frzL ls lb k = none := by
  induction ls with
  | nil => intro lb k h; exact h
  | cons l ls ih => intro lb k h; exact ih _ k (by show (if k = l then (lb k).map LB.frz else lb k) = none; split <;> simp [h])
theorem frzL_eqv (ls : List Nat) : ∀ (lb : Lk) (k : Nat), eqv (lb k) (frzL ls lb k) := by
  induction ls with
  | nil => intro lb k; exact eqv.refl _
  | cons l ls ih =>
    intro lb k
    have h1 : eqv (lb k) (frzL1 l lb k) := by
      unfold frzL1
      split
      · cases lb k with
        | none => exact eqv.refl _
        | some B => cases B with
          | arr e sz rows fz => exact .inr ⟨e, sz, rows, fz, true, rfl, rfl⟩
          | _ => exact eqv.refl _
      · exact eqv.refl _
    have h2 := ih (frzL1 l lb) k
    rcases h1 with h1 | ⟨e, sz, rows, f, f', h1, h3⟩
    · rw [h1]; exact h2
    · rcases h2 with h2 | ⟨e', sz', rows', g, g', h4, h5⟩
      · exact .inr ⟨e, sz, rows, f, f', h1, h2 ▸ h3⟩
      · rw [h3] at h4
        obtain ⟨rfl, rfl, rfl, rfl⟩ := LB.arr.inj (Option.some.inj h4)
        exact .inr ⟨e, sz, rows, f, g', h1, h5⟩
theorem frzL1_comm (l l' : Nat) (lb : Lk) : frzL1 l (frzL1 l' lb) = frzL1 l' (frzL1 l lb) := by
  funext k
  show (if k = l then (if k = l' then (lb k).map LB.frz else lb k).map LB.frz else (if k = l' then (lb k).map LB.frz else lb k)) = (if k = l' then (if k = l then (lb k).map LB.frz else lb k).map LB.frz else (if k = l then (lb k).map LB.frz else lb k))
  split <;> split <;> rfl
theorem frzL_comm1 (l : Nat) (ls : List Nat) : ∀ lb : Lk, frzL1 l (frzL ls lb) = frzL ls (frzL1 l lb) := by
  induction ls with
  | nil => intro lb; rfl
  | cons l' ls ih => intro lb; show frzL1 l (frzL ls (frzL1 l' lb)) = frzL ls (frzL1 l' (frzL1 l lb)); rw [ih, frzL1_comm]
theorem frzL_comm (ls ls' : List Nat) : ∀ lb : Lk, frzL ls (frzL ls' lb) = frzL ls' (frzL ls lb) := by
  induction ls with
  | nil => intro lb; rfl
  | cons l ls ih => intro lb; show frzL ls (frzL1 l (frzL ls' lb)) = frzL ls' (frzL ls (frzL1 l lb)); rw [frzL_comm1, ih]
theorem frzL_put (ls : List Nat) (d : Nat) (B : LB) (hd : d ∉ ls) : ∀ lb : Lk, frzL ls (putL d B lb) = putL d B (frzL ls lb) := by
  induction ls with
  | nil => intro lb; rfl
  | cons l ls ih =>
    intro lb
    have h1 : frzL1 l (putL d B lb) = putL d B (frzL1 l lb) := by
      funext k
      unfold frzL1 putL
      by_cases e : k = l
      · have : k ≠ d := fun h => hd (by simp [← h, e])
        simp [e, this, e ▸ this]
      · simp [e]
    show frzL ls (frzL1 l (putL d B lb)) = putL d B (frzL ls (frzL1 l lb))
    rw [h1, ih (fun h => hd (by simp [h]))]

/-- What the slots name is there. -/
def Here (s : St) : Prop := ∀ t l, l ∈ (s.sl t).refs → s.lb l ≠ none

theorem here_opv {s : St} (h : Here s) (x : Operand) (l : Nat) (hl : l ∈ (opv s x).refs) : s.lb l ≠ none := by
  cases x with
  | tmp t => exact h t l hl
  | const v =>
    simp only [opv] at hl
    have : ∀ v, (constAV v).refs = [] := by
      intro v
      cases v <;> try rfl
      rename_i A n c
      cases A with
      | none => cases n with
        | zero => cases c <;> rfl
        | succ n => rfl
      | some A => rfl
    rw [this] at hl; cases hl
  | global g => simp [opv, AV.refs] at hl
  | func f => simp [opv, AV.refs, AC.refs] at hl

def commOk (ops : Array Oper) (x y : Oper) : Bool :=
  x.apart ops y && (!strong x || memfree y) && (!strong y || memfree x)

theorem swap {x y : Oper} {s s1 s2 : St} (hh : Here s) (hc : commOk ops x y = true) (h1 : Step P tab ops x s s1) (h2 : Step P tab ops y s1 s2) :
    ∃ s1', Step P tab ops y s s1' ∧ Step P tab ops x s1' s2 := by
  simp only [commOk, Bool.and_eq_true, Bool.or_eq_true, Bool.not_eq_true'] at hc
  obtain ⟨⟨hap, hx⟩, hy⟩ := hc
  obtain ⟨a1, a2, a3⟩ := Oper.apart_spec hap
  have nx : ∀ k, k ∈ y.looksAt ops → x.dst ≠ some k := fun k hk e => a1 k e hk
  have ny : ∀ k, k ∈ x.looksAt ops → y.dst ≠ some k := fun k hk e => a3 k e hk
  have hne : ∀ t, x.dst = some t → y.dst ≠ some t := fun t e => a2 t e
  by_cases fx : memfree x = true
  · obtain ⟨v, rfl, k1⟩ := step_free fx h1
    obtain ⟨ψ, u, rfl, k2⟩ := step_any h2
    have e1 : s.set x.dst v = s.app (fun lb => lb) x.dst v := rfl
    refine ⟨s.app ψ y.dst u, k2 s (fun k hk => (by rw [e1, app_sl _ _ _ _ _ (nx k hk)])) (by simp) (by simp), ?_⟩
    have := k1 (s.app ψ y.dst u) (fun k hk => app_sl _ _ _ _ _ (ny k hk)) (app_n _ _ _ _)
    have e2 : (s.set x.dst v).app ψ y.dst u = (s.app ψ y.dst u).set x.dst v := app_comm s (fun lb => lb) ψ x.dst y.dst v u hne rfl
    rw [e2]; exact this
  · have sy : strong y = false := hy.resolve_right fx
    by_cases fy : memfree y = true
    · obtain ⟨φ, v, rfl, k1⟩ := step_any h1
      obtain ⟨u, rfl, k2⟩ := step_free fy h2
      refine ⟨s.set y.dst u, k2 s (fun k hk => (by rw [app_sl _ _ _ _ _ (nx k hk)])) (by rw [app_n]), ?_⟩
      have e1 : s.set y.dst u = s.app (fun lb => lb) y.dst u := rfl
      have := k1 (s.set y.dst u) (fun k hk => by rw [e1, app_sl _ _ _ _ _ (ny k hk)]) (by simp) (by simp)
      have e2 : (s.app φ x.dst v).set y.dst u = (s.set y.dst u).app φ x.dst v := app_comm s φ (fun lb => lb) x.dst y.dst v u hne rfl
      rw [e2]; exact this
    · have sx : strong x = false := hx.resolve_right fy
      obtain ⟨φ, v, rfl, F1, k1⟩ := step_weak sx h1
      obtain ⟨ψ, u, rfl, F2, k2⟩ := step_weak sy h2
      have Oy : ∀ z, z ∈ y.op.operands.toList → opv (s.app φ x.dst v) z = opv s z := fun z hz => opv_same (fun k hk => app_sl _ _ _ _ _ (nx k (looks_ops hk))) hz
      have agree : ∀ {o : Oper} {s t : St} {χ : Lk → Lk}, Here s → Form o s χ → t.lb = χ s.lb → ∀ l, s.lb l ≠ none → eqv (s.lb l) (t.lb l) := by
        intro o s t χ hs hF ht l hl
        rw [ht]
        cases hF with
        | id => exact eqv.refl _
        | put d B hd hn => left; unfold putL; rw [if_neg (fun (e : l = d) => hl (by rw [e]; exact hn))]
        | frz ls _ => exact frzL_eqv ls _ _
      have none_ : ∀ {o : Oper} {s : St} {χ : Lk → Lk} (k : Nat), Form o s χ → (χ s.lb) k = none → s.lb k = none := by
        intro o s χ k hF hk
        cases hF with
        | id => exact hk
        | put d B hd hn => unfold putL at hk; split at hk; cases hk; exact hk
        | frz ls _ => rcases frzL_eqv ls s.lb k with e | ⟨_, _, _, _, _, _, e⟩
                      · rw [e]; exact hk
                      · rw [hk] at e; cases e
      have A2 : AgreeW ops y (s.app φ x.dst v) s := by
        refine ⟨fun k hk => (app_sl _ _ _ _ _ (nx k hk)).symm, fun z hz l hl => ?_, fun d hd hn => ?_, (app_n _ _ _ _).symm⟩
        · rw [Oy z hz] at hl
          exact (agree hh F1 (app_lb _ _ _ _) l (here_opv hh z l hl)).symm
        · rw [app_lb] at hn; exact none_ d F1 hn
      have S2 := k2 s A2
      have A1 : AgreeW ops x s (s.app ψ y.dst u) := by
        refine ⟨fun k hk => app_sl _ _ _ _ _ (ny k hk), fun z hz l hl => ?_, fun d hd hn => ?_, app_n _ _ _ _⟩
        · have hl' := here_opv hh z l hl
          rw [app_lb]
          cases F2 with
          | id => exact eqv.refl _
          | put d B hd hn =>
            left; unfold putL
            rw [app_lb] at hn
            rw [if_neg (fun (e : l = d) => hl' (by rw [e]; exact none_ d F1 hn))]
          | frz ls _ => exact frzL_eqv ls _ _
        · rw [app_lb]
          cases F2 with
          | id => exact hn
          | put d' B hd' hn' => unfold putL; rw [if_neg (fun e => hne d hd (by rw [hd', e]))]; exact hn
          | frz ls _ => exact frzL_none ls _ _ hn
      have S1 := k1 _ A1
      refine ⟨_, S2, ?_⟩
      have hcomm : φ (ψ s.lb) = ψ (φ s.lb) := by
        cases F1 with
        | id => rfl
        | put d B hd hn =>
          cases F2 with
          | id => rfl
          | put d' B' hd' hn' =>
            funext k
            unfold putL
            by_cases e1 : k = d <;> by_cases e2 : k = d'
            · exact absurd (by rw [hd', ← e2, e1]) (hne d hd)
            · simp [e1, e2, e1 ▸ e2]
            · simp [e1, e2, e2 ▸ e1]
            · simp [e1, e2]
          | frz ls hls =>
            refine (frzL_put ls d B (fun hin => ?_) s.lb).symm
            obtain ⟨z, hz, hl⟩ := hls d hin
            rw [Oy z hz] at hl
            exact here_opv hh z d hl hn
        | frz ls hls =>
          cases F2 with
          | id => rfl
          | put d B hd hn =>
            refine frzL_put ls d B (fun hin => ?_) s.lb
            obtain ⟨z, hz, hl⟩ := hls d hin
            rw [app_lb] at hn
            exact here_opv hh z d hl (none_ d (.frz (o := x) (s := s) ls hls) hn)
          | frz ls' hls' => exact frzL_comm ls ls' s.lb
      rw [app_comm s φ ψ x.dst y.dst v u hne hcomm]
      exact S1

end Go.Ai
