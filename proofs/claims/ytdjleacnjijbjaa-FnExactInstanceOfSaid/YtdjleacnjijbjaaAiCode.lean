/- A function's code, run by the abstract machine: what is to be shown of it, as a proposition on abstract states. -/
import Derived.Test.YtdjleacnjijbjaaAiRegion
import Derived.Tactics
import Derived.Scope
import Derived.LoopN
namespace Go.Ai
set_option linter.unusedVariables false
set_option linter.unusedSimpArgs false
open Go.RowKit

variable {P : Program} {tab : Tab}

/-! ### Views, computed -/
def toC : AC → C
  | .c x => x
  | .d x => x
  | .m x => x
  | .nil => .sl []
  | .e1 => .sl []
  | _ => .v (.bool false)
def isV : AC → Bool
  | .c _ => true
  | .d _ => true
  | .nil => true
  | .e1 => true
  | _ => false
def vC (lb : Lk) : AC → C
  | .c x => x
  | .nil => .sl []
  | .e1 => .sl []
  | .own l _ => match lb l with
    | some (.arr _ _ rows _) => .sl (rows.map fun r => r.map toC)
    | _ => .sl []
  | .tk k i => match lb k with
    | some (.tok xs) => (match xs[i]? with
      | some (some x) => x
      | _ => .v (.bool false))
    | _ => .v (.bool false)
  | _ => .v (.bool false)
def okC (lb : Lk) : AC → Prop
  | .c _ => True
  | .nil => True
  | .e1 => True
  | .own l n => match lb l with
    | some (.arr _ _ rows _) => n = rows.length ∧ ∀ r, r ∈ rows → ∀ a, a ∈ r → isV a = true
    | _ => False
  | _ => False
def vCs (lb : Lk) : List AC → List AC
  | [] => []
  | a :: as => .c (vC lb a) :: vCs lb as
def okCs (lb : Lk) : List AC → Prop
  | [] => True
  | a :: as => okC lb a ∧ okCs lb as
def vAV (lb : Lk) : AV → AV
  | .one a => .one (.c (vC lb a))
  | .agg as => .agg (vCs lb as)
  | v => v
def okAV (lb : Lk) : AV → Prop
  | .one a => okC lb a
  | .agg as => okCs lb as
  | _ => False
def vAVs (lb : Lk) : List AV → List AV
  | [] => []
  | a :: as => vAV lb a :: vAVs lb as
def okAVs (lb : Lk) : List AV → Prop
  | [] => True
  | a :: as => okAV lb a ∧ okAVs lb as

theorem vCs_c (lb : Lk) (cs : List C) : vCs lb (cs.map .c) = cs.map .c := by
  induction cs with
  | nil => rfl
  | cons c cs ih => simp only [List.map_cons, vCs, vC, ih]
theorem okCs_c (lb : Lk) (cs : List C) : okCs lb (cs.map .c) := by
  induction cs with
  | nil => trivial
  | cons c cs ih => exact ⟨trivial, ih⟩

theorem isV_unN {a : AC} (h : isV a = true) : unN a = .c (toC a) := by cases a <;> simp_all [isV, unN, toC]
theorem viewC_ok {lb : Lk} {a : AC} (h : okC lb a) : ViewC lb a (vC lb a) := by
  cases a <;> simp only [okC] at h <;> simp only [ViewC, vC]
  case own l n =>
    split at h
    · rename_i e sz rows fz hl
      refine ⟨e, sz, rows, fz, rows.map fun r => r.map toC, hl, h.1, ?_, rfl⟩
      rw [List.map_map]
      refine List.map_congr_left (fun r hr => ?_)
      simp only [Function.comp, List.map_map]
      exact List.map_congr_left (fun a ha => isV_unN (h.2 r hr a ha))
    · exact h.elim
  all_goals exact h.elim
theorem viewCs_ok {lb : Lk} : ∀ {as : List AC}, okCs lb as → ViewCs lb as (vCs lb as)
  | [], _ => rfl
  | _ :: _, h => ⟨_, _, rfl, viewC_ok h.1, viewCs_ok h.2⟩
theorem viewAV_ok {lb : Lk} {v : AV} (h : okAV lb v) : ViewAV lb v (vAV lb v) := by
  cases v with
  | one a => exact ⟨_, rfl, viewC_ok h⟩
  | agg as => exact ⟨_, rfl, viewCs_ok h⟩
  | tup vs => exact h.elim
  | any => exact h.elim
theorem viewAVs_ok {lb : Lk} : ∀ {vs : List AV}, okAVs lb vs → ViewAVs lb vs (vAVs lb vs)
  | [], _ => rfl
  | _ :: _, h => ⟨_, _, rfl, viewAV_ok h.1, viewAVs_ok h.2⟩

/-! ### Views of what is lent -/
def okB (lb : Lk) : AC → Prop
  | .tk k i => match lb k with
    | some (.tok xs) => (match xs[i]? with
      | some (some _) => True
      | _ => False)
    | _ => False
  | a => okC lb a
def okBs (lb : Lk) : List AC → Prop
  | [] => True
  | a :: as => okB lb a ∧ okBs lb as
def okBV (lb : Lk) : AV → Prop
  | .one a => okB lb a
  | .agg as => okBs lb as
  | _ => False
def okBVs (lb : Lk) : List AV → Prop
  | [] => True
  | a :: as => okBV lb a ∧ okBVs lb as
def noTk : AC → Prop
  | .tk _ _ => False
  | _ => True
def noTks : List AC → Prop
  | [] => True
  | a :: as => noTk a ∧ noTks as
def noTkV : AV → Prop
  | .one a => noTk a
  | .agg as => noTks as
  | _ => True
def noTkVs : List AV → Prop
  | [] => True
  | a :: as => noTkV a ∧ noTkVs as
theorem okBs_c (lb : Lk) (cs : List C) : okBs lb (cs.map .c) := by
  induction cs with
  | nil => trivial
  | cons c cs ih => exact ⟨trivial, ih⟩
theorem noTks_c (cs : List C) : noTks (cs.map .c) := by
  induction cs with
  | nil => trivial
  | cons c cs ih => exact ⟨trivial, ih⟩
theorem viewB_ok {lb : Lk} {a : AC} (h : okB lb a) : ViewB lb a (vC lb a) := by
  cases a
  case tk k i =>
    simp only [okB] at h
    split at h
    · rename_i xs hl
      split at h
      · rename_i x hx
        refine ⟨xs, hl, ?_⟩
        simp only [vC, hl, hx]
      · exact h.elim
    · exact h.elim
  all_goals first | exact False.elim h | exact viewC_ok (a := .c _) h | exact viewC_ok (a := .nil) h | exact viewC_ok (a := .e1) h | exact viewC_ok (a := .own _ _) h
theorem viewBs_ok {lb : Lk} : ∀ {as : List AC}, okBs lb as → ViewBs lb as (vCs lb as)
  | [], _ => rfl
  | _ :: _, h => ⟨_, _, rfl, viewB_ok h.1, viewBs_ok h.2⟩
theorem viewBV_ok {lb : Lk} {v : AV} (h : okBV lb v) : ViewBV lb v (vAV lb v) := by
  cases v with
  | one a => exact ⟨_, rfl, viewB_ok h⟩
  | agg as => exact ⟨_, rfl, viewBs_ok h⟩
  | tup vs => exact h.elim
  | any => exact h.elim
theorem viewBVs_ok {lb : Lk} : ∀ {vs : List AV}, okBVs lb vs → ViewBVs lb vs (vAVs lb vs)
  | [], _ => rfl
  | _ :: _, h => ⟨_, _, rfl, viewBV_ok h.1, viewBVs_ok h.2⟩
theorem okB_noTk {lb : Lk} {a : AC} (h : okB lb a) (n : noTk a) : okC lb a := by
  cases a
  case tk k i => exact n.elim
  all_goals exact h
theorem okBs_noTk {lb : Lk} : ∀ {as : List AC}, okBs lb as → noTks as → okCs lb as
  | [], _, _ => trivial
  | _ :: _, h, n => ⟨okB_noTk h.1 n.1, okBs_noTk h.2 n.2⟩
theorem okBV_noTk {lb : Lk} {v : AV} (h : okBV lb v) (n : noTkV v) : okAV lb v := by
  cases v with
  | one a => exact okB_noTk h n
  | agg as => exact okBs_noTk h n
  | tup vs => exact h.elim
  | any => exact h.elim
theorem okBVs_noTk {lb : Lk} : ∀ {vs : List AV}, okBVs lb vs → noTkVs vs → okAVs lb vs
  | [], _, _ => trivial
  | _ :: _, h, n => ⟨okBV_noTk h.1 n.1, okBVs_noTk h.2 n.2⟩

/-! ### One operation, and a list of them -/
def dOk (d : Option Tmp) (s : St) : Prop :=
  match d with
  | none => True
  | some t => t < s.n
theorem dOk_iff {d : Option Tmp} {s : St} (h : dOk d s) : ∀ t, d = some t → t < s.n := by
  intro t ht; subst ht; exact h
def effOk : Eff → Option Tmp → St → Prop
  | .new _ _, some t, s => t < s.n ∧ s.lb t = none
  | .new _ _, none, _ => False
  | .val _, d, s => dOk d s
  | .upd _ _ _, d, s => dOk d s
theorem effOk_ok {e : Eff} {d : Option Tmp} {s : St} (h : effOk e d s) : e.ok d s := by
  cases e with
  | val v => exact dOk_iff h
  | new v B =>
    cases d with
    | none => exact h.elim
    | some t => exact ⟨t, rfl, h.1, h.2⟩
  | upd v l B => exact dOk_iff h

/-- How a call goes on: by a contract on data (the rows frozen, or lent), with an owned result, or by one that writes. -/
def callG (P : Program) (x : Bool) (fid : FuncId) (nt : Prop) (ds vs : List AV) (d : Option Tmp) (s : St) (k : St → Prop) : Prop :=
  (∃ r, Sat P fid ds r ∧ nt ∧ k ((s.frzs (vs.flatMap AV.owns)).set d r)) ∨
  (∃ r, Sat P fid ds r ∧ plainR r = true ∧ k (s.set d r)) ∨
  (∃ r t, SatF P fid ds r ∧ d = some t ∧ s.lb t = none ∧ k ((s.put t (.tok (flR r))).set d (tkR t r))) ∨
  (x = true ∧ ∃ ds1 ds' r, SatM P fid ds1 ds' r ∧ takeVs vs ds1 s.lb (fun lb => giveVs vs ds' lb (fun lb' => k ((s.withLb lb').set d r))))
def callK (P : Program) (x : Bool) (s : St) (d : Option Tmp) (f : Operand) (args : List Operand) (k : St → Prop) : Prop :=
  match fnOf (opv s f) with
  | none => False
  | some fid => okBVs s.lb (args.map (opv s)) ∧ dOk d s ∧ callG P x fid (noTkVs (args.map (opv s))) (vAVs s.lb (args.map (opv s))) (args.map (opv s)) d s k
def outK (tab : Tab) (o : Oper) (s : St) (k : St → Prop) : Prop :=
  match outF tab o s with
  | some (p, e) => p ∧ effOk e o.dst s ∧ (p → k (e.app o.dst s))
  | none => False
def actK (P : Program) (tab : Tab) (x : Bool) (o : Oper) (s : St) (k : St → Prop) : Prop :=
  match o.op with
  | .call ⟨.value f, args, _⟩ => callK P x s o.dst f args.toList k
  | _ => outK tab o s k
def wantK (ops : Array Oper) (o : Oper) (s : St) (k : Bool → Prop) : Prop :=
  match o.guard with
  | none => k true
  | some (j, wnt) => match (ops[j]?).bind (·.dst) with
    | none => False
    | some d => match s.sl d with
      | .one (.c (.v (.bool x))) => (x = wnt → k true) ∧ (x = (!wnt) → k false)
      | .tup [] => k false
      | _ => False
def regK (P : Program) (tab : Tab) (x : Bool) (ops : Array Oper) : List Oper → St → (St → Prop) → Prop
  | [], s, k => k s
  | o :: os, s, k => wantK ops o s fun b => if b = true then actK P tab x o s (fun s' => regK P tab x ops os s' k) else dOk o.dst s ∧ regK P tab x ops os (s.set o.dst (.tup [])) k

theorem outK_step {o : Oper} {s : St} {k : St → Prop} (h : outK tab o s k) : ∃ s', ActsOut tab o s s' ∧ k s' := by
  unfold outK at h
  split at h
  · rename_i p e ho
    exact ⟨_, ⟨p, e, ho, h.1, effOk_ok h.2.1, rfl⟩, h.2.2 h.1⟩
  · exact h.elim
theorem take_imp : ∀ {vs ds : List AV} {lb : Lk} {K K' : Lk → Prop}, (∀ lb, K lb → K' lb) → takeVs vs ds lb K → takeVs vs ds lb K' := by
  have hc : ∀ {a d : AC} {lb : Lk} {K K' : Lk → Prop}, (∀ lb, K lb → K' lb) → takeC a d lb K → takeC a d lb K' := by
    intro a d lb K K' hi h
    unfold takeC at h ⊢
    split at h
    · split at h
      · exact ⟨h.1, hi _ h.2⟩
      · exact h
    · exact ⟨h.1, hi _ h.2⟩
    · exact h.elim
  have hcs : ∀ {as ds : List AC} {lb : Lk} {K K' : Lk → Prop}, (∀ lb, K lb → K' lb) → takeCs as ds lb K → takeCs as ds lb K' := by
    intro as
    induction as with
    | nil => intro ds lb K K' hi h; cases ds with
             | nil => exact hi _ h
             | cons d ds => exact h.elim
    | cons a as ih => intro ds lb K K' hi h; cases ds with
                      | nil => exact h.elim
                      | cons d ds => exact hc (fun lb hk => ih hi hk) h
  have hv : ∀ {a d : AV} {lb : Lk} {K K' : Lk → Prop}, (∀ lb, K lb → K' lb) → takeV a d lb K → takeV a d lb K' := by
    intro a d lb K K' hi h
    unfold takeV at h ⊢
    split at h
    · exact hc hi h
    · exact hcs hi h
    · exact h.elim
  intro vs
  induction vs with
  | nil => intro ds lb K K' hi h; cases ds with
           | nil => exact hi _ h
           | cons d ds => exact h.elim
  | cons a as ih => intro ds lb K K' hi h; cases ds with
                    | nil => exact h.elim
                    | cons d ds => exact hv (fun lb hk => ih hi hk) h
theorem give_imp : ∀ {vs ds : List AV} {lb : Lk} {K : Lk → Prop}, giveVs vs ds lb K → ∃ lb', K lb' ∧ ∀ K' : Lk → Prop, K' lb' → giveVs vs ds lb K' := by
  have hc : ∀ {a d : AC} {lb : Lk} {K : Lk → Prop}, giveC a d lb K → ∃ lb', K lb' ∧ ∀ K' : Lk → Prop, K' lb' → giveC a d lb K' := by
    intro a d lb K h
    unfold giveC at h
    split at h
    · split at h
      · rename_i xs hl
        refine ⟨_, h.2, fun K' hk => ?_⟩
        simp only [giveC, hl]
        exact ⟨h.1, hk⟩
      · exact h.elim
    · exact ⟨_, h, fun K' hk => hk⟩
    · exact h.elim
  have hcs : ∀ {as ds : List AC} {lb : Lk} {K : Lk → Prop}, giveCs as ds lb K → ∃ lb', K lb' ∧ ∀ K' : Lk → Prop, K' lb' → giveCs as ds lb K' := by
    intro as
    induction as with
    | nil => intro ds lb K h; cases ds with
             | nil => exact ⟨_, h, fun K' hk => hk⟩
             | cons d ds => exact h.elim
    | cons a as ih => intro ds lb K h; cases ds with
                      | nil => exact h.elim
                      | cons d ds =>
                        obtain ⟨lb1, h1, h2⟩ := hc h
                        obtain ⟨lb2, h3, h4⟩ := ih h1
                        exact ⟨lb2, h3, fun K' hk => h2 _ (h4 K' hk)⟩
  have hv : ∀ {a d : AV} {lb : Lk} {K : Lk → Prop}, giveV a d lb K → ∃ lb', K lb' ∧ ∀ K' : Lk → Prop, K' lb' → giveV a d lb K' := by
    intro a d lb K h
    unfold giveV at h ⊢
    split at h
    · exact hc h
    · exact hcs h
    · exact h.elim
  intro vs
  induction vs with
  | nil => intro ds lb K h; cases ds with
           | nil => exact ⟨_, h, fun K' hk => hk⟩
           | cons d ds => exact h.elim
  | cons a as ih => intro ds lb K h; cases ds with
                    | nil => exact h.elim
                    | cons d ds =>
                      obtain ⟨lb1, h1, h2⟩ := hv h
                      obtain ⟨lb2, h3, h4⟩ := ih h1
                      exact ⟨lb2, h3, fun K' hk => h2 _ (h4 K' hk)⟩
theorem takeGive {vs ds ds' : List AV} {lb : Lk} {K : Lk → Prop} (h : takeVs vs ds lb fun lb => giveVs vs ds' lb K) : ∃ lb', K lb' ∧ takeVs vs ds lb fun lb => giveVs vs ds' lb fun lb2 => lb2 = lb' := by
  have hc : ∀ {a d : AC} {lb : Lk} {K : Lk → Prop}, takeC a d lb K → ∃ lb', K lb' ∧ ∀ K' : Lk → Prop, K' lb' → takeC a d lb K' := by
    intro a d lb K h
    unfold takeC at h
    split at h
    · split at h
      · rename_i xs hl
        refine ⟨_, h.2, fun K' hk => ?_⟩
        simp only [takeC, hl]
        exact ⟨h.1, hk⟩
      · exact h.elim
    · exact ⟨_, h.2, fun K' hk => ⟨h.1, hk⟩⟩
    · exact h.elim
  have hcs : ∀ {as ds : List AC} {lb : Lk} {K : Lk → Prop}, takeCs as ds lb K → ∃ lb', K lb' ∧ ∀ K' : Lk → Prop, K' lb' → takeCs as ds lb K' := by
    intro as
    induction as with
    | nil => intro ds lb K h; cases ds with
             | nil => exact ⟨_, h, fun K' hk => hk⟩
             | cons d ds => exact h.elim
    | cons a as ih => intro ds lb K h; cases ds with
                      | nil => exact h.elim
                      | cons d ds =>
                        obtain ⟨lb1, h1, h2⟩ := hc h
                        obtain ⟨lb2, h3, h4⟩ := ih h1
                        exact ⟨lb2, h3, fun K' hk => h2 _ (h4 K' hk)⟩
  have hv : ∀ {a d : AV} {lb : Lk} {K : Lk → Prop}, takeV a d lb K → ∃ lb', K lb' ∧ ∀ K' : Lk → Prop, K' lb' → takeV a d lb K' := by
    intro a d lb K h
    unfold takeV at h ⊢
    split at h
    · exact hc h
    · exact hcs h
    · exact h.elim
  have hvs : ∀ {vs ds : List AV} {lb : Lk} {K : Lk → Prop}, takeVs vs ds lb K → ∃ lb', K lb' ∧ ∀ K' : Lk → Prop, K' lb' → takeVs vs ds lb K' := by
    intro vs
    induction vs with
    | nil => intro ds lb K h; cases ds with
             | nil => exact ⟨_, h, fun K' hk => hk⟩
             | cons d ds => exact h.elim
    | cons a as ih => intro ds lb K h; cases ds with
                      | nil => exact h.elim
                      | cons d ds =>
                        obtain ⟨lb1, h1, h2⟩ := hv h
                        obtain ⟨lb2, h3, h4⟩ := ih h1
                        exact ⟨lb2, h3, fun K' hk => h2 _ (h4 K' hk)⟩
  obtain ⟨lb1, h1, h2⟩ := hvs h
  obtain ⟨lb2, h3, h4⟩ := give_imp h1
  exact ⟨lb2, h3, h2 _ (h4 _ rfl)⟩
/-- A step of an operation, calls that write among them where 'x' says so. -/
def ActX (P : Program) (tab : Tab) (x : Bool) (o : Oper) (s s' : St) : Prop := Acts P tab o s s' ∨ (x = true ∧ ActsM P o s s')
theorem actK_step {x : Bool} {o : Oper} {s : St} {k : St → Prop} (h : actK P tab x o s k) : ∃ s', ActX P tab x o s s' ∧ k s' := by
  unfold actK at h
  split at h
  · rename_i f args ts hop
    unfold callK at h
    split at h
    · exact h.elim
    · rename_i fid hf
      obtain ⟨h1, h2, h3⟩ := h
      have by_ : ∀ s', CallBy P fid (args.toList.map (opv s)) o.dst s s' → ActX P tab x o s s' := fun s' hb => .inl (.inr ⟨⟨.value f, args, ts⟩, f, fid, hop, rfl, hf, dOk_iff h2, hb⟩)
      rcases h3 with ⟨r, k1, k2, k3⟩ | ⟨r, k1, k2, k3⟩ | ⟨r, t, k1, k2, k3, k4⟩ | ⟨hx, ds1, ds', r, k1, k2⟩
      · exact ⟨_, by_ _ (.inl ⟨_, r, viewAVs_ok (okBVs_noTk h1 k2), k1, rfl⟩), k3⟩
      · exact ⟨_, by_ _ (.inr (.inl ⟨_, r, viewBVs_ok h1, k1, k2, rfl⟩)), k3⟩
      · exact ⟨_, by_ _ (.inr (.inr ⟨_, r, t, viewBVs_ok h1, k1, k2, k3, rfl⟩)), k4⟩
      · obtain ⟨lb', j1, j2⟩ := takeGive k2
        refine ⟨_, .inr ⟨hx, ⟨.value f, args, ts⟩, f, fid, ds1, ds', r, hop, rfl, hf, dOk_iff h2, k1, ?_⟩, j1⟩
        refine take_imp (fun lb hg => ?_) j2
        obtain ⟨lb2, e, hg2⟩ := give_imp hg
        subst e
        exact hg2 _ rfl
  · obtain ⟨s', h1, h2⟩ := outK_step h
    exact ⟨s', .inl (.inl h1), h2⟩
theorem wantK_step {ops : Array Oper} {o : Oper} {s : St} {k : Bool → Prop} (h : wantK ops o s k) : ∃ b, Want ops o s b ∧ k b := by
  unfold wantK at h
  unfold Want
  split at h
  · rename_i hg; exact ⟨true, by rw [hg], h⟩
  · rename_i j wnt hg
    rw [hg]
    simp only
    split at h
    · exact h.elim
    · rename_i d hd
      split at h
      · rename_i x hx
        by_cases e : x = wnt
        · exact ⟨true, ⟨d, hd, .inl ⟨x, hx, by simp [e]⟩⟩, h.1 e⟩
        · have e' : x = !wnt := by cases x <;> cases wnt <;> first | rfl | exact absurd rfl e
          exact ⟨false, ⟨d, hd, .inl ⟨x, hx, by cases x <;> cases wnt <;> first | rfl | exact absurd rfl e⟩⟩, h.2 e'⟩
      · rename_i hx
        exact ⟨false, ⟨d, hd, .inr ⟨hx, rfl⟩⟩, h⟩
      · exact h.elim
theorem regK_steps {x : Bool} {ops : Array Oper} : ∀ {l : List Oper} {s : St} {k : St → Prop}, regK P tab x ops l s k → ∃ s', StepsL P tab x ops l s s' ∧ k s'
  | [], s, _, h => ⟨s, rfl, h⟩
  | o :: os, s, k, h => by
    obtain ⟨b, hw, h⟩ := wantK_step h
    cases b with
    | true =>
      simp only [if_true] at h
      obtain ⟨s1, h1, h2⟩ := actK_step h
      obtain ⟨s2, h3, h4⟩ := regK_steps h2
      refine ⟨s2, ⟨s1, ?_, h3⟩, h4⟩
      rcases h1 with h1 | ⟨hx, h1⟩
      · exact .inl (.inl ⟨hw, h1⟩)
      · exact .inr ⟨hx, hw, h1⟩
    | false =>
      simp only [Bool.false_eq_true, if_false] at h
      obtain ⟨s2, h3, h4⟩ := regK_steps h.2
      exact ⟨s2, ⟨_, .inl (.inr ⟨hw, dOk_iff h.1, rfl⟩), h3⟩, h4⟩

/-! ### Code -/
def AWP (P : Program) (c : Code) (Q : Exit → St → Prop) (s : St) : Prop :=
  ∀ w0 M0 F0 a w, SimE w0 M0 F0 s a w → c.wp P (fun e a' w' => ∃ s', Q e s' ∧ SimE w0 M0 F0 s' a' w') a w

def thenA (k : St → Prop) (Q : Exit → St → Prop) : Exit → St → Prop
  | .normal, s => k s
  | e, s => Q e s
def blockA (id : Nat) (Q : Exit → St → Prop) : Exit → St → Prop
  | .exit id', s => if id' = id then Q .normal s else Q (.exit id') s
  | e, s => Q e s
def scopeA (Q : Exit → St → Prop) : Exit → St → Prop
  | .goto _, _ => False
  | e, s => Q e s
def loopA (P : Program) (c : Code) (Q : Exit → St → Prop) (s : St) : Prop := AWP P (.loop c) Q s

def codeK (P : Program) (tab : Tab) : Code → (Exit → St → Prop) → St → Prop
  | .skip, Q, s => Q .normal s
  | .region _ ops draw, Q, s => regK P tab (!draw) ops ops.toList s (Q .normal)
  | .seq a b, Q, s => codeK P tab a (thenA (codeK P tab b Q) Q) s
  | .cond c a b, Q, s => match opv s c with
    | .one (.c (.v (.bool t))) => (t = true → codeK P tab a Q s) ∧ (t = false → codeK P tab b Q s)
    | _ => False
  | .block id c, Q, s => codeK P tab c (blockA id Q) s
  | .exit id, Q, s => Q (.exit id) s
  | .ret, Q, s => Q .ret s
  | .scope c, Q, s => codeK P tab c (scopeA Q) s
  | .loop c, Q, s => loopA P c Q s
  | _, _, _ => False

def okCode : Code → Bool
  | .region _ ops draw => !draw || regOk ops
  | .seq a b => okCode a && okCode b
  | .cond _ a b => okCode a && okCode b
  | .block _ c => okCode c
  | .scope c => okCode c
  | .loop c => okCode c
  | _ => true

theorem codeK_sound (hT : TabOk P tab) (hm : P.follows .mixedOrders = true) : ∀ (c : Code) (Q : Exit → St → Prop) (s : St), okCode c = true → codeK P tab c Q s → AWP P c Q s
  | .skip, Q, s, _, h => fun w0 M0 F0 a w hs => wp_skip ⟨s, h, hs⟩
  | .exit id, Q, s, _, h => fun w0 M0 F0 a w hs => wp_exit ⟨s, h, hs⟩
  | .ret, Q, s, _, h => fun w0 M0 F0 a w hs => wp_ret ⟨s, h, hs⟩
  | .region id ops draw, Q, s, hok, h => fun w0 M0 F0 a w hs => by
    obtain ⟨s', h1, h2⟩ := regK_steps h
    refine region_sound hT hm ?_ h1 hs (fun a' w' hs' => ⟨s', h2, hs'⟩)
    intro hd
    subst hd
    simpa [okCode] using hok
  | .seq x y, Q, s, hok, h => fun w0 M0 F0 a w hs => by
    simp only [okCode, Bool.and_eq_true] at hok
    refine wp_seq (wp_mono (codeK_sound hT hm x _ s hok.1 h w0 M0 F0 a w hs) ?_)
    rintro e a' w' ⟨s', hq, hs'⟩
    cases e with
    | normal => exact codeK_sound hT hm y Q s' hok.2 hq w0 M0 F0 a' w' hs'
    | _ => exact ⟨s', hq, hs'⟩
  | .cond c x y, Q, s, hok, h => fun w0 M0 F0 a w hs => by
    simp only [okCode, Bool.and_eq_true] at hok
    simp only [codeK] at h
    split at h
    · rename_i t ht
      obtain ⟨F, g, hsim⟩ := hs
      have hc := opv_sound hsim c
      rw [ht] at hc
      have hc := hc.c_v
      cases t with
      | true => exact wp_cond_true hc (codeK_sound hT hm x Q s hok.1 (h.1 rfl) w0 M0 F0 a w ⟨F, g, hsim⟩)
      | false => exact wp_cond_false hc (codeK_sound hT hm y Q s hok.2 (h.2 rfl) w0 M0 F0 a w ⟨F, g, hsim⟩)
    · exact h.elim
  | .block id c, Q, s, hok, h => fun w0 M0 F0 a w hs => by
    refine wp_block (wp_mono (codeK_sound hT hm c _ s hok h w0 M0 F0 a w hs) ?_)
    rintro e a' w' ⟨s', hq, hs'⟩
    cases e with
    | exit id' =>
      simp only [blockA] at hq
      simp only [Exit.inBlock]
      split
      · rename_i e; rw [if_pos e] at hq; exact ⟨s', hq, hs'⟩
      · rename_i e; rw [if_neg e] at hq; exact ⟨s', hq, hs'⟩
    | _ => exact ⟨s', hq, hs'⟩
  | .scope c, Q, s, hok, h => fun w0 M0 F0 a w hs => by
    refine wp_scope_straight (wp_mono (codeK_sound hT hm c _ s hok h w0 M0 F0 a w hs) ?_)
    rintro e a' w' ⟨s', hq, hs'⟩
    cases e with
    | goto l => exact hq.elim
    | _ => exact ⟨s', hq, hs'⟩
  | .loop c, Q, s, _, h => h
  | .rangeFunc .., _, _, _, h => h.elim
  | .label _, _, _, _, h => h.elim
  | .goto _, _, _, _, h => h.elim
  | .refuse _, _, _, _, h => h.elim

theorem AWP.mono {c : Code} {Q Q' : Exit → St → Prop} {s : St} (h : AWP P c Q s) (hq : ∀ e s, Q e s → Q' e s) : AWP P c Q' s :=
  fun w0 M0 F0 a w hs => wp_mono (h w0 M0 F0 a w hs) (fun _ _ _ ⟨s', k, hs'⟩ => ⟨s', hq _ _ k, hs'⟩)

/-! ### Weaker states -/
def inC (lb : Lk) : AC → Prop
  | .own l _ => lb l ≠ none
  | .ptr l _ => lb l ≠ none
  | .ep l _ _ _ => lb l ≠ none
  | .tk l _ => lb l ≠ none
  | .clo _ _ => False
  | _ => True
def inB (lb : Lk) : LB → Prop
  | .var cells => ∀ a, a ∈ cells → inC lb a
  | .arr _ _ rows _ => ∀ r, r ∈ rows → ∀ a, a ∈ r → inC lb a
  | _ => True
def inV (lb : Lk) : AV → Prop
  | .one a => inC lb a
  | .agg as => ∀ a, a ∈ as → inC lb a
  | .tup [] => True
  | .tup _ => False
  | .any => True
structure Le (s s' : St) : Prop where
  n : s'.n = s.n
  sl : ∀ t, s'.sl t = .any ∨ (s'.sl t = s.sl t ∧ inV s'.lb (s'.sl t))
  lb : ∀ l B, s'.lb l = some B → s.lb l = some B ∧ inB s'.lb B
  gh : s'.gh = s.gh ∧ ∀ v, v ∈ s.gh → inV s'.lb v

section
variable {w : World} {F : Fz} {g : Gh} {lb lb' : Lk}
theorem inC_rep (hs : ∀ l B, lb' l = some B → lb l = some B) {a : AC} (hi : inC lb' a) {u : Value} (h : RepAC w F lb g a u) : RepAC w F lb' g a u := by
  have look : ∀ l, lb' l ≠ none → lb' l = lb l := by
    intro l hl
    cases hb : lb' l with
    | none => exact absurd hb hl
    | some B => exact (hs l B hb).symm
  cases a <;> simp only [inC] at hi <;> simp only [RepAC] at h ⊢ <;> try exact h
  case own l n => rw [look l hi]; exact h
  case ptr l n => rw [look l hi]; exact h
  case ep l n i o => rw [look l hi]; exact h
  case tk l i => rw [look l hi]; exact h
theorem inCs_rep (hs : ∀ l B, lb' l = some B → lb l = some B) : ∀ {as : List AC}, (∀ a, a ∈ as → inC lb' a) → ∀ {us : List Value}, RepACs w F lb g as us → RepACs w F lb' g as us
  | [], _, us, h => by simpa only [RepACs] using h
  | a :: as, hi, us, h => by
    simp only [RepACs] at h ⊢
    obtain ⟨u, us', rfl, h1, h2⟩ := h
    exact ⟨u, us', rfl, inC_rep hs (hi a (by simp)) h1, inCs_rep hs (fun b hb => hi b (by simp [hb])) h2⟩
theorem inCells_rep (hs : ∀ l B, lb' l = some B → lb l = some B) : ∀ {as : List AC}, (∀ a, a ∈ as → inC lb' a) → ∀ {us : List Value} {S : List Nat}, RepCells w F lb g as us S → RepCells w F lb' g as us S
  | [], _, us, S, h => by simpa only [RepCells] using h
  | a :: as, hi, us, S, h => by
    simp only [RepCells] at h ⊢
    obtain ⟨u, us', S1, S2, rfl, rfl, h1, h2⟩ := h
    refine ⟨u, us', S1, S2, rfl, rfl, ?_, inCells_rep hs (fun b hb => hi b (by simp [hb])) h2⟩
    have := hi a (by simp)
    cases a
    case d x => exact h1
    case m x => exact h1
    all_goals exact ⟨inC_rep hs this h1.1, h1.2⟩
theorem inV_rep (hs : ∀ l B, lb' l = some B → lb l = some B) {v : AV} (hi : inV lb' v) {u : Value} (h : RepAV w F lb g v u) : RepAV w F lb' g v u := by
  cases v with
  | one a => simp only [RepAV] at h ⊢; exact inC_rep hs hi h
  | agg as => simp only [RepAV] at h ⊢; obtain ⟨us, h1, h2⟩ := h; exact ⟨us, h1, inCs_rep hs hi h2⟩
  | tup vs =>
    cases vs with
    | nil => simpa only [RepAV, RepAVs] using h
    | cons v vs => exact hi.elim
  | any => simp only [RepAV]
theorem inVs_rep (hs : ∀ l B, lb' l = some B → lb l = some B) : ∀ {vs : List AV}, (∀ v, v ∈ vs → inV lb' v) → ∀ {us : List Value}, RepAVs w F lb g vs us → RepAVs w F lb' g vs us
  | [], _, us, h => by simpa only [RepAVs] using h
  | v :: vs, hi, us, h => by
    simp only [RepAVs] at h ⊢
    obtain ⟨u, us', rfl, h1, h2⟩ := h
    exact ⟨u, us', rfl, inV_rep hs (hi v (by simp)) h1, inVs_rep hs (fun b hb => hi b (by simp [hb])) h2⟩
end

theorem Sim.le {w0 : World} {M0 : Ms} {F0 F : Fz} {g : Gh} {s s' : St} {a : Act} {w : World} (h : Sim w0 M0 F0 F g s a w) (k : Le s s') : Sim w0 M0 F0 F g s' a w where
  sz := by rw [k.n]; exact h.sz
  df := h.df
  sl := fun i => by
    rcases k.sl i with e | ⟨e, hi⟩
    · rw [e]; simp only [RepAV]
    · rw [e] at hi ⊢
      exact inV_rep (fun l B hl => (k.lb l B hl).1) hi (h.sl i)
  gh := by rw [k.gh.1]; exact inVs_rep (fun l B hl => (k.lb l B hl).1) k.gh.2 h.gh
  lb := fun l B hl => by
    obtain ⟨h1, h2⟩ := k.lb l B hl
    have hb := h.lb l B h1
    have hs := fun l B hl => (k.lb l B hl).1
    cases B with
    | var cells => obtain ⟨cs, e, k1, k2, k3⟩ := hb; exact ⟨cs, e, k1, inCs_rep hs h2 k2, k3⟩
    | arr e sz rows fz =>
      obtain ⟨k1, k2, xs, S, k3, k4, k5⟩ := hb
      refine ⟨k1, k2, xs, S, k3, inCells_rep hs (fun a ha => ?_) k4, k5⟩
      obtain ⟨r, hr, har⟩ := List.mem_flatten.1 ha
      exact h2 r hr a har
    | tok x => exact hb
    | dead => trivial
  so := fun l B hl => h.so l B (k.lb l B hl).1
  nd := fun l B hl => h.nd l B (k.lb l B hl).1
  dj := fun l l' B B' hne hl hl' => h.dj l l' B B' hne (k.lb l B hl).1 (k.lb l' B' hl').1
  nw := fun l B hl => h.nw l B (k.lb l B hl).1
  f0 := h.f0
  f1 := h.f1
  f2 := h.f2
  os := h.os
  tape := h.tape
  output := h.output
  size := h.size
  block := h.block

/-- What may be forgotten of a state, or told in another way. -/
def Wk (s s' : St) : Prop := ∀ w0 M0 F0 a w, SimE w0 M0 F0 s a w → SimE w0 M0 F0 s' a w
theorem Le.wk {s s' : St} (k : Le s s') : Wk s s' := fun _ _ _ _ _ ⟨F, g, hs⟩ => ⟨F, g, hs.le k⟩
theorem Wk.refl (s : St) : Wk s s := fun _ _ _ _ _ h => h
theorem Wk.trans {s s' s'' : St} (h : Wk s s') (k : Wk s' s'') : Wk s s'' := fun w0 M0 F0 a w hs => k w0 M0 F0 a w (h w0 M0 F0 a w hs)
theorem AWP.wk {c : Code} {Q : Exit → St → Prop} {s s' : St} (k : Wk s s') (h : AWP P c Q s') : AWP P c Q s :=
  fun w0 M0 F0 a w hs => h w0 M0 F0 a w (k w0 M0 F0 a w hs)
theorem AWP.le {c : Code} {Q : Exit → St → Prop} {s s' : St} (k : Le s s') (h : AWP P c Q s') : AWP P c Q s :=
  fun w0 M0 F0 a w ⟨F, g, hs⟩ => h w0 M0 F0 a w ⟨F, g, hs.le k⟩

/-- A loop, by a family of states, and a measure. -/
theorem loop_rule {ι : Type} {c : Code} {Q : Exit → St → Prop} {s : St} (S : ι → St) (μ : ι → Nat) (i0 : ι) (h0 : Wk s (S i0)) (round : ∀ i, AWP P c (thenA (fun s' => ∃ j, Wk s' (S j) ∧ μ j < μ i) Q) (S i)) : loopA P c Q s := by
  intro w0 M0 F0 a w hs
  have key : ∀ m i a w, μ i < m → SimE w0 M0 F0 (S i) a w → Code.rounds P c (fun e a' w' => ∃ s', Q e s' ∧ SimE w0 M0 F0 s' a' w') m a w := by
    intro m
    induction m with
    | zero => intro i a w h; omega
    | succ m ih =>
      intro i a w hi hs
      rw [rounds_succ]
      refine wp_mono (round i w0 M0 F0 a w hs) ?_
      rintro e a' w' ⟨s', hq, hs'⟩
      cases e with
      | normal =>
        obtain ⟨j, hle, hlt⟩ := hq
        exact ih j a' w' (by omega) (hle _ _ _ _ _ hs')
      | _ => exact ⟨s', hq, hs'⟩
  exact wp_loop_rounds (μ i0 + 1) (key _ i0 a w (by omega) (h0 _ _ _ _ _ hs))

end Go.Ai
