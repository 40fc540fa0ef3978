/- A function's code, run by the abstract machine: what is to be shown of it, as a proposition on abstract states. -/
import Derived.Test.YtmddjojbaompiaaGreatAiRegion
import Derived.Tactics
import Derived.Scope
import Derived.LoopN
set_option linter.unusedVariables false
set_option linter.unusedSimpArgs false
namespace Go.Ai
open Go.RowKit
variable {P : Program} {tab : Tab}
def isV : AC → Bool
 | .c _ => true
 | .d _ => true
 | .nil => true
 | .e1 => true
 | .e0 => true
 | _ => false
def vC (lb : Lk) : AC → C
 | .c x => x
 | .nil => .sl []
 | .e1 => .sl []
 | .e0 => .sl []
 | .own l _ => match lb l with
  | some (.arr _ _ rows _) => .sl (rows.map fun r => r.map toC)
  | _ => .sl []
 | .tk k i => match lb k with
  | some (.tok xs) => (match xs[i]? with
   | some (some x) => x
   | _ => .v (.bool false))
  | _ => .v (.bool false)
 | _ => .v (.bool false)
def okC (lb : Lk) : AC → Prop
 | .c _ => True
 | .nil => True
 | .e1 => True
 | .e0 => True
 | .own l n => match lb l with
  | some (.arr _ _ rows _) => n = rows.length ∧ ∀ r, r ∈ rows → ∀ a, a ∈ r → isV a = true
  | _ => False
 | _ => False
def vCs (lb : Lk) : List AC → List AC
 | [] => []
 | a :: as => .c (vC lb a) :: vCs lb as
def okCs (lb : Lk) : List AC → Prop
 | [] => True
 | a :: as => okC lb a ∧ okCs lb as
def vAV (lb : Lk) : AV → AV
 | .one a => .one (.c (vC lb a))
 | .agg as => .agg (vCs lb as)
 | v => v
def okAV (lb : Lk) : AV → Prop
 | .one a => okC lb a
 | .agg as => okCs lb as
 | _ => False
def vAVs (lb : Lk) : List AV → List AV
 | [] => []
 | a :: as => vAV lb a :: vAVs lb as
def okAVs (lb : Lk) : List AV → Prop
 | [] => True
 | a :: as => okAV lb a ∧ okAVs lb as
theorem vCs_c (lb : Lk) (cs : List C) : vCs lb (cs.map .c) = cs.map .c := by
 induction cs with
 | nil => rfl
 | cons c cs ih => simp only [List.map_cons, vCs, vC, ih]
theorem okCs_c (lb : Lk) (cs : List C) : okCs lb (cs.map .c) := by
 induction cs with
 | nil => trivial
 | cons c cs ih => exact ⟨trivial, ih⟩
theorem isV_unN {a : AC} (h : isV a = true) : unN a = .c (toC a) := by cases a <;> simp_all [isV, unN, toC]
theorem viewC_ok {lb : Lk} {a : AC} (h : okC lb a) : ViewC lb a (vC lb a) := by
 cases a <;> simp only [okC] at h <;> simp only [ViewC, vC]
 case own l n =>
  split at h
  ·rename_i e sz rows fz hl
   refine ⟨e, sz, rows, fz, rows.map fun r => r.map toC, hl, h.1, ?_, rfl⟩
   rw [List.map_map]
   refine List.map_congr_left (fun r hr => ?_)
   simp only [Function.comp, List.map_map]
   exact List.map_congr_left (fun a ha => isV_unN (h.2 r hr a ha))
  ·exact h.elim
 all_goals exact h.elim
theorem viewCs_ok {lb : Lk} : ∀ {as : List AC}, okCs lb as → ViewCs lb as (vCs lb as)
 | [], _ => rfl
 | _ :: _, h => ⟨_, _, rfl, viewC_ok h.1, viewCs_ok h.2⟩
theorem viewAV_ok {lb : Lk} {v : AV} (h : okAV lb v) : ViewAV lb v (vAV lb v) := by
 cases v with
 | one a => exact ⟨_, rfl, viewC_ok h⟩
 | agg as => exact ⟨_, rfl, viewCs_ok h⟩
 | tup vs => exact h.elim
 | any => exact h.elim
theorem viewAVs_ok {lb : Lk} : ∀ {vs : List AV}, okAVs lb vs → ViewAVs lb vs (vAVs lb vs)
 | [], _ => rfl
 | _ :: _, h => ⟨_, _, rfl, viewAV_ok h.1, viewAVs_ok h.2⟩
def okB (lb : Lk) : AC → Prop
 | .tk k i => match lb k with
  | some (.tok xs) => (match xs[i]? with
   | some (some _) => True
   | _ => False)
  | _ => False
 | a => okC lb a
def okBs (lb : Lk) : List AC → Prop
 | [] => True
 | a :: as => okB lb a ∧ okBs lb as
def okBV (lb : Lk) : AV → Prop
 | .one a => okB lb a
 | .agg as => okBs lb as
 | _ => False
def okBVs (lb : Lk) : List AV → Prop
 | [] => True
 | a :: as => okBV lb a ∧ okBVs lb as
def noTk : AC → Prop
 | .tk _ _ => False
 | _ => True
def noTks : List AC → Prop
 | [] => True
 | a :: as => noTk a ∧ noTks as
def noTkV : AV → Prop
 | .one a => noTk a
 | .agg as => noTks as
 | _ => True
def noTkVs : List AV → Prop
 | [] => True
 | a :: as => noTkV a ∧ noTkVs as
theorem okBs_c (lb : Lk) (cs : List C) : okBs lb (cs.map .c) := by
 induction cs with
 | nil => trivial
 | cons c cs ih => exact ⟨trivial, ih⟩
theorem noTks_c (cs : List C) : noTks (cs.map .c) := by
 induction cs with
 | nil => trivial
 | cons c cs ih => exact ⟨trivial, ih⟩
theorem viewB_ok {lb : Lk} {a : AC} (h : okB lb a) : ViewB lb a (vC lb a) := by
 cases a
 case tk k i =>
  simp only [okB] at h
  split at h
  ·rename_i xs hl
   split at h
   ·rename_i x hx
    refine ⟨xs, hl, ?_⟩
    simp only [vC, hl, hx]
   ·exact h.elim
  ·exact h.elim
 all_goals first | exact False.elim h | exact viewC_ok (a := .c _) h | exact viewC_ok (a := .nil) h | exact viewC_ok (a := .e1) h | exact viewC_ok (a := .e0) h | exact viewC_ok (a := .own _ _) h
theorem viewBs_ok {lb : Lk} : ∀ {as : List AC}, okBs lb as → ViewBs lb as (vCs lb as)
 | [], _ => rfl
 | _ :: _, h => ⟨_, _, rfl, viewB_ok h.1, viewBs_ok h.2⟩
theorem viewBV_ok {lb : Lk} {v : AV} (h : okBV lb v) : ViewBV lb v (vAV lb v) := by
 cases v with
 | one a => exact ⟨_, rfl, viewB_ok h⟩
 | agg as => exact ⟨_, rfl, viewBs_ok h⟩
 | tup vs => exact h.elim
 | any => exact h.elim
theorem viewBVs_ok {lb : Lk} : ∀ {vs : List AV}, okBVs lb vs → ViewBVs lb vs (vAVs lb vs)
 | [], _ => rfl
 | _ :: _, h => ⟨_, _, rfl, viewBV_ok h.1, viewBVs_ok h.2⟩
theorem okB_noTk {lb : Lk} {a : AC} (h : okB lb a) (n : noTk a) : okC lb a := by
 cases a
 case tk k i => exact n.elim
 all_goals exact h
theorem okBs_noTk {lb : Lk} : ∀ {as : List AC}, okBs lb as → noTks as → okCs lb as
 | [], _, _ => trivial
 | _ :: _, h, n => ⟨okB_noTk h.1 n.1, okBs_noTk h.2 n.2⟩
theorem okBV_noTk {lb : Lk} {v : AV} (h : okBV lb v) (n : noTkV v) : okAV lb v := by
 cases v with
 | one a => exact okB_noTk h n
 | agg as => exact okBs_noTk h n
 | tup vs => exact h.elim
 | any => exact h.elim
theorem okBVs_noTk {lb : Lk} : ∀ {vs : List AV}, okBVs lb vs → noTkVs vs → okAVs lb vs
 | [], _, _ => trivial
 | _ :: _, h, n => ⟨okBV_noTk h.1 n.1, okBVs_noTk h.2 n.2⟩
def isCs : List AC → Prop
 | [] => True
 | .c _ :: as => isCs as
 | _ => False
def cOfs : List AC → List C
 | [] => []
 | .c x :: as => x :: cOfs as
 | _ :: as => .v (.bool false) :: cOfs as
theorem isCs_map : ∀ {as : List AC}, isCs as → as = (cOfs as).map .c
 | [], _ => rfl
 | .c x :: as, h => by simp only [cOfs, List.map_cons]; rw [← isCs_map (as := as) h]
def vK (lb : Lk) : AC → AC
 | .ptr l _ => (match lb l with
  | some (.var cells) => .ip (cOfs cells)
  | _ => .any)
 | a => a
def okK (lb : Lk) : AC → Prop
 | .ptr l off => (match lb l with
  | some (.var cells) => off = 0 ∧ isCs cells
  | _ => False)
 | .ip _ => True
 | _ => False
def vKs (lb : Lk) : List AC → List AC
 | [] => []
 | a :: as => vK lb a :: vKs lb as
def okKs (lb : Lk) : List AC → Prop
 | [] => True
 | a :: as => okK lb a ∧ okKs lb as
def isClo : AV → Bool
 | .one (.clo _ _) => true
 | _ => false
def hasClo : List AV → Bool
 | [] => false
 | v :: vs => isClo v || hasClo vs
def vKV (lb : Lk) : AV → AV
 | .one (.clo f caps) => .one (.clo f (vKs lb caps))
 | v => vAV lb v
def okKV (lb : Lk) : AV → Prop
 | .one (.clo _ caps) => okKs lb caps
 | v => okBV lb v
def vKVs (lb : Lk) : List AV → List AV
 | [] => []
 | v :: vs => vKV lb v :: vKVs lb vs
def okKVs (lb : Lk) : List AV → Prop
 | [] => True
 | v :: vs => okKV lb v ∧ okKVs lb vs
theorem viewK_ok {lb : Lk} {a : AC} (h : okK lb a) : ViewK lb a (vK lb a) := by
 cases a <;> simp only [okK] at h
 case ptr l off =>
  split at h
  ·rename_i cells hl
   obtain ⟨rfl, h⟩ := h
   refine ⟨rfl, cOfs cells, ?_, ?_⟩
   ·rw [← isCs_map h]; exact hl
   ·simp only [vK, hl]
  ·exact h.elim
 case ip cs => rfl
theorem viewKs_ok {lb : Lk} : ∀ {as : List AC}, okKs lb as → ViewKs lb as (vKs lb as)
 | [], _ => rfl
 | _ :: _, h => ⟨_, _, rfl, viewK_ok h.1, viewKs_ok h.2⟩
theorem viewKVs_ok {lb : Lk} : ∀ {vs : List AV}, okKVs lb vs → ViewKVs lb vs (vKVs lb vs)
 | [], _ => rfl
 | v :: vs, h => by
  refine ⟨_, _, rfl, ?_, viewKVs_ok h.2⟩
  have h1 := h.1
  unfold okKV at h1
  split at h1
  ·rename_i f caps
   exact .inl ⟨f, caps, _, rfl, rfl, viewKs_ok h1⟩
  ·rename_i hn
   have : vKV lb v = vAV lb v := by
    unfold vKV
    split
    ·rename_i f caps; exact absurd rfl (hn f caps)
    ·rfl
   rw [this]
   exact .inr (viewBV_ok h1)
def isPtr : AV → Bool
 | .one (.ptr _ _) => true
 | _ => false
def hasPtr : List AV → Bool
 | [] => false
 | v :: vs => isPtr v || hasPtr vs
def ptrAt : List AV → Nat
 | [] => 0
 | v :: vs => if isPtr v = true then 0 else ptrAt vs + 1
def dOk (d : Option Tmp) (s : St) : Prop :=
 match d with
 | none => True
 | some t => t < s.n
theorem dOk_iff {d : Option Tmp} {s : St} (h : dOk d s) : ∀ t, d = some t → t < s.n := by
 intro t ht; subst ht; exact h
def effOk : Eff → Option Tmp → St → Prop
 | .new _ _, some t, s => t < s.n ∧ s.lb t = none
 | .new _ _, none, _ => False
 | .val _, d, s => dOk d s
 | .upd _ _ _, d, s => dOk d s
theorem effOk_ok {e : Eff} {d : Option Tmp} {s : St} (h : effOk e d s) : e.ok d s := by
 cases e with
 | val v => exact dOk_iff h
 | new v B =>
  cases d with
  | none => exact h.elim
  | some t => exact ⟨t, rfl, h.1, h.2⟩
 | upd v l B => exact dOk_iff h
def conAK (lb : Lk) (ρ : Nat → Nat) (m : Nat) (ls : List Nat) : List AV → List AV → Prop
 | [], [] => True
 | v :: vs, d :: ds => (if refV d = true then v = d.ren1 ρ ∧ okA1 m d = true else (okAV lb v ∧ vAV lb v = d) ∧ noneOf ls v.owns = true) ∧ conAK lb ρ m ls vs ds
 | _, _ => False
theorem conA_ok {lb : Lk} {ρ : Nat → Nat} {m : Nat} {ls : List Nat} : ∀ {vs ds : List AV}, conAK lb ρ m ls vs ds → conA (ViewAV lb) ρ m ls vs ds
 | [], [], _ => trivial
 | v :: vs, d :: ds, h => by
  simp only [conAK] at h
  simp only [conA]
  refine ⟨?_, conA_ok h.2⟩
  have h1 := h.1
  split at h1
  ·rename_i e; rw [if_pos e]; exact h1
  ·rename_i e; rw [if_neg e]; exact ⟨by rw [← h1.1.2]; exact viewAV_ok h1.1.1, h1.2⟩
 | [], _ :: _, h => h.elim
 | _ :: _, [], h => h.elim
def conK (vs args : List AV) (Bs Bs' : List LB) (ls ns : List Nat) (s : St) : Prop :=
 (ls ++ ns).Nodup ∧ conB s.lb (idx (ls ++ ns)) ls Bs ∧ conAK s.lb (idx (ls ++ ns)) Bs.length ls vs args ∧ freshX s ns ∧ (ls ++ ns).length = Bs'.length
def SemC (P : Program) (tab : Tab) (fid : FuncId) (nt : Prop) (ds vs : List AV) (d : Option Tmp) (s s' : St) : Prop := ∀ (o : Oper) (args : Array Operand) (ts : Array TypeId) (f : Operand), o.op = .call ⟨.value f, args, ts⟩ → fnOf (opv s f) = some fid → args.toList.map (opv s) = vs → o.dst = d → (∀ t, d = some t → t < s.n) →
 ViewBVs s.lb vs ds → (nt → ViewAVs s.lb vs ds) → ActsW P tab o s s'
def SemP (P : Program) (tab : Tab) (fid : FuncId) (ds1 ds2 vs : List AV) (d : Option Tmp) (s s' : St) : Prop := ∀ (o : Oper) (args : Array Operand) (ts : Array TypeId) (f : Operand), o.op = .call ⟨.value f, args, ts⟩ → fnOf (opv s f) = some fid → args.toList.map (opv s) = vs → o.dst = d → (∀ t, d = some t → t < s.n) →
 ViewAVs s.lb (vs.take (ptrAt vs)) ds1 → ViewAVs s.lb (vs.drop (ptrAt vs + 1)) ds2 → ActsW P tab o s s'
def callG (P : Program) (tab : Tab) (x : Bool) (fid : FuncId) (nt : Prop) (ds vs : List AV) (d : Option Tmp) (s : St) (k : St → Prop) : Prop :=
 (∃ r, Sat P fid ds r ∧ nt ∧ k ((s.frzs (vs.flatMap AV.owns)).set d r)) ∨
 (∃ r, Sat P fid ds r ∧ plainR r = true ∧ k (s.set d r)) ∨
 (∃ r t, SatF P fid ds r ∧ d = some t ∧ s.lb t = none ∧ k ((s.put t (.tok (flR r))).set d (tkR t r))) ∨
 (nt ∧ vs.flatMap AV.owns = [] ∧ ∃ e sz rows r t, SatO P fid ds e sz rows r ∧ d = some t ∧ s.lb t = none ∧ k ((s.put t (.arr e sz rows false)).set d (renV t r))) ∨
 (∃ e sz rows n t, SatO P fid ds e sz rows (.one (.own 0 n)) ∧ plainRows rows = true ∧ d = some t ∧ s.lb t = none ∧ k ((s.put t (.arr e sz rows false)).set d (.one (.own t n)))) ∨
 (nt ∧ vs.flatMap AV.owns = [] ∧ ∃ cells t, SatN P fid ds cells ∧ d = some t ∧ s.lb t = none ∧ k ((s.put t (.var cells)).set d (.one (.ptr t 0)))) ∨
 (x = true ∧ ∃ s', SemC P tab fid nt ds vs d s s' ∧ k s')
def callP (P : Program) (tab : Tab) (x : Bool) (fid : FuncId) (ds1 ds2 vs : List AV) (d : Option Tmp) (s : St) (k : St → Prop) : Prop :=
 x = true ∧ ∃ s', SemP P tab fid ds1 ds2 vs d s s' ∧ k s'
def callK (P : Program) (tab : Tab) (x : Bool) (s : St) (d : Option Tmp) (f : Operand) (args : List Operand) (k : St → Prop) : Prop :=
 match fnOf (opv s f) with
 | none => (match opv s f with
  | .one (.clo fid caps) => x = true ∧ okBVs s.lb (args.map (opv s)) ∧ dOk d s ∧ allIp caps ∧ ∃ r, Sat P fid (vAVs s.lb (args.map (opv s)) ++ caps.map .one) r ∧ plainR r = true ∧ k (s.set d r)
  | _ => False)
 | some fid => if hasPtr (args.map (opv s)) = true then okAVs s.lb ((args.map (opv s)).take (ptrAt (args.map (opv s)))) ∧ okAVs s.lb ((args.map (opv s)).drop (ptrAt (args.map (opv s)) + 1)) ∧ dOk d s ∧ callP P tab x fid (vAVs s.lb ((args.map (opv s)).take (ptrAt (args.map (opv s))))) (vAVs s.lb ((args.map (opv s)).drop (ptrAt (args.map (opv s)) + 1))) (args.map (opv s)) d s k
  else if hasClo (args.map (opv s)) = true then x = true ∧ okKVs s.lb (args.map (opv s)) ∧ dOk d s ∧ ∃ r, Sat P fid (vKVs s.lb (args.map (opv s))) r ∧ plainR r = true ∧ k (s.set d r)
  else okBVs s.lb (args.map (opv s)) ∧ dOk d s ∧ callG P tab x fid (noTkVs (args.map (opv s))) (vAVs s.lb (args.map (opv s))) (args.map (opv s)) d s k
def outK (tab : Tab) (o : Oper) (s : St) (k : St → Prop) : Prop :=
 match outF tab o s with
 | some (p, e) => p ∧ effOk e o.dst s ∧ (p → k (e.app o.dst s))
 | none => False
def absK (tab : Tab) (o : Oper) (s : St) (k : St → Prop) : Prop :=
 match absO tab o s with
 | some (p, s') => p ∧ dOk o.dst s ∧ (p → k s')
 | none => False
def appK (tab : Tab) (x : Bool) (o : Oper) (s : St) (k : St → Prop) : Prop :=
 match outF tab o s with
 | some (p, e) => p ∧ effOk e o.dst s ∧ (p → k (e.app o.dst s))
 | none => x = true ∧ absK tab o s k
def actK (P : Program) (tab : Tab) (x : Bool) (o : Oper) (s : St) (k : St → Prop) : Prop :=
 match o.op with
 | .call ⟨.value f, args, _⟩ => callK P tab x s o.dst f args.toList k
 | .call ⟨.builtin .append, _, _⟩ => appK tab x o s k
 | _ => outK tab o s k
def wantK (ops : Array Oper) (o : Oper) (s : St) (k : Bool → Prop) : Prop :=
 match o.guard with
 | none => k true
 | some (j, wnt) => match (ops[j]?).bind (·.dst) with
  | none => False
  | some d => match s.sl d with
   | .one (.c (.v (.bool x))) => (x = wnt → k true) ∧ (x = (!wnt) → k false)
   | .tup [] => k false
   | _ => False
def regK (P : Program) (tab : Tab) (x : Bool) (ops : Array Oper) : List Oper → St → (St → Prop) → Prop
 | [], s, k => k s
 | o :: os, s, k => wantK ops o s fun b => if b = true then actK P tab x o s (fun s' => regK P tab x ops os s' k) else dOk o.dst s ∧ regK P tab x ops os (s.set o.dst (.tup [])) k
theorem outK_step {o : Oper} {s : St} {k : St → Prop} (h : outK tab o s k) : ∃ s', ActsOut tab o s s' ∧ k s' := by
 unfold outK at h
 split at h
 ·rename_i p e ho
  exact ⟨_, ⟨p, e, ho, h.1, effOk_ok h.2.1, rfl⟩, h.2.2 h.1⟩
 ·exact h.elim
def ActX (P : Program) (tab : Tab) (x : Bool) (o : Oper) (s s' : St) : Prop := Acts P tab o s s' ∨ (x = true ∧ ActsW P tab o s s')
theorem actK_step {x : Bool} {o : Oper} {s : St} {k : St → Prop} (h : actK P tab x o s k) : ∃ s', ActX P tab x o s s' ∧ k s' := by
 unfold actK at h
 split at h
 ·rename_i f args ts hop
  unfold callK at h
  split at h
  ·rename_i hf0
   split at h
   ·rename_i fid caps hv
    obtain ⟨hx, h1, h2, h3, r, k1, k2, k3⟩ := h
    exact ⟨_, .inr ⟨hx, isCallV_of hop, fun _ w0 M0 F0 F g a w hs K Q hK => actsK_sound hs ⟨⟨.value f, args, ts⟩, f, fid, caps, _, r, hop, rfl, hv, dOk_iff h2, viewBVs_ok h1, h3, k1, k2, rfl⟩ hK⟩, k3⟩
   ·exact h.elim
  ·rename_i fid hf
   split at h
   ·obtain ⟨o1, o2, h2, hx, s', k1, k2⟩ := h
    exact ⟨s', .inr ⟨hx, k1 o args ts f hop hf rfl rfl (dOk_iff h2) (viewAVs_ok o1) (viewAVs_ok o2)⟩, k2⟩
   split at h
   ·obtain ⟨hx, h1, h2, r, k1, k2, k3⟩ := h
    exact ⟨_, .inr ⟨hx, isCallV_of hop, fun _ w0 M0 F0 F g a w hs K Q hK => actsC_sound hs ⟨⟨.value f, args, ts⟩, f, fid, _, r, hop, rfl, hf, dOk_iff h2, viewKVs_ok h1, k1, k2, rfl⟩ hK⟩, k3⟩
   obtain ⟨h1, h2, h3⟩ := h
   have by_ : ∀ s', CallBy P fid (args.toList.map (opv s)) o.dst s s' → ActX P tab x o s s' := fun s' hb => .inl (.inr ⟨⟨.value f, args, ts⟩, f, fid, hop, rfl, hf, dOk_iff h2, hb⟩)
   rcases h3 with ⟨r, k1, k2, k3⟩ | ⟨r, k1, k2, k3⟩ | ⟨r, t, k1, k2, k3, k4⟩ | ⟨hnt, hno, e, sz, rows, r, t, k1, k2, k3, k4⟩ | ⟨e, sz, rows, n, t, k1, k2, k3, k4, k5⟩ | ⟨hnt, hno, cells, t, k1, k2, k3, k4⟩ | ⟨hx, s', k1, k2⟩
   ·exact ⟨_, by_ _ (.inl ⟨_, r, viewAVs_ok (okBVs_noTk h1 k2), k1, rfl⟩), k3⟩
   ·exact ⟨_, by_ _ (.inr (.inl ⟨_, r, viewBVs_ok h1, k1, k2, rfl⟩)), k3⟩
   ·exact ⟨_, by_ _ (.inr (.inr (.inl ⟨_, r, t, viewBVs_ok h1, k1, k2, k3, rfl⟩))), k4⟩
   ·exact ⟨_, by_ _ (.inr (.inr (.inr (.inl ⟨_, e, sz, rows, r, t, viewAVs_ok (okBVs_noTk h1 hnt), hno, k1, k2, k3, rfl⟩)))), k4⟩
   ·exact ⟨_, by_ _ (.inr (.inr (.inr (.inr (.inl ⟨_, e, sz, rows, n, t, viewBVs_ok h1, k1, k2, k3, k4, rfl⟩))))), k5⟩
   ·exact ⟨_, by_ _ (.inr (.inr (.inr (.inr (.inr ⟨_, cells, t, viewAVs_ok (okBVs_noTk h1 hnt), hno, k1, k2, k3, rfl⟩))))), k4⟩
   ·exact ⟨s', .inr ⟨hx, k1 o args ts f hop hf rfl rfl (dOk_iff h2) (viewBVs_ok h1) (fun hnt => viewAVs_ok (okBVs_noTk h1 hnt))⟩, k2⟩
 ·unfold appK at h
  split at h
  ·rename_i p e ho
   exact ⟨_, .inl (.inl ⟨p, e, ho, h.1, effOk_ok h.2.1, rfl⟩), h.2.2 h.1⟩
  ·obtain ⟨hx, h⟩ := h
   unfold absK at h
   split at h
   ·rename_i p s' ho
    exact ⟨s', .inr ⟨hx, ActsB.toW ⟨p, ho, h.1, dOk_iff h.2.1⟩⟩, h.2.2 h.1⟩
   ·exact h.elim
 ·obtain ⟨s', h1, h2⟩ := outK_step h
  exact ⟨s', .inl (.inl h1), h2⟩
theorem wantK_step {ops : Array Oper} {o : Oper} {s : St} {k : Bool → Prop} (h : wantK ops o s k) : ∃ b, Want ops o s b ∧ k b := by
 unfold wantK at h
 unfold Want
 split at h
 ·rename_i hg; exact ⟨true, by rw [hg], h⟩
 ·rename_i j wnt hg
  rw [hg]
  simp only
  split at h
  ·exact h.elim
  ·rename_i d hd
   split at h
   ·rename_i x hx
    by_cases e : x = wnt
    ·exact ⟨true, ⟨d, hd, .inl ⟨x, hx, by simp [e]⟩⟩, h.1 e⟩
    ·have e' : x = !wnt := by cases x <;> cases wnt <;> first | rfl | exact absurd rfl e
     exact ⟨false, ⟨d, hd, .inl ⟨x, hx, by cases x <;> cases wnt <;> first | rfl | exact absurd rfl e⟩⟩, h.2 e'⟩
   ·rename_i hx
    exact ⟨false, ⟨d, hd, .inr ⟨hx, rfl⟩⟩, h⟩
   ·exact h.elim
theorem regK_steps {x : Bool} {ops : Array Oper} : ∀ {l : List Oper} {s : St} {k : St → Prop}, regK P tab x ops l s k → ∃ s', StepsL P tab x ops l s s' ∧ k s'
 | [], s, _, h => ⟨s, rfl, h⟩
 | o :: os, s, k, h => by
  obtain ⟨b, hw, h⟩ := wantK_step h
  cases b with
  | true =>
   simp only [if_true] at h
   obtain ⟨s1, h1, h2⟩ := actK_step h
   obtain ⟨s2, h3, h4⟩ := regK_steps h2
   refine ⟨s2, ⟨s1, ?_, h3⟩, h4⟩
   rcases h1 with h1 | ⟨hx, h1⟩
   ·exact .inl (.inl ⟨hw, h1⟩)
   ·exact .inr ⟨hx, hw, h1⟩
  | false =>
   simp only [Bool.false_eq_true, if_false] at h
   obtain ⟨s2, h3, h4⟩ := regK_steps h.2
   exact ⟨s2, ⟨_, .inl (.inr ⟨hw, dOk_iff h.1, rfl⟩), h3⟩, h4⟩
def AWP (P : Program) (c : Code) (Q : Exit → St → Prop) (s : St) : Prop :=
 ∀ w0 M0 F0 a w, SimE w0 M0 F0 s a w → c.wp P (fun e a' w' => ∃ s', Q e s' ∧ SimE w0 M0 F0 s' a' w') a w
def thenA (k : St → Prop) (Q : Exit → St → Prop) : Exit → St → Prop
 | .normal, s => k s
 | e, s => Q e s
def blockA (id : Nat) (Q : Exit → St → Prop) : Exit → St → Prop
 | .exit id', s => if id' = id then Q .normal s else Q (.exit id') s
 | e, s => Q e s
def scopeA (Q : Exit → St → Prop) : Exit → St → Prop
 | .goto _, _ => False
 | e, s => Q e s
def loopA (P : Program) (c : Code) (Q : Exit → St → Prop) (s : St) : Prop := AWP P (.loop c) Q s
def codeK (P : Program) (tab : Tab) : Code → (Exit → St → Prop) → St → Prop
 | .skip, Q, s => Q .normal s
 | .region _ ops draw, Q, s => regK P tab (!draw || fixedOk ops) ops ops.toList s (Q .normal)
 | .seq a b, Q, s => codeK P tab a (thenA (codeK P tab b Q) Q) s
 | .cond c a b, Q, s => match opv s c with
  | .one (.c (.v (.bool t))) => (t = true → codeK P tab a Q s) ∧ (t = false → codeK P tab b Q s)
  | _ => False
 | .block id c, Q, s => codeK P tab c (blockA id Q) s
 | .exit id, Q, s => Q (.exit id) s
 | .ret, Q, s => Q .ret s
 | .scope c, Q, s => codeK P tab c (scopeA Q) s
 | .loop c, Q, s => loopA P c Q s
 | _, _, _ => False
def okCode : Code → Bool
 | .region _ ops draw => !draw || regOk ops
 | .seq a b => okCode a && okCode b
 | .cond _ a b => okCode a && okCode b
 | .block _ c => okCode c
 | .scope c => okCode c
 | .loop c => okCode c
 | _ => true
theorem codeK_sound (hT : TabOk P tab) (hm : P.follows .mixedOrders = true) : ∀ (c : Code) (Q : Exit → St → Prop) (s : St), okCode c = true → codeK P tab c Q s → AWP P c Q s
 | .skip, Q, s, _, h => fun w0 M0 F0 a w hs => wp_skip ⟨s, h, hs⟩
 | .exit id, Q, s, _, h => fun w0 M0 F0 a w hs => wp_exit ⟨s, h, hs⟩
 | .ret, Q, s, _, h => fun w0 M0 F0 a w hs => wp_ret ⟨s, h, hs⟩
 | .region id ops draw, Q, s, hok, h => fun w0 M0 F0 a w hs => by
  obtain ⟨s', h1, h2⟩ := regK_steps h
  refine region_sound hT hm ?_ h1 hs (fun a' w' hs' => ⟨s', h2, hs'⟩)
  intro hd
  subst hd
  simpa [okCode] using hok
 | .seq x y, Q, s, hok, h => fun w0 M0 F0 a w hs => by
  simp only [okCode, Bool.and_eq_true] at hok
  refine wp_seq (wp_mono (codeK_sound hT hm x _ s hok.1 h w0 M0 F0 a w hs) ?_)
  rintro e a' w' ⟨s', hq, hs'⟩
  cases e with
  | normal => exact codeK_sound hT hm y Q s' hok.2 hq w0 M0 F0 a' w' hs'
  | _ => exact ⟨s', hq, hs'⟩
 | .cond c x y, Q, s, hok, h => fun w0 M0 F0 a w hs => by
  simp only [okCode, Bool.and_eq_true] at hok
  simp only [codeK] at h
  split at h
  ·rename_i t ht
   obtain ⟨F, g, hsim⟩ := hs
   have hc := opv_sound hsim c
   rw [ht] at hc
   have hc := hc.c_v
   cases t with
   | true => exact wp_cond_true hc (codeK_sound hT hm x Q s hok.1 (h.1 rfl) w0 M0 F0 a w ⟨F, g, hsim⟩)
   | false => exact wp_cond_false hc (codeK_sound hT hm y Q s hok.2 (h.2 rfl) w0 M0 F0 a w ⟨F, g, hsim⟩)
  ·exact h.elim
 | .block id c, Q, s, hok, h => fun w0 M0 F0 a w hs => by
  refine wp_block (wp_mono (codeK_sound hT hm c _ s hok h w0 M0 F0 a w hs) ?_)
  rintro e a' w' ⟨s', hq, hs'⟩
  cases e with
  | exit id' =>
   simp only [blockA] at hq
   simp only [Exit.inBlock]
   split
   ·rename_i e; rw [if_pos e] at hq; exact ⟨s', hq, hs'⟩
   ·rename_i e; rw [if_neg e] at hq; exact ⟨s', hq, hs'⟩
  | _ => exact ⟨s', hq, hs'⟩
 | .scope c, Q, s, hok, h => fun w0 M0 F0 a w hs => by
  refine wp_scope_straight (wp_mono (codeK_sound hT hm c _ s hok h w0 M0 F0 a w hs) ?_)
  rintro e a' w' ⟨s', hq, hs'⟩
  cases e with
  | goto l => exact hq.elim
  | _ => exact ⟨s', hq, hs'⟩
 | .loop c, Q, s, _, h => h
 | .rangeFunc .., _, _, _, h => h.elim
 | .label _, _, _, _, h => h.elim
 | .goto _, _, _, _, h => h.elim
 | .refuse _, _, _, _, h => h.elim
theorem AWP.mono {c : Code} {Q Q' : Exit → St → Prop} {s : St} (h : AWP P c Q s) (hq : ∀ e s, Q e s → Q' e s) : AWP P c Q' s :=
 fun w0 M0 F0 a w hs => wp_mono (h w0 M0 F0 a w hs) (fun _ _ _ ⟨s', k, hs'⟩ => ⟨s', hq _ _ k, hs'⟩)
def inC (lb : Lk) : AC → Prop
 | .own l _ => lb l ≠ none
 | .ptr l _ => lb l ≠ none
 | .ep l _ _ _ => lb l ≠ none
 | .tk l _ => lb l ≠ none
 | .clo _ caps => allIp caps
 | _ => True
def inB (lb : Lk) : LB → Prop
 | .var cells => ∀ a, a ∈ cells → inC lb a
 | .arr _ _ rows _ => ∀ r, r ∈ rows → ∀ a, a ∈ r → inC lb a
 | _ => True
def inV (lb : Lk) : AV → Prop
 | .one a => inC lb a
 | .agg as => ∀ a, a ∈ as → inC lb a
 | .tup [] => True
 | .tup _ => False
 | .any => True
structure Le (s s' : St) : Prop where
 n : s'.n = s.n
 sl : ∀ t, s'.sl t = .any ∨ (s'.sl t = s.sl t ∧ inV s'.lb (s'.sl t))
 lb : ∀ l B, s'.lb l = some B → s.lb l = some B ∧ inB s'.lb B
 gh : s'.gh = s.gh ∧ ∀ v, v ∈ s.gh → inV s'.lb v
section
variable {w : World} {F : Fz} {g : Gh} {lb lb' : Lk}
theorem allIp_reps : ∀ (as : List AC) (us : List Value), allIp as → RepACs w F lb g as us → RepACs w F lb' g as us
 | [], us, _, h => by simpa only [RepACs] using h
 | x :: as, us, ho, h => by
  simp only [RepACs] at h ⊢
  obtain ⟨u, us', rfl, h1, h2⟩ := h
  cases x <;> simp only [allIp] at ho
  case ip cs => exact ⟨u, us', rfl, by simpa only [RepAC] using h1, allIp_reps as us' ho h2⟩
theorem inC_rep (hs : ∀ l B, lb' l = some B → lb l = some B) {a : AC} (hi : inC lb' a) {u : Value} (h : RepAC w F lb g a u) : RepAC w F lb' g a u := by
 have look : ∀ l, lb' l ≠ none → lb' l = lb l := by
  intro l hl
  cases hb : lb' l with
  | none => exact absurd hb hl
  | some B => exact (hs l B hb).symm
 cases a <;> simp only [inC] at hi <;> simp only [RepAC] at h ⊢ <;> try exact h
 case own l n => rw [look l hi]; exact h
 case ptr l n => rw [look l hi]; exact h
 case ep l n i o => rw [look l hi]; exact h
 case tk l i => rw [look l hi]; exact h
 case clo f caps => obtain ⟨us, h1, h2⟩ := h; exact ⟨us, h1, allIp_reps caps us hi h2⟩
theorem inCs_rep (hs : ∀ l B, lb' l = some B → lb l = some B) : ∀ {as : List AC}, (∀ a, a ∈ as → inC lb' a) → ∀ {us : List Value}, RepACs w F lb g as us → RepACs w F lb' g as us
 | [], _, us, h => by simpa only [RepACs] using h
 | a :: as, hi, us, h => by
  simp only [RepACs] at h ⊢
  obtain ⟨u, us', rfl, h1, h2⟩ := h
  exact ⟨u, us', rfl, inC_rep hs (hi a (by simp)) h1, inCs_rep hs (fun b hb => hi b (by simp [hb])) h2⟩
theorem inCells_rep (hs : ∀ l B, lb' l = some B → lb l = some B) : ∀ {as : List AC}, (∀ a, a ∈ as → inC lb' a) → ∀ {us : List Value} {S : List Nat}, RepCells w F lb g as us S → RepCells w F lb' g as us S
 | [], _, us, S, h => by simpa only [RepCells] using h
 | a :: as, hi, us, S, h => by
  simp only [RepCells] at h ⊢
  obtain ⟨u, us', S1, S2, rfl, rfl, h1, h2⟩ := h
  refine ⟨u, us', S1, S2, rfl, rfl, ?_, inCells_rep hs (fun b hb => hi b (by simp [hb])) h2⟩
  have := hi a (by simp)
  cases a
  case d x => exact h1
  case m x => exact h1
  all_goals exact ⟨inC_rep hs this h1.1, h1.2⟩
theorem inV_rep (hs : ∀ l B, lb' l = some B → lb l = some B) {v : AV} (hi : inV lb' v) {u : Value} (h : RepAV w F lb g v u) : RepAV w F lb' g v u := by
 cases v with
 | one a => simp only [RepAV] at h ⊢; exact inC_rep hs hi h
 | agg as => simp only [RepAV] at h ⊢; obtain ⟨us, h1, h2⟩ := h; exact ⟨us, h1, inCs_rep hs hi h2⟩
 | tup vs =>
  cases vs with
  | nil => simpa only [RepAV, RepAVs] using h
  | cons v vs => exact hi.elim
 | any => simp only [RepAV]
theorem inVs_rep (hs : ∀ l B, lb' l = some B → lb l = some B) : ∀ {vs : List AV}, (∀ v, v ∈ vs → inV lb' v) → ∀ {us : List Value}, RepAVs w F lb g vs us → RepAVs w F lb' g vs us
 | [], _, us, h => by simpa only [RepAVs] using h
 | v :: vs, hi, us, h => by
  simp only [RepAVs] at h ⊢
  obtain ⟨u, us', rfl, h1, h2⟩ := h
  exact ⟨u, us', rfl, inV_rep hs (hi v (by simp)) h1, inVs_rep hs (fun b hb => hi b (by simp [hb])) h2⟩
end
theorem Sim.le {w0 : World} {M0 : Ms} {F0 F : Fz} {g : Gh} {s s' : St} {a : Act} {w : World} (h : Sim w0 M0 F0 F g s a w) (k : Le s s') : Sim w0 M0 F0 F g s' a w where
 sz := by rw [k.n]; exact h.sz
 df := h.df
 sl := fun i => by
  rcases k.sl i with e | ⟨e, hi⟩
  ·rw [e]; simp only [RepAV]
  ·rw [e] at hi ⊢
   exact inV_rep (fun l B hl => (k.lb l B hl).1) hi (h.sl i)
 gh := by rw [k.gh.1]; exact inVs_rep (fun l B hl => (k.lb l B hl).1) k.gh.2 h.gh
 lb := fun l B hl => by
  obtain ⟨h1, h2⟩ := k.lb l B hl
  have hb := h.lb l B h1
  have hs := fun l B hl => (k.lb l B hl).1
  cases B with
  | var cells => obtain ⟨cs, e, k1, k2, k3⟩ := hb; exact ⟨cs, e, k1, inCs_rep hs h2 k2, k3⟩
  | arr e sz rows fz =>
   obtain ⟨k1, k2, xs, S, k3, k4, k5⟩ := hb
   refine ⟨k1, k2, xs, S, k3, inCells_rep hs (fun a ha => ?_) k4, k5⟩
   obtain ⟨r, hr, har⟩ := List.mem_flatten.1 ha
   exact h2 r hr a har
  | tok x => exact hb
  | dead => trivial
 so := fun l B hl => h.so l B (k.lb l B hl).1
 nd := fun l B hl => h.nd l B (k.lb l B hl).1
 dj := fun l l' B B' hne hl hl' => h.dj l l' B B' hne (k.lb l B hl).1 (k.lb l' B' hl').1
 nw := fun l B hl => h.nw l B (k.lb l B hl).1
 f0 := h.f0
 f1 := h.f1
 f2 := h.f2
 tb := h.tb
 os := h.os
 tape := h.tape
 output := h.output
 size := h.size
 block := h.block
def Wk (s s' : St) : Prop := ∀ w0 M0 F0 a w, SimE w0 M0 F0 s a w → SimE w0 M0 F0 s' a w
theorem Le.wk {s s' : St} (k : Le s s') : Wk s s' := fun _ _ _ _ _ ⟨F, g, hs⟩ => ⟨F, g, hs.le k⟩
theorem Wk.refl (s : St) : Wk s s := fun _ _ _ _ _ h => h
theorem Wk.trans {s s' s'' : St} (h : Wk s s') (k : Wk s' s'') : Wk s s'' := fun w0 M0 F0 a w hs => k w0 M0 F0 a w (h w0 M0 F0 a w hs)
theorem AWP.wk {c : Code} {Q : Exit → St → Prop} {s s' : St} (k : Wk s s') (h : AWP P c Q s') : AWP P c Q s :=
 fun w0 M0 F0 a w hs => h w0 M0 F0 a w (k w0 M0 F0 a w hs)
theorem AWP.le {c : Code} {Q : Exit → St → Prop} {s s' : St} (k : Le s s') (h : AWP P c Q s') : AWP P c Q s :=
 fun w0 M0 F0 a w ⟨F, g, hs⟩ => h w0 M0 F0 a w ⟨F, g, hs.le k⟩
theorem loop_rule {ι : Type} {c : Code} {Q : Exit → St → Prop} {s : St} (S : ι → St) (μ : ι → Nat) (i0 : ι) (h0 : Wk s (S i0)) (round : ∀ i, AWP P c (thenA (fun s' => ∃ j, Wk s' (S j) ∧ μ j < μ i) Q) (S i)) : loopA P c Q s := by
 intro w0 M0 F0 a w hs
 have key : ∀ m i a w, μ i < m → SimE w0 M0 F0 (S i) a w → Code.rounds P c (fun e a' w' => ∃ s', Q e s' ∧ SimE w0 M0 F0 s' a' w') m a w := by
  intro m
  induction m with
  | zero => intro i a w h; omega
  | succ m ih =>
   intro i a w hi hs
   rw [rounds_succ]
   refine wp_mono (round i w0 M0 F0 a w hs) ?_
   rintro e a' w' ⟨s', hq, hs'⟩
   cases e with
   | normal =>
    obtain ⟨j, hle, hlt⟩ := hq
    exact ih j a' w' (by omega) (hle _ _ _ _ _ hs')
   | _ => exact ⟨s', hq, hs'⟩
 exact wp_loop_rounds (μ i0 + 1) (key _ i0 a w (by omega) (h0 _ _ _ _ _ hs))
end Go.Ai
/- States as lists; a function's contract from its code. -/
namespace Go.Ai
open Go.RowKit
variable {P : Program} {tab : Tab}
def look (L : List (Nat × AV)) (t : Nat) : AV :=
 match L with
 | [] => .any
 | (k, v) :: L => if t = k then v else look L t
def lookB (B : List (Nat × LB)) (l : Nat) : Option LB :=
 match B with
 | [] => none
 | (k, b) :: B => if l = k then some b else lookB B l
theorem look_cons (k : Nat) (v : AV) (L : List (Nat × AV)) (t : Nat) : look ((k, v) :: L) t = if t = k then v else look L t := rfl
theorem lookB_nil (l : Nat) : lookB [] l = none := rfl
theorem lookB_cons (k : Nat) (b : LB) (B : List (Nat × LB)) (l : Nat) : lookB ((k, b) :: B) l = if l = k then some b else lookB B l := rfl
def mk (n : Nat) (L : List (Nat × AV)) (B : List (Nat × LB)) (G : List AV := []) : St := ⟨n, look L, lookB B, G⟩
section
variable (n : Nat) (L : List (Nat × AV)) (B : List (Nat × LB)) (G : List AV)
theorem mk_set (t : Tmp) (v : AV) : (mk n L B G).set (some t) v = mk n ((t, v) :: L) B G := rfl
theorem mk_set0 (v : AV) : (mk n L B G).set none v = mk n L B G := rfl
theorem mk_put (l : Nat) (b : LB) : (mk n L B G).put l b = mk n L ((l, b) :: B) G := rfl
theorem mk_n : (mk n L B G).n = n := rfl
theorem mk_sl (t : Nat) : (mk n L B G).sl t = look L t := rfl
theorem mk_lb : (mk n L B G).lb = lookB B := rfl
theorem mk_gh : (mk n L B G).gh = G := rfl
theorem updL_look (k : Nat) (b : LB) : updL k b (lookB B) = lookB ((k, b) :: B) := rfl
end
def frzB (l : Nat) : List (Nat × LB) → List (Nat × LB)
 | [] => []
 | (k, b) :: B => (if k = l then (k, b.frz) else (k, b)) :: frzB l B
theorem lookB_frz (l k : Nat) : ∀ (B : List (Nat × LB)), lookB (frzB l B) k = if k = l then (lookB B k).map LB.frz else lookB B k
 | [] => by simp [frzB, lookB]
 | (j, b) :: B => by
  by_cases e : j = l
  ·subst e
   by_cases e2 : k = j
   ·subst e2; simp [frzB, lookB]
   ·simp [frzB, lookB, e2, lookB_frz j k B]
  ·by_cases e2 : k = j
   ·subst e2; simp [frzB, lookB, e]
   ·simp [frzB, lookB, e, e2, lookB_frz l k B]
theorem mk_frz (n : Nat) (L : List (Nat × AV)) (B : List (Nat × LB)) (G : List AV) (l : Nat) : (mk n L B G).frz l = mk n L (frzB l B) G := by
 simp only [mk, St.frz]
 congr 1
 funext k
 rw [lookB_frz]
theorem frzs_nil (s : St) : s.frzs [] = s := rfl
theorem frzs_cons (s : St) (l : Nat) (ls : List Nat) : s.frzs (l :: ls) = (s.frz l).frzs ls := rfl
def leL (L : List (Nat × AV)) (lb : Lk) : List (Nat × AV) → Prop
 | [] => True
 | (t, v) :: r => look L t = v ∧ inV lb v ∧ leL L lb r
def leB (B : List (Nat × LB)) (lb : Lk) : List (Nat × LB) → Prop
 | [] => True
 | (l, b) :: r => lookB B l = some b ∧ inB lb b ∧ leB B lb r
def leG (lb : Lk) : List AV → Prop
 | [] => True
 | v :: G => inV lb v ∧ leG lb G
theorem leG_mem {lb : Lk} : ∀ {G : List AV}, leG lb G → ∀ v, v ∈ G → inV lb v
 | _ :: _, h, v, hv => by
  rcases List.mem_cons.1 hv with rfl | hv
  ·exact h.1
  ·exact leG_mem h.2 v hv
theorem le_mk' {n : Nat} {L L' : List (Nat × AV)} {B B' : List (Nat × LB)} {G : List AV} (h1 : leL L (lookB B') L') (h2 : leB B (lookB B') B') (h3 : leG (lookB B') G) : Le (mk n L B G) (mk n L' B' G) where
 n := rfl
 sl := fun t => by
  simp only [mk_sl, mk_lb]
  have : ∀ (X : List (Nat × AV)), leL L (lookB B') X → look X t = .any ∨ (look X t = look L t ∧ inV (lookB B') (look X t)) := by
   intro X
   induction X with
   | nil => intro _; exact .inl rfl
   | cons p X ih =>
    obtain ⟨k, v⟩ := p
    rintro ⟨k1, k2, k3⟩
    simp only [look]
    split
    ·rename_i e; subst e; exact .inr ⟨k1.symm, k2⟩
    ·exact ih k3
  exact this L' h1
 lb := fun l b hl => by
  simp only [mk_lb] at hl ⊢
  have : ∀ (X : List (Nat × LB)), leB B (lookB B') X → lookB X l = some b → lookB B l = some b ∧ inB (lookB B') b := by
   intro X
   induction X with
   | nil => intro _ h; cases h
   | cons p X ih =>
    obtain ⟨k, v⟩ := p
    rintro ⟨k1, k2, k3⟩ h
    simp only [lookB] at h
    split at h
    ·rename_i e; subst e
     obtain rfl := Option.some.inj h
     exact ⟨k1, k2⟩
    ·exact ih k3 h
  exact this B' h2 hl
 gh := ⟨rfl, leG_mem h3⟩
theorem le_mk {n : Nat} {L L' : List (Nat × AV)} {B B' : List (Nat × LB)} {G : List AV} (h1 : leL L (lookB B') L') (h2 : leB B (lookB B') B') (h3 : leG (lookB B') G := by first | trivial | simp [leG, lookB, inV, inC]) : Wk (mk n L B G) (mk n L' B' G) := (le_mk' h1 h2 h3).wk
def enumA (k : Nat) : List AV → List (Nat × AV)
 | [] => []
 | v :: vs => (k, v) :: enumA (k + 1) vs
def joinR : List AV → AV
 | [v] => v
 | vs => .tup vs
def resV (tab : Tab) (s : St) : ResultVar → Option (Prop × AV)
 | .tmp t => some (True, s.sl t)
 | .cell a t => loadA tab s.lb t (s.sl a)
def resVs (tab : Tab) (s : St) : List ResultVar → Option (Prop × List AV)
 | [] => some (True, [])
 | x :: xs => match resV tab s x, resVs tab s xs with
  | some (p, v), some (q, vs) => some (p ∧ q, v :: vs)
  | _, _ => none
def retS (tab : Tab) (rs : List ResultVar) (r : AV) (s : St) : Prop :=
 match resVs tab s rs with
 | some (p, vs) => p ∧ okAVs s.lb vs ∧ joinR (vAVs s.lb vs) = r
 | none => False
def retA (tab : Tab) (rs : List ResultVar) (r : AV) : Exit → St → Prop
 | .normal, s => retS tab rs r s
 | .ret, s => retS tab rs r s
 | _, _ => False
theorem enumA_rep {w : World} {F : Fz} {lb : Lk} {g : Gh} : ∀ (vs : List AV) (us : List Value) (k i : Nat) (rest : List Value), RepAVs w F lb g vs us →
  look (enumA k vs) i = .any ∨ (k ≤ i ∧ i < k + vs.length ∧ RepAV w F lb g (look (enumA k vs) i) ((us ++ rest).getD (i - k) undef))
 | [], _, _, _, _, _ => .inl rfl
 | v :: vs, us, k, i, rest, h => by
  simp only [RepAVs] at h
  obtain ⟨u, us', rfl, h1, h2⟩ := h
  by_cases e : i = k
  ·subst e
   refine .inr ⟨Nat.le_refl _, by simp, ?_⟩
   simpa [enumA, look] using h1
  ·rcases enumA_rep vs us' (k + 1) i rest h2 with h | ⟨h3, h4, h5⟩
   ·exact .inl (by simpa [enumA, look, e] using h)
   ·refine .inr ⟨by omega, by simp; omega, ?_⟩
    have : i - k = (i - (k + 1)) + 1 := by omega
    simp only [enumA, look, if_neg e, this]
    simpa using h5
theorem getD_toArray (l : List Value) (i : Nat) (d : Value) : l.toArray.getD i d = l.getD i d := by
 simp [Array.getD_eq_getD_getElem?]
theorem RepAVs.len {w : World} {F : Fz} {lb : Lk} {g : Gh} : ∀ (vs : List AV) (us : List Value), RepAVs w F lb g vs us → vs.length = us.length
 | [], _, h => by simp only [RepAVs] at h; simp [h]
 | v :: vs, us, h => by
  simp only [RepAVs] at h
  obtain ⟨u, us', rfl, h1, h2⟩ := h
  simp [RepAVs.len vs us' h2]
theorem entry_sim {w : World} {F : Fz} {args : List AV} {us : List Value} {n : Nat} (hF : FzOk w F) (hlen : args.length ≤ n) (h : RepAVs w F noLk g0 args us) :
  Sim w ⟨[], []⟩ F F g0 (mk n (enumA 0 args) []) { tmps := us.toArray ++ Array.replicate (n - us.toArray.size) undef, defers := [] } w where
 sz := by have := RepAVs.len _ _ h; simp [mk_n]; omega
 df := rfl
 sl := fun i => by
  have e : us.toArray ++ Array.replicate (n - us.toArray.size) undef = (us ++ List.replicate (n - us.length) undef).toArray := by simp
  simp only [mk_sl, mk_lb, e, getD_toArray]
  rcases enumA_rep args us 0 i (List.replicate (n - us.length) undef) h with h | ⟨_, _, h⟩
  ·rw [h]; simp only [RepAV]
  ·exact RepAV.mono (Stays.refl _ _) ⟨fun l B hl => by simp [noLk] at hl⟩ _ _ h
 gh := rfl
 lb := fun l B hl => by cases hl
 so := fun l B hl => by cases hl
 nd := fun l B hl => by cases hl
 dj := fun l l' B B' _ hl => by cases hl
 nw := fun l B hl => by cases hl
 f0 := fun _ _ h => h
 f1 := fun _ _ h => .inl h
 f2 := hF.lt
 tb := hF.tb.start (fun b hb => by cases hb)
 os := rfl
 tape := rfl
 output := rfl
 size := Nat.le_refl _
 block := fun _ _ _ => rfl
theorem asAddr_sure {t : TypeId} {u x : Value} {w : World} (h : (Instr.loadAt t u).run P w = .ok x w) : (do loadVar t (← asAddr u) : Sem Value).run P w = .ok x w := by
 cases u with
 | pointer a =>
  cases a with
  | some a => exact h
  | none => simp [Instr.loadAt, Instr.sureAddr] at h
 | _ => simp [Instr.loadAt, Instr.sureAddr] at h
def resRun (tmps : Array Value) : ResultVar → Sem Value
 | .tmp t => pure (tmps.getD t undef)
 | .cell b t => do loadVar t (← asAddr (tmps.getD b undef))
theorem resVs_run (hT : TabOk P tab) {w0 : World} {M0 : Ms} {F0 F : Fz} {g : Gh} {s : St} {a : Act} {w : World} (h : Sim w0 M0 F0 F g s a w) : ∀ (rs : List ResultVar) (p : Prop) (vs : List AV), resVs tab s rs = some (p, vs) → p →
  ∃ us, (rs.mapM (m := Sem) (resRun a.tmps)).run P w = .ok us w ∧ RepAVs w F s.lb g vs us
 | [], p, vs, ho, _ => by
  obtain ⟨rfl, rfl⟩ := Prod.mk.inj (Option.some.inj ho)
  exact ⟨[], rfl, rfl⟩
 | x :: xs, p, vs, ho, hp => by
  simp only [resVs] at ho
  split at ho
  ·rename_i p1 v q vs' hx hxs
   obtain ⟨rfl, rfl⟩ := Prod.mk.inj (Option.some.inj ho)
   obtain ⟨us, k1, k2⟩ := resVs_run hT h xs q vs' hxs hp.2
   have : ∃ u, (resRun a.tmps x).run P w = .ok u w ∧ RepAV w F s.lb g v u := by
    cases x with
    | tmp t =>
     obtain ⟨rfl, rfl⟩ := Prod.mk.inj (Option.some.inj hx)
     exact ⟨_, rfl, h.sl t⟩
    | cell b t =>
     obtain ⟨u, h1, h2⟩ := loadA_sound (P := P) hT h (h.sl b) hx hp.1
     exact ⟨u, asAddr_sure h1, h2⟩
   obtain ⟨u, k3, k4⟩ := this
   refine ⟨u :: us, ?_, u, us, rfl, k4, k2⟩
   rw [List.mapM_cons, Sem.run_bind, k3, Result.andThen_ok, Sem.run_bind, k1]
   rfl
  ·cases ho
def joinU : List Value → Value
 | [v] => v
 | vs => .tuple vs.toArray
theorem results_run (hT : TabOk P tab) {w0 : World} {M0 : Ms} {F0 F : Fz} {g : Gh} {s : St} {a : Act} {w : World} (h : Sim w0 M0 F0 F g s a w) {fn : Func} {rs : List ResultVar} {p : Prop} {vs : List AV} (hr : fn.results.toList = rs) (ho : resVs tab s rs = some (p, vs)) (hp : p) :
  ∃ us : List Value, (results fn a.tmps).run P w = .ok (joinU us) w ∧ RepAVs w F s.lb g vs us := by
 subst hr
 obtain ⟨us, k1, k2⟩ := resVs_run hT h _ p vs ho hp
 refine ⟨us, ?_, k2⟩
 have e : results fn a.tmps = (fn.results.mapM (resRun a.tmps) >>= fun vs => pure (if h : vs.size = 1 then vs[0] else .tuple vs)) := rfl
 rw [e, Array.mapM_eq_mapM_toList, Sem.run_bind, Sem.run_map, k1]
 cases us with
 | nil => rfl
 | cons u us => cases us <;> rfl
theorem ret_sound (hT : TabOk P tab) {w0 : World} {F0 F : Fz} {g : Gh} {s : St} {a : Act} {w : World} (h : Sim w0 ⟨[], []⟩ F0 F g s a w) {fn : Func} {rs : List ResultVar} {r : AV} (hrs : fn.results.toList = rs) (hr : retS tab rs r s) :
  ∃ v F', (results fn a.tmps).run P w = .ok v w ∧ (∀ b o, F0 b o → F' b o) ∧ (∀ b o, F' b o → F0 b o ∨ w0.heap.size ≤ b) ∧ (∀ b o, F' b o → b < w.heap.size) ∧ RepAV w F' noLk g0 r v := by
 unfold retS at hr
 split at hr
 case h_2 => exact hr.elim
 rename_i p vs ho
 obtain ⟨hp, h1, rfl⟩ := hr
 obtain ⟨us, hrun, hargs⟩ := results_run hT h hrs ho hp
 obtain ⟨F1, hs1, u1, p1⟩ := h.freezes (vs.flatMap AV.owns)
 have hargs1 := RepAVs.mono (w := w) (w' := w) ⟨u1, fun _ _ _ => rfl⟩ (Keeps.refl s.lb g) _ _ hargs
 have hv := viewAVs_sound' h u1 _ _ _ (viewAVs_ok h1) hargs1 (fun l hl => p1 l hl)
 refine ⟨_, F1, hrun, hs1.f0, fun b o hb => (hs1.f1 b o hb).imp id (fun hq => hq.elim id (fun hq => by cases hq)), hs1.f2, ?_⟩
 clear hrun
 generalize hds : vAVs s.lb vs = ds at hv ⊢
 cases ds with
 | nil =>
  simp only [RepAVs] at hv
  subst hv
  simp only [joinR, RepAV, RepAVs]
  exact ⟨[], rfl, rfl⟩
 | cons d ds =>
  simp only [RepAVs] at hv
  obtain ⟨u, us', rfl, k1, k2⟩ := hv
  cases ds with
  | nil => simp only [RepAVs] at k2; subst k2; exact k1
  | cons d' ds =>
   simp only [RepAVs] at k2
   obtain ⟨u', us', rfl, k3, k4⟩ := k2
   simp only [joinR, RepAV, RepAVs]
   exact ⟨u :: u' :: us', rfl, u, u' :: us', rfl, k1, u', us', rfl, k3, k4⟩
theorem sat_of_awp (hT : TabOk P tab) {f : FuncId} {fn : Func} {c : Code} {args : List AV} {r : AV} {rs : List ResultVar} {n : Nat} (hf : P.funcs[f]? = some fn) (hb : fn.body = some c) (hr : fn.results.toList = rs) (hn : fn.ntmps = n) (hname : fn.name ≠ "runtime.NumGoroutine")
  (hlen : args.length ≤ n) (h : AWP P c (retA tab rs r) (mk n (enumA 0 args) [])) : Sat P f args r := by
 subst hr hn
 refine ⟨⟨fn, hf, hname, by rw [hb]; simp⟩, fun w F us hF hrep => ?_⟩
 refine calls_of_wp hf hb (wp_mono (h w ⟨[], []⟩ F _ w ⟨F, g0, entry_sim hF hlen hrep⟩) ?_)
 rintro e a' w' ⟨s', hq, F1, g1, hs'⟩
 have main : retS tab fn.results.toList r s' → ∃ v, (results fn a'.tmps).run P w' = .ok v w' ∧ ∃ v' F', Ending.returned v = .returned v' ∧ Below w.heap.size w w' ∧ (∀ b o, F b o → F' b o) ∧ (∀ b o, F' b o → F b o ∨ w.heap.size ≤ b) ∧ (∀ b o, F' b o → b < w'.heap.size) ∧ RepAV w' F' noLk g0 r v' := by
  intro hq
  obtain ⟨v, F', k0, k1, k2, k3, k4⟩ := ret_sound hT hs' rfl hq
  exact ⟨v, k0, v, F', rfl, ⟨hs'.os, hs'.tape, hs'.output, hs'.size, fun k hk => hs'.block k hk (fun h => by cases h)⟩, k1, k2, k3, k4⟩
 cases e with
 | normal => exact ⟨hs'.df, main hq⟩
 | ret => exact ⟨hs'.df, main hq⟩
 | _ => exact hq.elim
theorem sat_of_code (hT : TabOk P tab) (hm : P.follows .mixedOrders = true) {f : FuncId} {fn : Func} {c : Code} {args : List AV} {r : AV} {rs : List ResultVar} {n : Nat} (hf : P.funcs[f]? = some fn) (hb : fn.body = some c) (hr : fn.results.toList = rs) (hn : fn.ntmps = n) (hname : fn.name ≠ "runtime.NumGoroutine")
  (hok : okCode c = true) (hlen : args.length ≤ n) (h : codeK P tab c (retA tab rs r) (mk n (enumA 0 args) [])) : Sat P f args r :=
 sat_of_awp hT hf hb hr hn hname hlen (codeK_sound hT hm c _ _ hok h)
end Go.Ai
/- Functions whose results are owned, and functions that write what they are given: their contracts, from their code. -/
namespace Go.Ai
open Go.RowKit
variable {P : Program} {tab : Tab}
def retC : AC → AC → Lk → (Lk → Prop) → Prop
 | .tk k i, .c x, lb, K => (match lb k with
  | some (.tok xs) => xs[i]? = some (some x) ∧ K (updL k (.tok (xs.set i none)) lb)
  | _ => False)
 | .own l n, .c (.sl rows'), lb, K => (match lb l with
  | some (.arr _ _ rows _) => n = rows.length ∧ (∀ r, r ∈ rows → ∀ x, x ∈ r → isO x = true) ∧ (rows.map fun r => r.map toC) = rows' ∧ K (updL l .dead lb)
  | _ => False)
 | .nil, .c (.sl []), lb, K => K lb
 | .c (.v x), .c (.v x'), lb, K => x = x' ∧ K lb
 | _, _, _, _ => False
def retCs : List AC → List AC → Lk → (Lk → Prop) → Prop
 | [], [], lb, K => K lb
 | a :: as, d :: ds, lb, K => retC a d lb fun lb => retCs as ds lb K
 | _, _, _, _ => False
def retV : AV → AV → Lk → (Lk → Prop) → Prop
 | .one a, .one d, lb, K => retC a d lb K
 | .agg as, .agg ds, lb, K => retCs as ds lb K
 | _, _, _, _ => False
def retVs : List AV → List AV → Lk → (Lk → Prop) → Prop
 | [], [], lb, K => K lb
 | a :: as, d :: ds, lb, K => retV a d lb fun lb => retVs as ds lb K
 | _, _, _, _ => False
section
variable {w0 : World} {M0 : Ms} {F0 F F' : Fz} {a : Act} {w w' : World} {lb : Lk} {g : Gh}
structure Bare (w : World) (F : Fz) (lb : Lk) (g : Gh) : Prop where
 rep : ∀ l B, lb l = some B → RepLB w F lb g l B
 nd : ∀ l B, lb l = some B → (g.ds l).Nodup
 dj : ∀ l l' B B', l ≠ l' → lb l = some B → lb l' = some B' → ∀ b, b ∈ g.ds l → b ∉ g.ds l'
theorem Sim.bare {s : St} (h : Sim w0 M0 F0 F g s a w) : Bare w F s.lb g := ⟨h.lb, h.nd, h.dj⟩
structure Last (w : World) (F : Fz) (Z : List Nat) (lb : Lk) (S : List Nat) (vs : List AV) (us : List Value) : Prop where
 ex : ∃ g, Bare w F lb g ∧ S.Nodup ∧ (∀ l B, lb l = some B → ∀ b, b ∈ g.ds l → b ∉ S ∧ b ∈ Z) ∧ (∀ b, b ∈ S → b ∈ Z) ∧ RepAVs w F lb g vs us
theorem Bare.put (h : Bare w F lb g) {l : Nat} {B B' : LB} {S' : List Nat} (hl : lb l = some B) (hS : ∀ b, b ∈ S' → b ∈ g.ds l) (hnd : S'.Nodup)
  (hc : (∀ n u, okOwnB B (g.hd l) n u → okOwnB B' (g.hd l) n u) ∧ (∀ off u, okPtrB B (g.bl l) off u → okPtrB B' (g.bl l) off u) ∧
   (∀ n i off u, okEpB B (g.hd l) n i off u → okEpB B' (g.hd l) n i off u) ∧ (∀ i u, okTkB B (g.hd l) i u → okTkB B' (g.hd l) i u))
  (hr : RepLB w F (updL l B' lb) (g.upd l (g.bl l) (g.hd l) S') l B') : Bare w F (updL l B' lb) (g.upd l (g.bl l) (g.hd l) S') ∧ Keeps lb g (updL l B' lb) (g.upd l (g.bl l) (g.hd l) S') := by
 have K : Keeps lb g (updL l B' lb) (g.upd l (g.bl l) (g.hd l) S') := Keeps.upd (fun B0 hB => by rw [hl] at hB; obtain rfl := Option.some.inj hB; exact hc)
 have ne : ∀ k, k ≠ l → (g.upd l (g.bl l) (g.hd l) S').bl k = g.bl k ∧ (g.upd l (g.bl l) (g.hd l) S').hd k = g.hd k ∧ (g.upd l (g.bl l) (g.hd l) S').ds k = g.ds k := fun k hk => by simp [Gh.upd, hk]
 have at_ : ∀ k B, k ≠ l → (updL l B' lb) k = some B → lb k = some B := fun k B hk hB => by simpa [updL, hk] using hB
 have at_l : ∀ B, (updL l B' lb) l = some B → B = B' := fun B hB => by simpa [updL, eq_comm] using hB
 have dl : (g.upd l (g.bl l) (g.hd l) S').ds l = S' := by simp [Gh.upd]
 refine ⟨⟨fun k Bk hB => ?_, fun k Bk hB => ?_, fun k k' Bk Bk' hkk hB hB' => ?_⟩, K⟩
 ·by_cases e : k = l
  ·subst e; rw [at_l Bk hB]; exact hr
  ·exact RepLB.mono (Stays.refl _ _) K (ne k e).1 (ne k e).2.1 (ne k e).2.2 (fun _ _ => rfl) (h.rep k Bk (at_ k Bk e hB))
 ·by_cases e : k = l
  ·subst e; rw [dl]; exact hnd
  ·rw [(ne k e).2.2]; exact h.nd k Bk (at_ k Bk e hB)
 ·by_cases e : k = l
  ·subst e
   rw [dl, (ne k' (Ne.symm hkk)).2.2]
   exact fun b hb => h.dj k k' B Bk' hkk hl (at_ k' Bk' (Ne.symm hkk) hB') b (hS b hb)
  ·by_cases e' : k' = l
   ·subst e'
    rw [dl, (ne k e).2.2]
    exact fun b hb hb' => h.dj k k' Bk B e (at_ k Bk e hB) hl b hb (hS b hb')
   ·rw [(ne k e).2.2, (ne k' e').2.2]
    exact h.dj k k' Bk Bk' hkk (at_ k Bk e hB) (at_ k' Bk' e' hB')
theorem bare_row (h : Bare w F lb g) {l n : Nat} {e : TypeId} {sz : Nat} {rows : List (List AC)} {fz : Bool} (hl : lb l = some (.arr e sz rows fz)) (hn : n = rows.length) (ho : ∀ r, r ∈ rows → ∀ x, x ∈ r → isO x = true) {u : Value} (hu : RepAC w F lb g (.own l n) u) :
  Own w (.sl (rows.map fun r => r.map toC)) u (g.ds l) := by
 simp only [RepAC] at hu
 obtain ⟨_, B, hB, hq⟩ := hu
 rw [hl] at hB
 obtain rfl := Option.some.inj hB
 have hux := hq.2 hn
 obtain ⟨hsz, hrl, xs, S, hown, hcells, hds⟩ := h.rep l _ hl
 have hr := isOr_own hrl ho hcells
 simp only [Own]
 obtain ⟨hxl, hrow⟩ := hown
 rcases hrow with ⟨k1, k2⟩ | ⟨gg, cap, cur, k1, _, hh, hle, hcm, hcs, htk⟩
 ·have : rows = [] := List.eq_nil_of_length_eq_zero k2
  subst this
  simp only [List.map_nil, OwnRows] at hr
  left
  refine ⟨by rw [hux, k1], rfl, ?_⟩
  rw [hds, k1, hr.2]; rfl
 ·right
  refine ⟨gg, cap, cur, e, sz, S, by rw [hux, k1]; simp, hh, by simpa using hle, hcm, hcs, hsz, by rw [hds, k1]; rfl, ?_⟩
  rw [List.length_map, htk]
  exact hr
theorem retC_sound {Z : List Nat} {vs : List AV} {us : List Value} {c d : AC} {u : Value} (hget : ∀ lb g, RepAVs w F lb g vs us → RepAC w F lb g c u) {lb : Lk} {K : Lk → Prop} (hk : retC c d lb K) {S : List Nat} (hr : Last w F Z lb S vs us) :
  ∃ lb' Si x, d = .c x ∧ K lb' ∧ Last w F Z lb' (S ++ Si) vs us ∧ Own w x u Si := by
 unfold retC at hk
 split at hk
 ·rename_i lb K k i x
  split at hk
  ·rename_i xs hl
   obtain ⟨hx, hk⟩ := hk
   obtain ⟨g, h1, h2, h3, h3z, h4⟩ := hr.ex
   have hu := hget _ _ h4
   simp only [RepAC] at hu
   obtain ⟨_, B, hB, hq⟩ := hu
   rw [hl] at hB
   obtain rfl := Option.some.inj hB
   obtain ⟨us', hq1, hq2⟩ := hq
   obtain ⟨us'', j1, j2⟩ := h1.rep k _ hl
   rw [hq1] at j1
   obtain rfl : us' = us'' := by simpa using j1
   obtain ⟨u', SA, Si, SB, k4, k5, k6, k7, _⟩ := OwnTs.get _ _ _ _ _ j2 hx
   rw [hq2] at k4
   obtain rfl := Option.some.inj k4
   have hnd := h1.nd k _ hl
   rw [k5] at hnd
   rw [List.nodup_append] at hnd
   obtain ⟨n1, n2, n3⟩ := hnd
   rw [List.nodup_append] at n2
   have hsub : ∀ b, b ∈ SA ++ SB → b ∈ g.ds k := fun b hb => by rw [k5]; simp at hb ⊢; rcases hb with hb | hb <;> simp [hb]
   have hsi : ∀ b, b ∈ Si → b ∈ g.ds k := fun b hb => by rw [k5]; simp [hb]
   obtain ⟨b1, b2⟩ := h1.put (B' := .tok (xs.set i none)) (S' := SA ++ SB) hl hsub (by rw [List.nodup_append]; exact ⟨n1, n2.2.1, fun x hx y hy => n3 x hx y (by simp [hy])⟩) ⟨fun _ _ h => h, fun _ _ h => h, fun _ _ _ _ h => h, fun _ _ h => h⟩
    ⟨us', by simp [Gh.upd, hq1], by simpa [Gh.upd] using k7 none [] rfl⟩
   refine ⟨_, Si, x, rfl, hk, ⟨_, b1, ?_, ?_, ?_, RepAVs.mono (Stays.refl _ _) b2 _ _ h4⟩, k6⟩
   ·rw [List.nodup_append]
    exact ⟨h2, n2.1, fun x hx y hy hxy => by subst hxy; exact (h3 k _ hl x (hsi x hy)).1 hx⟩
   ·intro l B hB b hb
    by_cases e : l = k
    ·subst e
     simp only [Gh.upd, if_true] at hb
     refine ⟨fun hb' => ?_, (h3 l _ hl b (hsub b hb)).2⟩
     rcases List.mem_append.1 hb' with hb' | hb'
     ·exact (h3 l _ hl b (hsub b hb)).1 hb'
     ·rcases List.mem_append.1 hb with hb | hb
      ·exact n3 b hb b (by simp [hb']) rfl
      ·exact n2.2.2 b hb' b hb rfl
    ·simp only [updL, if_neg e] at hB
     simp only [Gh.upd, if_neg e] at hb
     refine ⟨fun hb' => ?_, (h3 l B hB b hb).2⟩
     rcases List.mem_append.1 hb' with hb' | hb'
     ·exact (h3 l B hB b hb).1 hb'
     ·exact h1.dj l k B _ e hB hl b hb (hsi b hb')
   ·intro b hb
    rcases List.mem_append.1 hb with hb | hb
    ·exact h3z b hb
    ·exact (h3 k _ hl b (hsi b hb)).2
  ·exact hk.elim
 ·rename_i lb K l n rows'
  split at hk
  ·rename_i e sz rows fz hl
   obtain ⟨hn, ho, rfl, hk⟩ := hk
   obtain ⟨g, h1, h2, h3, h3z, h4⟩ := hr.ex
   have hu := hget _ _ h4
   have hown := bare_row h1 hl hn ho hu
   obtain ⟨b1, b2⟩ := h1.put (B' := .dead) (S' := []) hl (fun b hb => by cases hb) (by simp) ⟨fun _ _ _ => trivial, fun _ _ _ => trivial, fun _ _ _ _ _ => trivial, fun _ _ _ => trivial⟩ trivial
   refine ⟨_, g.ds l, _, rfl, hk, ⟨_, b1, ?_, ?_, ?_, RepAVs.mono (Stays.refl _ _) b2 _ _ h4⟩, hown⟩
   ·rw [List.nodup_append]
    exact ⟨h2, h1.nd l _ hl, fun x hx y hy hxy => by subst hxy; exact (h3 l _ hl x hy).1 hx⟩
   ·intro l' B hB b hb
    by_cases e : l' = l
    ·subst e
     simp [Gh.upd] at hb
    ·simp only [updL, if_neg e] at hB
     simp only [Gh.upd, if_neg e] at hb
     refine ⟨fun hb' => ?_, (h3 l' B hB b hb).2⟩
     rcases List.mem_append.1 hb' with hb' | hb'
     ·exact (h3 l' B hB b hb).1 hb'
     ·exact h1.dj l' l B _ e hB hl b hb hb'
   ·intro b hb
    rcases List.mem_append.1 hb with hb | hb
    ·exact h3z b hb
    ·exact (h3 l _ hl b hb).2
  ·exact hk.elim
 ·obtain ⟨g, _, _, _, _, h4⟩ := hr.ex
  have hu := hget _ _ h4
  simp only [RepAC] at hu
  exact ⟨_, [], _, rfl, hk, by simpa using hr, own_nil hu⟩
 ·obtain ⟨rfl, hk⟩ := hk
  obtain ⟨g, _, _, _, _, h4⟩ := hr.ex
  have hu := hget _ _ h4
  simp only [RepAC, Rd] at hu
  exact ⟨_, [], _, rfl, hk, by simpa using hr, by simp only [Own]; exact ⟨hu.1, hu.2, trivial⟩⟩
 ·exact hk.elim
theorem retCs_sound {Z : List Nat} {vs : List AV} {us : List Value} : ∀ {cs ds : List AC} {ws : List Value} (_ : ∀ lb g, RepAVs w F lb g vs us → RepACs w F lb g cs ws) {lb : Lk} {K : Lk → Prop} (_ : retCs cs ds lb K) {S : List Nat} (_ : Last w F Z lb S vs us),
  ∃ lb' Si xs, ds = List.map AC.c xs ∧ K lb' ∧ Last w F Z lb' (S ++ Si) vs us ∧ OwnCells w xs ws Si
 | [], [], ws, hget, lb, K, hk, S, hr => by
  obtain ⟨g, _, _, _, _, h4⟩ := hr.ex
  have := hget _ _ h4
  simp only [RepACs] at this
  exact ⟨lb, [], [], rfl, hk, by simpa using hr, this, rfl⟩
 | c :: cs, d :: ds, ws, hget, lb, K, hk, S, hr => by
  simp only [retCs] at hk
  obtain ⟨g, _, _, _, _, h4⟩ := hr.ex
  have h5 := hget _ _ h4
  simp only [RepACs] at h5
  obtain ⟨u, ws', rfl, _, _⟩ := h5
  obtain ⟨lb1, S1, x, rfl, k1, k2, k3⟩ := retC_sound (c := c) (u := u) (fun lb g h => by
   have := hget lb g h
   simp only [RepACs] at this
   obtain ⟨u', us', e, h5, _⟩ := this
   obtain ⟨rfl, rfl⟩ := List.cons.inj e
   exact h5) hk hr
  obtain ⟨lb2, S2, xs, rfl, j1, j2, j3⟩ := retCs_sound (cs := cs) (ds := ds) (ws := ws') (fun lb g h => by
   have := hget lb g h
   simp only [RepACs] at this
   obtain ⟨u', us', e, _, h5⟩ := this
   obtain ⟨rfl, rfl⟩ := List.cons.inj e
   exact h5) k1 k2
  exact ⟨lb2, S1 ++ S2, x :: xs, rfl, j1, by simpa [List.append_assoc] using j2, u, ws', S1, S2, rfl, rfl, k3, j3⟩
 | [], _ :: _, _, _, _, _, hk, _, _ => hk.elim
 | _ :: _, [], _, _, _, _, hk, _, _ => hk.elim
theorem retV_sound {Z : List Nat} {vs : List AV} {us : List Value} {c d : AV} {u : Value} (hget : ∀ lb g, RepAVs w F lb g vs us → RepAV w F lb g c u) {lb : Lk} {K : Lk → Prop} (hk : retV c d lb K) {S : List Nat} (hr : Last w F Z lb S vs us) :
  ∃ lb' Si, K lb' ∧ Last w F Z lb' (S ++ Si) vs us ∧ OwnR1 w d u Si := by
 unfold retV at hk
 split at hk
 ·obtain ⟨lb', Si, x, rfl, k1, k2, k3⟩ := retC_sound (fun lb g h => by have := hget lb g h; simpa only [RepAV] using this) hk hr
  exact ⟨lb', Si, k1, k2, k3⟩
 ·obtain ⟨g, _, _, _, _, h4⟩ := hr.ex
  have h5 := hget _ _ h4
  simp only [RepAV] at h5
  obtain ⟨ws, rfl, _⟩ := h5
  obtain ⟨lb', Si, xs, rfl, k1, k2, k3⟩ := retCs_sound (ws := ws) (fun lb g h => by
   have := hget lb g h
   simp only [RepAV] at this
   obtain ⟨ws', e, h5⟩ := this
   obtain rfl : ws = ws' := by simpa using e
   exact h5) hk hr
  exact ⟨lb', Si, k1, k2, xs, ws, rfl, rfl, k3⟩
 ·exact hk.elim
theorem retVs_sound {Z : List Nat} {vs : List AV} {us : List Value} : ∀ {cs ds : List AV} {ws : List Value} (_ : ∀ lb g, RepAVs w F lb g vs us → RepAVs w F lb g cs ws) {lb : Lk} {K : Lk → Prop} (_ : retVs cs ds lb K) {S : List Nat} (_ : Last w F Z lb S vs us),
  ∃ lb' Si, K lb' ∧ Last w F Z lb' (S ++ Si) vs us ∧ OwnRs w ds ws Si
 | [], [], ws, hget, lb, K, hk, S, hr => by
  obtain ⟨g, _, _, _, _, h4⟩ := hr.ex
  have := hget _ _ h4
  simp only [RepAVs] at this
  exact ⟨lb, [], hk, by simpa using hr, this, rfl⟩
 | c :: cs, d :: ds, ws, hget, lb, K, hk, S, hr => by
  simp only [retVs] at hk
  obtain ⟨g, _, _, _, _, h4⟩ := hr.ex
  have h5 := hget _ _ h4
  simp only [RepAVs] at h5
  obtain ⟨u, ws', rfl, _, _⟩ := h5
  obtain ⟨lb1, S1, k1, k2, k3⟩ := retV_sound (c := c) (u := u) (fun lb g h => by
   have := hget lb g h
   simp only [RepAVs] at this
   obtain ⟨u', us', e, h5, _⟩ := this
   obtain ⟨rfl, rfl⟩ := List.cons.inj e
   exact h5) hk hr
  obtain ⟨lb2, S2, j1, j2, j3⟩ := retVs_sound (cs := cs) (ds := ds) (ws := ws') (fun lb g h => by
   have := hget lb g h
   simp only [RepAVs] at this
   obtain ⟨u', us', e, _, h5⟩ := this
   obtain ⟨rfl, rfl⟩ := List.cons.inj e
   exact h5) k1 k2
  exact ⟨lb2, S1 ++ S2, j1, by simpa [List.append_assoc] using j2, u, ws', S1, S2, rfl, rfl, k3, j3⟩
 | [], _ :: _, _, _, _, _, hk, _, _ => hk.elim
 | _ :: _, [], _, _, _, _, hk, _, _ => hk.elim
end
def retFS (tab : Tab) (rs : List ResultVar) (ds : List AV) (s : St) : Prop :=
 match resVs tab s rs with
 | some (p, vs) => p ∧ retVs vs ds s.lb fun _ => True
 | none => False
def retFA (tab : Tab) (rs : List ResultVar) (ds : List AV) : Exit → St → Prop
 | .normal, s => retFS tab rs ds s
 | .ret, s => retFS tab rs ds s
 | _, _ => False
theorem OwnRs.len {w : World} : ∀ {rs : List AV} {us : List Value} {S : List Nat}, OwnRs w rs us S → us.length = rs.length
 | [], _, _, h => by simp only [OwnRs] at h; simp [h.1]
 | r :: rs, us, S, h => by
  simp only [OwnRs] at h
  obtain ⟨u, us', S1, S2, rfl, rfl, _, h2⟩ := h
  simp [OwnRs.len h2]
theorem ownR_of_Rs {w : World} {ds : List AV} {r : AV} {us : List Value} {S : List Nat} (hds : joinR ds = r) (htup : ∀ vs, r = .tup vs → ds = vs) (h : OwnRs w ds us S) : OwnR w r (joinU us) S := by
 have hl := h.len
 match ds, us, hl, hds with
 | [d], [u], _, hds =>
  simp only [joinR] at hds
  subst hds
  simp only [OwnRs] at h
  obtain ⟨u', us'', S1, S2, e, rfl, h1, rfl, rfl⟩ := h
  obtain ⟨rfl, _⟩ := List.cons.inj e
  have h2 : OwnR w d u (S1 ++ []) := by
   rw [List.append_nil]
   cases d with
   | tup vs => exact h1.elim
   | _ => exact h1
  exact h2
 | [], [], _, hds =>
  simp only [joinR] at hds
  subst hds
  exact ⟨[], rfl, h⟩
 | d :: d' :: ds, u :: u' :: us, _, hds =>
  simp only [joinR] at hds
  subst hds
  exact ⟨_, rfl, h⟩
theorem satF_of_awp (ds : List AV) {r : AV} (hds : joinR ds = r) (htup : ∀ vs, r = .tup vs → ds = vs) (hT : TabOk P tab) {f : FuncId} {fn : Func} {c : Code} {args : List AV} {rs : List ResultVar} {n : Nat} (hf : P.funcs[f]? = some fn) (hb : fn.body = some c) (hr : fn.results.toList = rs) (hn : fn.ntmps = n) (hname : fn.name ≠ "runtime.NumGoroutine")
  (hlen : args.length ≤ n) (h : AWP P c (retFA tab rs ds) (mk n (enumA 0 args) [])) : SatF P f args r := by
 subst hr hn
 refine ⟨⟨fn, hf, hname, by rw [hb]; simp⟩, fun w F us hF hrep => ?_⟩
 refine calls_of_wp hf hb (wp_mono (h w ⟨[], []⟩ F _ w ⟨F, g0, entry_sim hF hlen hrep⟩) ?_)
 rintro e a' w' ⟨s', hq, F1, g1, hs'⟩
 have main : retFS tab fn.results.toList ds s' → ∃ v, (results fn a'.tmps).run P w' = .ok v w' ∧ ∃ v' S, Ending.returned v = .returned v' ∧ Below w.heap.size w w' ∧ OwnR w' r v' S ∧ S.Nodup ∧ ∀ b, b ∈ S → w.heap.size ≤ b ∧ b < w'.heap.size := by
  intro hq
  unfold retFS at hq
  split at hq
  case h_2 => exact hq.elim
  rename_i p vs ho
  obtain ⟨hp, hret⟩ := hq
  obtain ⟨us', hrun, hargs⟩ := results_run hT hs' rfl ho hp
  obtain ⟨Z, hZ⟩ : ∃ Z : List Nat, ∀ b, b ∈ Z ↔ w.heap.size ≤ b ∧ b < w'.heap.size := ⟨(List.range w'.heap.size).filter (fun b => decide (w.heap.size ≤ b)), fun b => by simp [and_comm]⟩
  have hlast : Last w' F1 Z s'.lb [] vs us' := ⟨g1, hs'.bare, by simp, fun l B hl b hb => ⟨by simp, (hZ b).2 ⟨(hs'.nw l B hl b hb).1.resolve_right (fun hq => by cases hq), (hs'.nw l B hl b hb).2⟩⟩, by simp, hargs⟩
  obtain ⟨lb', S, _, hL, hown⟩ := retVs_sound (fun _ _ h => h) hret hlast
  rw [List.nil_append] at hL
  obtain ⟨_, _, k1, _, k2, _⟩ := hL.ex
  exact ⟨_, hrun, _, S, rfl, ⟨hs'.os, hs'.tape, hs'.output, hs'.size, fun k hk => hs'.block k hk (fun h => by cases h)⟩, ownR_of_Rs hds htup hown, k1, fun b hb => (hZ b).1 (k2 b hb)⟩
 cases e with
 | normal => exact ⟨hs'.df, main hq⟩
 | ret => exact ⟨hs'.df, main hq⟩
 | _ => exact hq.elim
theorem satF_of_code (ds : List AV) {r : AV} (hds : joinR ds = r) (htup : ∀ vs, r = .tup vs → ds = vs) (hT : TabOk P tab) (hm : P.follows .mixedOrders = true) {f : FuncId} {fn : Func} {c : Code} {args : List AV} {rs : List ResultVar} {n : Nat} (hf : P.funcs[f]? = some fn) (hb : fn.body = some c) (hr : fn.results.toList = rs) (hn : fn.ntmps = n) (hname : fn.name ≠ "runtime.NumGoroutine")
  (hok : okCode c = true) (hlen : args.length ≤ n) (h : codeK P tab c (retFA tab rs ds) (mk n (enumA 0 args) [])) : SatF P f args r :=
 satF_of_awp ds hds htup hT hf hb hr hn hname hlen (codeK_sound hT hm c _ _ hok h)
end Go.Ai
