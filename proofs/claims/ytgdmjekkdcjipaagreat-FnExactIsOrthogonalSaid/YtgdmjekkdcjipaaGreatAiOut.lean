/- A function's code, run by the abstract machine: what is to be shown of it, as a proposition on abstract states. -/
import Derived.Test.YtgdmjekkdcjipaaGreatAiRegion
import Derived.Tactics
import Derived.Scope
import Derived.LoopN
import Derived.Attr
set_option linter.unusedVariables false
set_option linter.unusedSimpArgs false
namespace Go.Ai
open Go.RowKit
variable {P : Program} {tab : Tab}
def isV : AC → Bool
 | .c _ => true
 | .d _ => true
 | .nil => true
 | .e1 => true
 | .e0 => true
 | _ => false
def vC (lb : Lk) : AC → C
 | .c x => x
 | .nil => .sl []
 | .e1 => .sl []
 | .e0 => .sl []
 | .own l _ => match lb l with
  | some (.arr _ _ rows _) => .sl (rows.map fun r => r.map toC)
  | _ => .sl []
 | .tk k i => match lb k with
  | some (.tok xs) => (match xs[i]? with
   | some (some x) => x
   | _ => .v (.bool false))
  | _ => .v (.bool false)
 | _ => .v (.bool false)
def okC (lb : Lk) : AC → Prop
 | .c _ => True
 | .nil => True
 | .e1 => True
 | .e0 => True
 | .own l n => match lb l with
  | some (.arr _ _ rows _) => n = rows.length ∧ ∀ r, r ∈ rows → ∀ a, a ∈ r → isV a = true
  | _ => False
 | _ => False
def vCs (lb : Lk) : List AC → List AC
 | [] => []
 | a :: as => .c (vC lb a) :: vCs lb as
def vH1 (lb : Lk) : List AC → Prop
 | [] => True
 | a :: as => okC lb a ∧ vH1 lb as
def vAV (lb : Lk) : AV → AV
 | .one a => .one (.c (vC lb a))
 | .agg as => .agg (vCs lb as)
 | v => v
def kS1 (lb : Lk) : AV → Prop
 | .one a => okC lb a
 | .agg as => vH1 lb as
 | _ => False
def cp0 (lb : Lk) : List AV → List AV
 | [] => []
 | a :: as => vAV lb a :: cp0 lb as
def xb0 (lb : Lk) : List AV → Prop
 | [] => True
 | a :: as => kS1 lb a ∧ xb0 lb as
theorem dR1 (lb : Lk) (cs : List C) : vCs lb (cs.map .c) = cs.map .c := by
 induction cs with
 | nil => rfl
 | cons c cs ih => simp only [List.map_cons, vCs, vC, ih]
theorem vs1 (lb : Lk) (cs : List C) : vH1 lb (cs.map .c) := by
 induction cs with
 | nil => trivial
 | cons c cs ih => exact ⟨trivial, ih⟩
theorem kH1 {a : AC} (h : isV a = true) : unN a = .c (toC a) := by cases a <;> simp_all [isV, unN, toC]
theorem yt0 {lb : Lk} {a : AC} (h : okC lb a) : yx0 lb a (vC lb a) := by
 cases a <;> simp only [okC] at h <;> simp only [yx0, vC]
 case own l n =>
  split at h
  ·rename_i e sz rows fz hl
   refine ⟨e, sz, rows, fz, rows.map fun r => r.map toC, hl, h.1, ?_, rfl⟩
   rw [List.map_map]
   refine List.map_congr_left (fun r hr => ?_)
   simp only [Function.comp, List.map_map]
   exact List.map_congr_left (fun a ha => kH1 (h.2 r hr a ha))
  ·exact h.elim
 all_goals exact h.elim
theorem lD0 {lb : Lk} : ∀ {as : List AC}, vH1 lb as → jn0 lb as (vCs lb as)
 | [], _ => rfl
 | _ :: _, h => ⟨_, _, rfl, yt0 h.1, lD0 h.2⟩
theorem fF0 {lb : Lk} {v : AV} (h : kS1 lb v) : wm0 lb v (vAV lb v) := by
 cases v with
 | one a => exact ⟨_, rfl, yt0 h⟩
 | agg as => exact ⟨_, rfl, lD0 h⟩
 | tup vs => exact h.elim
 | any => exact h.elim
theorem qZ0 {lb : Lk} : ∀ {vs : List AV}, xb0 lb vs → zJ0 lb vs (cp0 lb vs)
 | [], _ => rfl
 | _ :: _, h => ⟨_, _, rfl, fF0 h.1, qZ0 h.2⟩
def okB (lb : Lk) : AC → Prop
 | .tk k i => match lb k with
  | some (.tok xs) => (match xs[i]? with
   | some (some _) => True
   | _ => False)
  | _ => False
 | a => okC lb a
def vG1 (lb : Lk) : List AC → Prop
 | [] => True
 | a :: as => okB lb a ∧ vG1 lb as
def vq1 (lb : Lk) : AV → Prop
 | .one a => okB lb a
 | .agg as => vG1 lb as
 | _ => False
def cD0 (lb : Lk) : List AV → Prop
 | [] => True
 | a :: as => vq1 lb a ∧ cD0 lb as
def xd1 : AC → Prop
 | .tk _ _ => False
 | _ => True
def qN1 : List AC → Prop
 | [] => True
 | a :: as => xd1 a ∧ qN1 as
def kP1 : AV → Prop
 | .one a => xd1 a
 | .agg as => qN1 as
 | _ => True
def fx0 : List AV → Prop
 | [] => True
 | a :: as => kP1 a ∧ fx0 as
theorem vr1 (lb : Lk) (cs : List C) : vG1 lb (cs.map .c) := by
 induction cs with
 | nil => trivial
 | cons c cs ih => exact ⟨trivial, ih⟩
theorem kQ1 (cs : List C) : qN1 (cs.map .c) := by
 induction cs with
 | nil => trivial
 | cons c cs ih => exact ⟨trivial, ih⟩
theorem rX0 {lb : Lk} {a : AC} (h : okB lb a) : ra0 lb a (vC lb a) := by
 cases a
 case tk k i =>
  simp only [okB] at h
  split at h
  ·rename_i xs hl
   split at h
   ·rename_i x hx
    refine ⟨xs, hl, ?_⟩
    simp only [vC, hl, hx]
   ·exact h.elim
  ·exact h.elim
 all_goals first | exact False.elim h | exact yt0 (a := .c _) h | exact yt0 (a := .nil) h | exact yt0 (a := .e1) h | exact yt0 (a := .e0) h | exact yt0 (a := .own _ _) h
theorem lC0 {lb : Lk} : ∀ {as : List AC}, vG1 lb as → jm0 lb as (vCs lb as)
 | [], _ => rfl
 | _ :: _, h => ⟨_, _, rfl, rX0 h.1, lC0 h.2⟩
theorem lB0 {lb : Lk} {v : AV} (h : vq1 lb v) : vl0 lb v (vAV lb v) := by
 cases v with
 | one a => exact ⟨_, rfl, rX0 h⟩
 | agg as => exact ⟨_, rfl, lC0 h⟩
 | tup vs => exact h.elim
 | any => exact h.elim
theorem wj0 {lb : Lk} : ∀ {vs : List AV}, cD0 lb vs → qb0 lb vs (cp0 lb vs)
 | [], _ => rfl
 | _ :: _, h => ⟨_, _, rfl, lB0 h.1, wj0 h.2⟩
theorem nt0 {lb : Lk} {a : AC} (h : okB lb a) (n : xd1 a) : okC lb a := by
 cases a
 case tk k i => exact n.elim
 all_goals exact h
theorem gE0 {lb : Lk} : ∀ {as : List AC}, vG1 lb as → qN1 as → vH1 lb as
 | [], _, _ => trivial
 | _ :: _, h, n => ⟨nt0 h.1 n.1, gE0 h.2 n.2⟩
theorem qT1 {lb : Lk} {v : AV} (h : vq1 lb v) (n : kP1 v) : kS1 lb v := by
 cases v with
 | one a => exact nt0 h n
 | agg as => exact gE0 h n
 | tup vs => exact h.elim
 | any => exact h.elim
theorem yS0 {lb : Lk} : ∀ {vs : List AV}, cD0 lb vs → fx0 vs → xb0 lb vs
 | [], _, _ => trivial
 | _ :: _, h, n => ⟨qT1 h.1 n.1, yS0 h.2 n.2⟩
def xZ1 : List AC → Prop
 | [] => True
 | .c _ :: as => xZ1 as
 | _ => False
def jf1 : List AC → List C
 | [] => []
 | .c x :: as => x :: jf1 as
 | _ :: as => .v (.bool false) :: jf1 as
theorem nl0 : ∀ {as : List AC}, xZ1 as → as = (jf1 as).map .c
 | [], _ => rfl
 | .c x :: as, h => by simp only [jf1, List.map_cons]; rw [← nl0 (as := as) h]
def vK (lb : Lk) : AC → AC
 | .ptr l _ => (match lb l with
  | some (.var cells) => .ip (jf1 cells)
  | _ => .any)
 | a => a
def okK (lb : Lk) : AC → Prop
 | .ptr l off => (match lb l with
  | some (.var cells) => off = 0 ∧ xZ1 cells
  | _ => False)
 | .ip _ => True
 | _ => False
def vKs (lb : Lk) : List AC → List AC
 | [] => []
 | a :: as => vK lb a :: vKs lb as
def xf1 (lb : Lk) : List AC → Prop
 | [] => True
 | a :: as => okK lb a ∧ xf1 lb as
def vg1 : AV → Bool
 | .one (.clo _ _) => true
 | _ => false
def dg0 : List AV → Bool
 | [] => false
 | v :: vs => vg1 v || dg0 vs
def vKV (lb : Lk) : AV → AV
 | .one (.clo f caps) => .one (.clo f (vKs lb caps))
 | v => vAV lb v
def fu1 (lb : Lk) : AV → Prop
 | .one (.clo _ caps) => xf1 lb caps
 | v => vq1 lb v
def vJ1 (lb : Lk) : List AV → List AV
 | [] => []
 | v :: vs => vKV lb v :: vJ1 lb vs
def sg0 (lb : Lk) : List AV → Prop
 | [] => True
 | v :: vs => fu1 lb v ∧ sg0 lb vs
theorem yw1 {lb : Lk} {a : AC} (h : okK lb a) : wi1 lb a (vK lb a) := by
 cases a <;> simp only [okK] at h
 case ptr l off =>
  split at h
  ·rename_i cells hl
   obtain ⟨rfl, h⟩ := h
   refine ⟨rfl, jf1 cells, ?_, ?_⟩
   ·rw [← nl0 h]; exact hl
   ·simp only [vK, hl]
  ·exact h.elim
 case ip cs => rfl
theorem lE0 {lb : Lk} : ∀ {as : List AC}, xf1 lb as → fg0 lb as (vKs lb as)
 | [], _ => rfl
 | _ :: _, h => ⟨_, _, rfl, yw1 h.1, lE0 h.2⟩
theorem bO0 {lb : Lk} : ∀ {vs : List AV}, sg0 lb vs → vH0 lb vs (vJ1 lb vs)
 | [], _ => rfl
 | v :: vs, h => by
  refine ⟨_, _, rfl, ?_, bO0 h.2⟩
  have h1 := h.1
  unfold fu1 at h1
  split at h1
  ·rename_i f caps
   exact .inl ⟨f, caps, _, rfl, rfl, lE0 h1⟩
  ·rename_i hn
   have : vKV lb v = vAV lb v := by
    unfold vKV
    split
    ·rename_i f caps; exact absurd rfl (hn f caps)
    ·rfl
   rw [this]
   exact .inr (lB0 h1)
def kG1 : AV → Bool
 | .one (.ptr _ _) => true
 | _ => false
def dh0 : List AV → Bool
 | [] => false
 | v :: vs => kG1 v || dh0 vs
def yT0 : List AV → Nat
 | [] => 0
 | v :: vs => if kG1 v = true then 0 else yT0 vs + 1
def dOk (d : Option Tmp) (s : St) : Prop :=
 match d with
 | none => True
 | some t => t < s.n
theorem wq0 {d : Option Tmp} {s : St} (h : dOk d s) : ∀ t, d = some t → t < s.n := by
 intro t ht; subst ht; exact h
def pG0 : Eff → Option Tmp → St → Prop
 | .new _ _, some t, s => t < s.n ∧ s.lb t = none
 | .new _ _, none, _ => False
 | .val _, d, s => dOk d s
 | .upd _ _ _, d, s => dOk d s
theorem nX0 {e : Eff} {d : Option Tmp} {s : St} (h : pG0 e d s) : e.ok d s := by
 cases e with
 | val v => exact wq0 h
 | new v B =>
  cases d with
  | none => exact h.elim
  | some t => exact ⟨t, rfl, h.1, h.2⟩
 | upd v l B => exact wq0 h
def sE0 (lb : Lk) (ρ : Nat → Nat) (m : Nat) (ls : List Nat) : List AV → List AV → Prop
 | [], [] => True
 | v :: vs, d :: ds => (if xg1 d = true then v = d.ren1 ρ ∧ lJ0 m d = true else (kS1 lb v ∧ vAV lb v = d) ∧ fy0 ls v.owns = true) ∧ sE0 lb ρ m ls vs ds
 | _, _ => False
theorem be0 {lb : Lk} {ρ : Nat → Nat} {m : Nat} {ls : List Nat} : ∀ {vs ds : List AV}, sE0 lb ρ m ls vs ds → conA (wm0 lb) ρ m ls vs ds
 | [], [], _ => trivial
 | v :: vs, d :: ds, h => by
  simp only [sE0] at h
  simp only [conA]
  refine ⟨?_, be0 h.2⟩
  have h1 := h.1
  split at h1
  ·rename_i e; rw [if_pos e]; exact h1
  ·rename_i e; rw [if_neg e]; exact ⟨by rw [← h1.1.2]; exact fF0 h1.1.1, h1.2⟩
 | [], _ :: _, h => h.elim
 | _ :: _, [], h => h.elim
def wa1 (vs args : List AV) (Bs Bs' : List LB) (ls ns : List Nat) (s : St) : Prop :=
 (ls ++ ns).Nodup ∧ lH0 s.lb (idx (ls ++ ns)) ls Bs ∧ sE0 s.lb (idx (ls ++ ns)) Bs.length ls vs args ∧ vp0 s ns ∧ (ls ++ ns).length = Bs'.length
def dV1 (P : Program) (tab : Tab) (fid : FuncId) (nt : Prop) (ds vs : List AV) (d : Option Tmp) (s s' : St) : Prop := ∀ (o : Oper) (args : Array Operand) (ts : Array TypeId) (f : Operand), o.op = .call ⟨.value f, args, ts⟩ → xq0 (opv s f) = some fid → args.toList.map (opv s) = vs → o.dst = d → (∀ t, d = some t → t < s.n) →
 qb0 s.lb vs ds → (nt → zJ0 s.lb vs ds) → cq0 P tab o s s'
def dq1 (P : Program) (tab : Tab) (fid : FuncId) (ds1 ds2 vs : List AV) (d : Option Tmp) (s s' : St) : Prop := ∀ (o : Oper) (args : Array Operand) (ts : Array TypeId) (f : Operand), o.op = .call ⟨.value f, args, ts⟩ → xq0 (opv s f) = some fid → args.toList.map (opv s) = vs → o.dst = d → (∀ t, d = some t → t < s.n) →
 zJ0 s.lb (vs.take (yT0 vs)) ds1 → zJ0 s.lb (vs.drop (yT0 vs + 1)) ds2 → cq0 P tab o s s'
def vY1 (P : Program) (tab : Tab) (x : Bool) (fid : FuncId) (nt : Prop) (ds vs : List AV) (d : Option Tmp) (s : St) (k : St → Prop) : Prop :=
 (∃ r, Sat P fid ds r ∧ nt ∧ k ((s.frzs (vs.flatMap AV.owns)).set d r)) ∨
 (∃ r, Sat P fid ds r ∧ yu0 r = true ∧ k (s.set d r)) ∨
 (∃ r t, SatF P fid ds r ∧ d = some t ∧ s.lb t = none ∧ k ((s.put t (.tok (flR r))).set d (tkR t r))) ∨
 (nt ∧ vs.flatMap AV.owns = [] ∧ ∃ e sz rows r t, SatO P fid ds e sz rows r ∧ d = some t ∧ s.lb t = none ∧ k ((s.put t (.arr e sz rows false)).set d (lK0 t r))) ∨
 (∃ e sz rows n t, SatO P fid ds e sz rows (.one (.own 0 n)) ∧ pd0 rows = true ∧ d = some t ∧ s.lb t = none ∧ k ((s.put t (.arr e sz rows false)).set d (.one (.own t n)))) ∨
 (nt ∧ vs.flatMap AV.owns = [] ∧ ∃ cells t, vD1 P fid ds cells ∧ d = some t ∧ s.lb t = none ∧ k ((s.put t (.var cells)).set d (.one (.ptr t 0)))) ∨
 (x = true ∧ ∃ s', dV1 P tab fid nt ds vs d s s' ∧ k s')
def vZ1 (P : Program) (tab : Tab) (x : Bool) (fid : FuncId) (ds1 ds2 vs : List AV) (d : Option Tmp) (s : St) (k : St → Prop) : Prop :=
 x = true ∧ ∃ s', dq1 P tab fid ds1 ds2 vs d s s' ∧ k s'
def jg1 (P : Program) (tab : Tab) (x : Bool) (s : St) (d : Option Tmp) (f : Operand) (args : List Operand) (k : St → Prop) : Prop :=
 match xq0 (opv s f) with
 | none => (match opv s f with
  | .one (.clo fid caps) => x = true ∧ cD0 s.lb (args.map (opv s)) ∧ dOk d s ∧ fQ0 caps ∧ ∃ r, Sat P fid (cp0 s.lb (args.map (opv s)) ++ caps.map .one) r ∧ yu0 r = true ∧ k (s.set d r)
  | _ => False)
 | some fid => if dh0 (args.map (opv s)) = true then xb0 s.lb ((args.map (opv s)).take (yT0 (args.map (opv s)))) ∧ xb0 s.lb ((args.map (opv s)).drop (yT0 (args.map (opv s)) + 1)) ∧ dOk d s ∧ vZ1 P tab x fid (cp0 s.lb ((args.map (opv s)).take (yT0 (args.map (opv s))))) (cp0 s.lb ((args.map (opv s)).drop (yT0 (args.map (opv s)) + 1))) (args.map (opv s)) d s k
  else if dg0 (args.map (opv s)) = true then x = true ∧ sg0 s.lb (args.map (opv s)) ∧ dOk d s ∧ ∃ r, Sat P fid (vJ1 s.lb (args.map (opv s))) r ∧ yu0 r = true ∧ k (s.set d r)
  else cD0 s.lb (args.map (opv s)) ∧ dOk d s ∧ vY1 P tab x fid (fx0 (args.map (opv s))) (cp0 s.lb (args.map (opv s))) (args.map (opv s)) d s k
def fw1 (tab : Tab) (o : Oper) (s : St) (k : St → Prop) : Prop :=
 match kQ0 tab o s with
 | some (p, e) => p ∧ pG0 e o.dst s ∧ (p → k (e.app o.dst s))
 | none => False
def dX1 (tab : Tab) (o : Oper) (s : St) (k : St → Prop) : Prop :=
 match vE1 tab o s with
 | some (p, s') => p ∧ dOk o.dst s ∧ (p → k s')
 | none => False
def dY1 (tab : Tab) (x : Bool) (o : Oper) (s : St) (k : St → Prop) : Prop :=
 match kQ0 tab o s with
 | some (p, e) => p ∧ pG0 e o.dst s ∧ (p → k (e.app o.dst s))
 | none => x = true ∧ dX1 tab o s k
def vE0 (P : Program) (tab : Tab) (x : Bool) (o : Oper) (s : St) (k : St → Prop) : Prop :=
 match o.op with
 | .call ⟨.value f, args, _⟩ => jg1 P tab x s o.dst f args.toList k
 | .call ⟨.builtin .append, _, _⟩ => dY1 tab x o s k
 | _ => fw1 tab o s k
def wT1 (ops : Array Oper) (o : Oper) (s : St) (k : Bool → Prop) : Prop :=
 match o.guard with
 | none => k true
 | some (j, wnt) => match (ops[j]?).bind (·.dst) with
  | none => False
  | some d => match s.sl d with
   | .one (.c (.v (.bool x))) => (x = wnt → k true) ∧ (x = (!wnt) → k false)
   | .tup [] => k false
   | _ => False
def ta0 (P : Program) (tab : Tab) (x : Bool) (ops : Array Oper) : List Oper → St → (St → Prop) → Prop
 | [], s, k => k s
 | o :: os, s, k => wT1 ops o s fun b => if b = true then vE0 P tab x o s (fun s' => ta0 P tab x ops os s' k) else dOk o.dst s ∧ ta0 P tab x ops os (s.set o.dst (.tup [])) k
theorem qV1 {o : Oper} {s : St} {k : St → Prop} (h : fw1 tab o s k) : ∃ s', tb0 tab o s s' ∧ k s' := by
 unfold fw1 at h
 split at h
 ·rename_i p e ho
  exact ⟨_, ⟨p, e, ho, h.1, nX0 h.2.1, rfl⟩, h.2.2 h.1⟩
 ·exact h.elim
def dS1 (P : Program) (tab : Tab) (x : Bool) (o : Oper) (s s' : St) : Prop := xk1 P tab o s s' ∨ (x = true ∧ cq0 P tab o s s')
theorem tm0 {x : Bool} {o : Oper} {s : St} {k : St → Prop} (h : vE0 P tab x o s k) : ∃ s', dS1 P tab x o s s' ∧ k s' := by
 unfold vE0 at h
 split at h
 ·rename_i f args ts hop
  unfold jg1 at h
  split at h
  ·rename_i hf0
   split at h
   ·rename_i fid caps hv
    obtain ⟨hx, h1, h2, h3, r, k1, k2, k3⟩ := h
    exact ⟨_, .inr ⟨hx, qJ0 hop, fun _ w0 M0 F0 F g a w hs K Q hK => lS0 hs ⟨⟨.value f, args, ts⟩, f, fid, caps, _, r, hop, rfl, hv, wq0 h2, wj0 h1, h3, k1, k2, rfl⟩ hK⟩, k3⟩
   ·exact h.elim
  ·rename_i fid hf
   split at h
   ·obtain ⟨o1, o2, h2, hx, s', k1, k2⟩ := h
    exact ⟨s', .inr ⟨hx, k1 o args ts f hop hf rfl rfl (wq0 h2) (qZ0 o1) (qZ0 o2)⟩, k2⟩
   split at h
   ·obtain ⟨hx, h1, h2, r, k1, k2, k3⟩ := h
    exact ⟨_, .inr ⟨hx, qJ0 hop, fun _ w0 M0 F0 F g a w hs K Q hK => lQ0 hs ⟨⟨.value f, args, ts⟩, f, fid, _, r, hop, rfl, hf, wq0 h2, bO0 h1, k1, k2, rfl⟩ hK⟩, k3⟩
   obtain ⟨h1, h2, h3⟩ := h
   have by_ : ∀ s', td0 P fid (args.toList.map (opv s)) o.dst s s' → dS1 P tab x o s s' := fun s' hb => .inl (.inr ⟨⟨.value f, args, ts⟩, f, fid, hop, rfl, hf, wq0 h2, hb⟩)
   rcases h3 with ⟨r, k1, k2, k3⟩ | ⟨r, k1, k2, k3⟩ | ⟨r, t, k1, k2, k3, k4⟩ | ⟨hnt, hno, e, sz, rows, r, t, k1, k2, k3, k4⟩ | ⟨e, sz, rows, n, t, k1, k2, k3, k4, k5⟩ | ⟨hnt, hno, cells, t, k1, k2, k3, k4⟩ | ⟨hx, s', k1, k2⟩
   ·exact ⟨_, by_ _ (.inl ⟨_, r, qZ0 (yS0 h1 k2), k1, rfl⟩), k3⟩
   ·exact ⟨_, by_ _ (.inr (.inl ⟨_, r, wj0 h1, k1, k2, rfl⟩)), k3⟩
   ·exact ⟨_, by_ _ (.inr (.inr (.inl ⟨_, r, t, wj0 h1, k1, k2, k3, rfl⟩))), k4⟩
   ·exact ⟨_, by_ _ (.inr (.inr (.inr (.inl ⟨_, e, sz, rows, r, t, qZ0 (yS0 h1 hnt), hno, k1, k2, k3, rfl⟩)))), k4⟩
   ·exact ⟨_, by_ _ (.inr (.inr (.inr (.inr (.inl ⟨_, e, sz, rows, n, t, wj0 h1, k1, k2, k3, k4, rfl⟩))))), k5⟩
   ·exact ⟨_, by_ _ (.inr (.inr (.inr (.inr (.inr ⟨_, cells, t, qZ0 (yS0 h1 hnt), hno, k1, k2, k3, rfl⟩))))), k4⟩
   ·exact ⟨s', .inr ⟨hx, k1 o args ts f hop hf rfl rfl (wq0 h2) (wj0 h1) (fun hnt => qZ0 (yS0 h1 hnt))⟩, k2⟩
 ·unfold dY1 at h
  split at h
  ·rename_i p e ho
   exact ⟨_, .inl (.inl ⟨p, e, ho, h.1, nX0 h.2.1, rfl⟩), h.2.2 h.1⟩
  ·obtain ⟨hx, h⟩ := h
   unfold dX1 at h
   split at h
   ·rename_i p s' ho
    exact ⟨s', .inr ⟨hx, ActsB.toW ⟨p, ho, h.1, wq0 h.2.1⟩⟩, h.2.2 h.1⟩
   ·exact h.elim
 ·obtain ⟨s', h1, h2⟩ := qV1 h
  exact ⟨s', .inl (.inl h1), h2⟩
theorem tW0 {ops : Array Oper} {o : Oper} {s : St} {k : Bool → Prop} (h : wT1 ops o s k) : ∃ b, cs0 ops o s b ∧ k b := by
 unfold wT1 at h
 unfold cs0
 split at h
 ·rename_i hg; exact ⟨true, by rw [hg], h⟩
 ·rename_i j wnt hg
  rw [hg]
  simp only
  split at h
  ·exact h.elim
  ·rename_i d hd
   split at h
   ·rename_i x hx
    by_cases e : x = wnt
    ·exact ⟨true, ⟨d, hd, .inl ⟨x, hx, by simp [e]⟩⟩, h.1 e⟩
    ·have e' : x = !wnt := by cases x <;> cases wnt <;> first | rfl | exact absurd rfl e
     exact ⟨false, ⟨d, hd, .inl ⟨x, hx, by cases x <;> cases wnt <;> first | rfl | exact absurd rfl e⟩⟩, h.2 e'⟩
   ·rename_i hx
    exact ⟨false, ⟨d, hd, .inr ⟨hx, rfl⟩⟩, h⟩
   ·exact h.elim
theorem we0 {x : Bool} {ops : Array Oper} : ∀ {l : List Oper} {s : St} {k : St → Prop}, ta0 P tab x ops l s k → ∃ s', vk0 P tab x ops l s s' ∧ k s'
 | [], s, _, h => ⟨s, rfl, h⟩
 | o :: os, s, k, h => by
  obtain ⟨b, hw, h⟩ := tW0 h
  cases b with
  | true =>
   simp only [if_true] at h
   obtain ⟨s1, h1, h2⟩ := tm0 h
   obtain ⟨s2, h3, h4⟩ := we0 h2
   refine ⟨s2, ⟨s1, ?_, h3⟩, h4⟩
   rcases h1 with h1 | ⟨hx, h1⟩
   ·exact .inl (.inl ⟨hw, h1⟩)
   ·exact .inr ⟨hx, hw, h1⟩
  | false =>
   simp only [Bool.false_eq_true, if_false] at h
   obtain ⟨s2, h3, h4⟩ := we0 h.2
   exact ⟨s2, ⟨_, .inl (.inr ⟨hw, wq0 h.1, rfl⟩), h3⟩, h4⟩
def AWP (P : Program) (c : Code) (Q : Exit → St → Prop) (s : St) : Prop :=
 ∀ w0 M0 F0 a w, wT0 w0 M0 F0 s a w → c.wp P (fun e a' w' => ∃ s', Q e s' ∧ wT0 w0 M0 F0 s' a' w') a w
def fC0 (k : St → Prop) (Q : Exit → St → Prop) : Exit → St → Prop
 | .normal, s => k s
 | e, s => Q e s
def jA0 (id : Nat) (Q : Exit → St → Prop) : Exit → St → Prop
 | .exit id', s => if id' = id then Q .normal s else Q (.exit id') s
 | e, s => Q e s
def qv1 (Q : Exit → St → Prop) : Exit → St → Prop
 | .goto _, _ => False
 | e, s => Q e s
def qD1 (P : Program) (c : Code) (Q : Exit → St → Prop) (s : St) : Prop := AWP P (.loop c) Q s
def qd0 (P : Program) (tab : Tab) : Code → (Exit → St → Prop) → St → Prop
 | .skip, Q, s => Q .normal s
 | .region _ ops draw, Q, s => ta0 P tab (!draw || yf0 ops) ops ops.toList s (Q .normal)
 | .seq a b, Q, s => qd0 P tab a (fC0 (qd0 P tab b Q) Q) s
 | .cond c a b, Q, s => match opv s c with
  | .one (.c (.v (.bool t))) => (t = true → qd0 P tab a Q s) ∧ (t = false → qd0 P tab b Q s)
  | _ => False
 | .block id c, Q, s => qd0 P tab c (jA0 id Q) s
 | .exit id, Q, s => Q (.exit id) s
 | .ret, Q, s => Q .ret s
 | .scope c, Q, s => qd0 P tab c (qv1 Q) s
 | .loop c, Q, s => qD1 P c Q s
 | _, _, _ => False
def qo0 : Code → Bool
 | .region _ ops draw => !draw || fZ0 ops
 | .seq a b => qo0 a && qo0 b
 | .cond _ a b => qo0 a && qo0 b
 | .block _ c => qo0 c
 | .scope c => qo0 c
 | .loop c => qo0 c
 | _ => true
theorem zn0 (hT : zU0 P tab) (hm : P.follows .mixedOrders = true) : ∀ (c : Code) (Q : Exit → St → Prop) (s : St), qo0 c = true → qd0 P tab c Q s → AWP P c Q s
 | .skip, Q, s, _, h => fun w0 M0 F0 a w hs => wp_skip ⟨s, h, hs⟩
 | .exit id, Q, s, _, h => fun w0 M0 F0 a w hs => wp_exit ⟨s, h, hs⟩
 | .ret, Q, s, _, h => fun w0 M0 F0 a w hs => wp_ret ⟨s, h, hs⟩
 | .region id ops draw, Q, s, hok, h => fun w0 M0 F0 a w hs => by
  obtain ⟨s', h1, h2⟩ := we0 h
  refine vw0 hT hm ?_ h1 hs (fun a' w' hs' => ⟨s', h2, hs'⟩)
  intro hd
  subst hd
  simpa [qo0] using hok
 | .seq x y, Q, s, hok, h => fun w0 M0 F0 a w hs => by
  simp only [qo0, Bool.and_eq_true] at hok
  refine wp_seq (wp_mono (zn0 hT hm x _ s hok.1 h w0 M0 F0 a w hs) ?_)
  rintro e a' w' ⟨s', hq, hs'⟩
  cases e with
  | normal => exact zn0 hT hm y Q s' hok.2 hq w0 M0 F0 a' w' hs'
  | _ => exact ⟨s', hq, hs'⟩
 | .cond c x y, Q, s, hok, h => fun w0 M0 F0 a w hs => by
  simp only [qo0, Bool.and_eq_true] at hok
  simp only [qd0] at h
  split at h
  ·rename_i t ht
   obtain ⟨F, g, hsim⟩ := hs
   have hc := zm0 hsim c
   rw [ht] at hc
   have hc := hc.c_v
   cases t with
   | true => exact wp_cond_true hc (zn0 hT hm x Q s hok.1 (h.1 rfl) w0 M0 F0 a w ⟨F, g, hsim⟩)
   | false => exact wp_cond_false hc (zn0 hT hm y Q s hok.2 (h.2 rfl) w0 M0 F0 a w ⟨F, g, hsim⟩)
  ·exact h.elim
 | .block id c, Q, s, hok, h => fun w0 M0 F0 a w hs => by
  refine wp_block (wp_mono (zn0 hT hm c _ s hok h w0 M0 F0 a w hs) ?_)
  rintro e a' w' ⟨s', hq, hs'⟩
  cases e with
  | exit id' =>
   simp only [jA0] at hq
   simp only [Exit.inBlock]
   split
   ·rename_i e; rw [if_pos e] at hq; exact ⟨s', hq, hs'⟩
   ·rename_i e; rw [if_neg e] at hq; exact ⟨s', hq, hs'⟩
  | _ => exact ⟨s', hq, hs'⟩
 | .scope c, Q, s, hok, h => fun w0 M0 F0 a w hs => by
  refine wp_scope_straight (wp_mono (zn0 hT hm c _ s hok h w0 M0 F0 a w hs) ?_)
  rintro e a' w' ⟨s', hq, hs'⟩
  cases e with
  | goto l => exact hq.elim
  | _ => exact ⟨s', hq, hs'⟩
 | .loop c, Q, s, _, h => h
 | .rangeFunc .., _, _, _, h => h.elim
 | .label _, _, _, _, h => h.elim
 | .goto _, _, _, _, h => h.elim
 | .refuse _, _, _, _, h => h.elim
theorem AWP.mono {c : Code} {Q Q' : Exit → St → Prop} {s : St} (h : AWP P c Q s) (hq : ∀ e s, Q e s → Q' e s) : AWP P c Q' s :=
 fun w0 M0 F0 a w hs => wp_mono (h w0 M0 F0 a w hs) (fun _ _ _ ⟨s', k, hs'⟩ => ⟨s', hq _ _ k, hs'⟩)
def inC (lb : Lk) : AC → Prop
 | .own l _ => lb l ≠ none
 | .ptr l _ => lb l ≠ none
 | .ep l _ _ _ => lb l ≠ none
 | .tk l _ => lb l ≠ none
 | .clo _ caps => fQ0 caps
 | _ => True
def inB (lb : Lk) : LB → Prop
 | .var cells => ∀ a, a ∈ cells → inC lb a
 | .arr _ _ rows _ => ∀ r, r ∈ rows → ∀ a, a ∈ r → inC lb a
 | _ => True
def inV (lb : Lk) : AV → Prop
 | .one a => inC lb a
 | .agg as => ∀ a, a ∈ as → inC lb a
 | .tup [] => True
 | .tup _ => False
 | .any => True
structure Le (s s' : St) : Prop where
 n : s'.n = s.n
 sl : ∀ t, s'.sl t = .any ∨ (s'.sl t = s.sl t ∧ inV s'.lb (s'.sl t))
 lb : ∀ l B, s'.lb l = some B → s.lb l = some B ∧ inB s'.lb B
 gh : s'.gh = s.gh ∧ ∀ v, v ∈ s.gh → inV s'.lb v
section
variable {w : World} {F : Fz} {g : Gh} {lb lb' : Lk}
theorem fh0 : ∀ (as : List AC) (us : List Value), fQ0 as → RepACs w F lb g as us → RepACs w F lb' g as us
 | [], us, _, h => by simpa only [RepACs] using h
 | x :: as, us, ho, h => by
  simp only [RepACs] at h ⊢
  obtain ⟨u, us', rfl, h1, h2⟩ := h
  cases x <;> simp only [fQ0] at ho
  case ip cs => exact ⟨u, us', rfl, by simpa only [RepAC] using h1, fh0 as us' ho h2⟩
theorem mO0 (hs : ∀ l B, lb' l = some B → lb l = some B) {a : AC} (hi : inC lb' a) {u : Value} (h : RepAC w F lb g a u) : RepAC w F lb' g a u := by
 have look : ∀ l, lb' l ≠ none → lb' l = lb l := by
  intro l hl
  cases hb : lb' l with
  | none => exact absurd hb hl
  | some B => exact (hs l B hb).symm
 cases a <;> simp only [inC] at hi <;> simp only [RepAC] at h ⊢ <;> try exact h
 case own l n => rw [look l hi]; exact h
 case ptr l n => rw [look l hi]; exact h
 case ep l n i o => rw [look l hi]; exact h
 case tk l i => rw [look l hi]; exact h
 case clo f caps => obtain ⟨us, h1, h2⟩ := h; exact ⟨us, h1, fh0 caps us hi h2⟩
theorem br0 (hs : ∀ l B, lb' l = some B → lb l = some B) : ∀ {as : List AC}, (∀ a, a ∈ as → inC lb' a) → ∀ {us : List Value}, RepACs w F lb g as us → RepACs w F lb' g as us
 | [], _, us, h => by simpa only [RepACs] using h
 | a :: as, hi, us, h => by
  simp only [RepACs] at h ⊢
  obtain ⟨u, us', rfl, h1, h2⟩ := h
  exact ⟨u, us', rfl, mO0 hs (hi a (by simp)) h1, br0 hs (fun b hb => hi b (by simp [hb])) h2⟩
theorem pP0 (hs : ∀ l B, lb' l = some B → lb l = some B) : ∀ {as : List AC}, (∀ a, a ∈ as → inC lb' a) → ∀ {us : List Value} {S : List Nat}, RepCells w F lb g as us S → RepCells w F lb' g as us S
 | [], _, us, S, h => by simpa only [RepCells] using h
 | a :: as, hi, us, S, h => by
  simp only [RepCells] at h ⊢
  obtain ⟨u, us', S1, S2, rfl, rfl, h1, h2⟩ := h
  refine ⟨u, us', S1, S2, rfl, rfl, ?_, pP0 hs (fun b hb => hi b (by simp [hb])) h2⟩
  have := hi a (by simp)
  cases a
  case d x => exact h1
  case m x => exact h1
  all_goals exact ⟨mO0 hs this h1.1, h1.2⟩
theorem zr1 (hs : ∀ l B, lb' l = some B → lb l = some B) {v : AV} (hi : inV lb' v) {u : Value} (h : RepAV w F lb g v u) : RepAV w F lb' g v u := by
 cases v with
 | one a => simp only [RepAV] at h ⊢; exact mO0 hs hi h
 | agg as => simp only [RepAV] at h ⊢; obtain ⟨us, h1, h2⟩ := h; exact ⟨us, h1, br0 hs hi h2⟩
 | tup vs =>
  cases vs with
  | nil => simpa only [RepAV, RepAVs] using h
  | cons v vs => exact hi.elim
 | any => simp only [RepAV]
theorem nk0 (hs : ∀ l B, lb' l = some B → lb l = some B) : ∀ {vs : List AV}, (∀ v, v ∈ vs → inV lb' v) → ∀ {us : List Value}, RepAVs w F lb g vs us → RepAVs w F lb' g vs us
 | [], _, us, h => by simpa only [RepAVs] using h
 | v :: vs, hi, us, h => by
  simp only [RepAVs] at h ⊢
  obtain ⟨u, us', rfl, h1, h2⟩ := h
  exact ⟨u, us', rfl, zr1 hs (hi v (by simp)) h1, nk0 hs (fun b hb => hi b (by simp [hb])) h2⟩
end
theorem Sim.le {w0 : World} {M0 : Ms} {F0 F : Fz} {g : Gh} {s s' : St} {a : Act} {w : World} (h : Sim w0 M0 F0 F g s a w) (k : Le s s') : Sim w0 M0 F0 F g s' a w where
 sz := by rw [k.n]; exact h.sz
 df := h.df
 sl := fun i => by
  rcases k.sl i with e | ⟨e, hi⟩
  ·rw [e]; simp only [RepAV]
  ·rw [e] at hi ⊢
   exact zr1 (fun l B hl => (k.lb l B hl).1) hi (h.sl i)
 gh := by rw [k.gh.1]; exact nk0 (fun l B hl => (k.lb l B hl).1) k.gh.2 h.gh
 lb := fun l B hl => by
  obtain ⟨h1, h2⟩ := k.lb l B hl
  have hb := h.lb l B h1
  have hs := fun l B hl => (k.lb l B hl).1
  cases B with
  | var cells => obtain ⟨cs, e, k1, k2, k3⟩ := hb; exact ⟨cs, e, k1, br0 hs h2 k2, k3⟩
  | arr e sz rows fz =>
   obtain ⟨k1, k2, xs, S, k3, k4, k5⟩ := hb
   refine ⟨k1, k2, xs, S, k3, pP0 hs (fun a ha => ?_) k4, k5⟩
   obtain ⟨r, hr, har⟩ := List.mem_flatten.1 ha
   exact h2 r hr a har
  | tok x => exact hb
  | dead => trivial
 so := fun l B hl => h.so l B (k.lb l B hl).1
 nd := fun l B hl => h.nd l B (k.lb l B hl).1
 dj := fun l l' B B' hne hl hl' => h.dj l l' B B' hne (k.lb l B hl).1 (k.lb l' B' hl').1
 nw := fun l B hl => h.nw l B (k.lb l B hl).1
 f0 := h.f0
 f1 := h.f1
 f2 := h.f2
 tb := h.tb
 os := h.os
 tape := h.tape
 output := h.output
 size := h.size
 block := h.block
def Wk (s s' : St) : Prop := ∀ w0 M0 F0 a w, wT0 w0 M0 F0 s a w → wT0 w0 M0 F0 s' a w
theorem Le.wk {s s' : St} (k : Le s s') : Wk s s' := fun _ _ _ _ _ ⟨F, g, hs⟩ => ⟨F, g, hs.le k⟩
theorem Wk.refl (s : St) : Wk s s := fun _ _ _ _ _ h => h
theorem Wk.trans {s s' s'' : St} (h : Wk s s') (k : Wk s' s'') : Wk s s'' := fun w0 M0 F0 a w hs => k w0 M0 F0 a w (h w0 M0 F0 a w hs)
theorem AWP.wk {c : Code} {Q : Exit → St → Prop} {s s' : St} (k : Wk s s') (h : AWP P c Q s') : AWP P c Q s :=
 fun w0 M0 F0 a w hs => h w0 M0 F0 a w (k w0 M0 F0 a w hs)
theorem AWP.le {c : Code} {Q : Exit → St → Prop} {s s' : St} (k : Le s s') (h : AWP P c Q s') : AWP P c Q s :=
 fun w0 M0 F0 a w ⟨F, g, hs⟩ => h w0 M0 F0 a w ⟨F, g, hs.le k⟩
theorem gB0 {ι : Type} {c : Code} {Q : Exit → St → Prop} {s : St} (S : ι → St) (μ : ι → Nat) (i0 : ι) (h0 : Wk s (S i0)) (round : ∀ i, AWP P c (fC0 (fun s' => ∃ j, Wk s' (S j) ∧ μ j < μ i) Q) (S i)) : qD1 P c Q s := by
 intro w0 M0 F0 a w hs
 have key : ∀ m i a w, μ i < m → wT0 w0 M0 F0 (S i) a w → Code.rounds P c (fun e a' w' => ∃ s', Q e s' ∧ wT0 w0 M0 F0 s' a' w') m a w := by
  intro m
  induction m with
  | zero => intro i a w h; omega
  | succ m ih =>
   intro i a w hi hs
   rw [rounds_succ]
   refine wp_mono (round i w0 M0 F0 a w hs) ?_
   rintro e a' w' ⟨s', hq, hs'⟩
   cases e with
   | normal =>
    obtain ⟨j, hle, hlt⟩ := hq
    exact ih j a' w' (by omega) (hle _ _ _ _ _ hs')
   | _ => exact ⟨s', hq, hs'⟩
 exact wp_loop_rounds (μ i0 + 1) (key _ i0 a w (by omega) (h0 _ _ _ _ _ hs))
end Go.Ai
namespace Go.Ai
open Go.RowKit
variable {P : Program} {tab : Tab}
def look (L : List (Nat × AV)) (t : Nat) : AV :=
 match L with
 | [] => .any
 | (k, v) :: L => if t = k then v else look L t
def zR0 (B : List (Nat × LB)) (l : Nat) : Option LB :=
 match B with
 | [] => none
 | (k, b) :: B => if l = k then some b else zR0 B l
theorem qC1 (k : Nat) (v : AV) (L : List (Nat × AV)) (t : Nat) : look ((k, v) :: L) t = if t = k then v else look L t := rfl
theorem qA1 (l : Nat) : zR0 [] l = none := rfl
theorem qr0 (k : Nat) (b : LB) (B : List (Nat × LB)) (l : Nat) : zR0 ((k, b) :: B) l = if l = k then some b else zR0 B l := rfl
def mk (n : Nat) (L : List (Nat × AV)) (B : List (Nat × LB)) (G : List AV := []) : St := ⟨n, look L, zR0 B, G⟩
section
variable (n : Nat) (L : List (Nat × AV)) (B : List (Nat × LB)) (G : List AV)
theorem jO1 (t : Tmp) (v : AV) : (mk n L B G).set (some t) v = mk n ((t, v) :: L) B G := rfl
theorem kM1 (v : AV) : (mk n L B G).set none v = mk n L B G := rfl
theorem vn1 (l : Nat) (b : LB) : (mk n L B G).put l b = mk n L ((l, b) :: B) G := rfl
theorem xc1 : (mk n L B G).n = n := rfl
theorem cB0 (t : Nat) : (mk n L B G).sl t = look L t := rfl
theorem qs0 : (mk n L B G).lb = zR0 B := rfl
theorem pE1 : (mk n L B G).gh = G := rfl
end
def pJ0 (l : Nat) : List (Nat × LB) → List (Nat × LB)
 | [] => []
 | (k, b) :: B => (if k = l then (k, b.frz) else (k, b)) :: pJ0 l B
theorem jJ0 (l k : Nat) : ∀ (B : List (Nat × LB)), zR0 (pJ0 l B) k = if k = l then (zR0 B k).map LB.frz else zR0 B k
 | [] => by simp [pJ0, zR0]
 | (j, b) :: B => by
  by_cases e : j = l
  ·subst e
   by_cases e2 : k = j
   ·subst e2; simp [pJ0, zR0]
   ·simp [pJ0, zR0, e2, jJ0 j k B]
  ·by_cases e2 : k = j
   ·subst e2; simp [pJ0, zR0, e]
   ·simp [pJ0, zR0, e, e2, jJ0 l k B]
theorem nq0 (n : Nat) (L : List (Nat × AV)) (B : List (Nat × LB)) (G : List AV) (l : Nat) : (mk n L B G).frz l = mk n L (pJ0 l B) G := by
 simp only [mk, St.frz]
 congr 1
 funext k
 rw [jJ0]
theorem yI1 (s : St) : s.frzs [] = s := rfl
theorem zd1 (s : St) (l : Nat) (ls : List Nat) : s.frzs (l :: ls) = (s.frz l).frzs ls := rfl
def leL (L : List (Nat × AV)) (lb : Lk) : List (Nat × AV) → Prop
 | [] => True
 | (t, v) :: r => look L t = v ∧ inV lb v ∧ leL L lb r
def leB (B : List (Nat × LB)) (lb : Lk) : List (Nat × LB) → Prop
 | [] => True
 | (l, b) :: r => zR0 B l = some b ∧ inB lb b ∧ leB B lb r
def leG (lb : Lk) : List AV → Prop
 | [] => True
 | v :: G => inV lb v ∧ leG lb G
theorem zw1 {lb : Lk} : ∀ {G : List AV}, leG lb G → ∀ v, v ∈ G → inV lb v
 | _ :: _, h, v, hv => by
  rcases List.mem_cons.1 hv with rfl | hv
  ·exact h.1
  ·exact zw1 h.2 v hv
theorem vi1 {n : Nat} {L L' : List (Nat × AV)} {B B' : List (Nat × LB)} {G : List AV} (h1 : leL L (zR0 B') L') (h2 : leB B (zR0 B') B') (h3 : leG (zR0 B') G) : Le (mk n L B G) (mk n L' B' G) where
 n := rfl
 sl := fun t => by
  simp only [cB0, qs0]
  have : ∀ (X : List (Nat × AV)), leL L (zR0 B') X → look X t = .any ∨ (look X t = look L t ∧ inV (zR0 B') (look X t)) := by
   intro X
   induction X with
   | nil => intro _; exact .inl rfl
   | cons p X ih =>
    obtain ⟨k, v⟩ := p
    rintro ⟨k1, k2, k3⟩
    simp only [look]
    split
    ·rename_i e; subst e; exact .inr ⟨k1.symm, k2⟩
    ·exact ih k3
  exact this L' h1
 lb := fun l b hl => by
  simp only [qs0] at hl ⊢
  have : ∀ (X : List (Nat × LB)), leB B (zR0 B') X → zR0 X l = some b → zR0 B l = some b ∧ inB (zR0 B') b := by
   intro X
   induction X with
   | nil => intro _ h; cases h
   | cons p X ih =>
    obtain ⟨k, v⟩ := p
    rintro ⟨k1, k2, k3⟩ h
    simp only [zR0] at h
    split at h
    ·rename_i e; subst e
     obtain rfl := Option.some.inj h
     exact ⟨k1, k2⟩
    ·exact ih k3 h
  exact this B' h2 hl
 gh := ⟨rfl, zw1 h3⟩
theorem zG0 {n : Nat} {L L' : List (Nat × AV)} {B B' : List (Nat × LB)} {G : List AV} (h1 : leL L (zR0 B') L') (h2 : leB B (zR0 B') B') (h3 : leG (zR0 B') G := by first | trivial | simp [leG, zR0, inV, inC]) : Wk (mk n L B G) (mk n L' B' G) := (vi1 h1 h2 h3).wk
theorem lek {n : Nat} {L L' : List (Nat × AV)} {B B' : List (Nat × LB)} {G : List AV} (h1 : leL L (zR0 B') L' := by simp [go_sem]) (h2 : leB B (zR0 B') B' := by simp [go_sem]) (h3 : leG (zR0 B') G := by first | trivial | simp [leG, zR0, inV, inC]) : Wk (mk n L B G) (mk n L' B' G) := zG0 h1 h2 h3
def qN0 (k : Nat) : List AV → List (Nat × AV)
 | [] => []
 | v :: vs => (k, v) :: qN0 (k + 1) vs
def zy0 : List AV → AV
 | [v] => v
 | vs => .tup vs
def dj1 (tab : Tab) (s : St) : ResultVar → Option (Prop × AV)
 | .tmp t => some (True, s.sl t)
 | .cell a t => cA0 tab s.lb t (s.sl a)
def kG0 (tab : Tab) (s : St) : List ResultVar → Option (Prop × List AV)
 | [] => some (True, [])
 | x :: xs => match dj1 tab s x, kG0 tab s xs with
  | some (p, v), some (q, vs) => some (p ∧ q, v :: vs)
  | _, _ => none
def km1 (tab : Tab) (rs : List ResultVar) (r : AV) (s : St) : Prop :=
 match kG0 tab s rs with
 | some (p, vs) => p ∧ xb0 s.lb vs ∧ zy0 (cp0 s.lb vs) = r
 | none => False
def jV1 (tab : Tab) (rs : List ResultVar) (r : AV) : Exit → St → Prop
 | .normal, s => km1 tab rs r s
 | .ret, s => km1 tab rs r s
 | _, _ => False
theorem kZ0 {w : World} {F : Fz} {lb : Lk} {g : Gh} : ∀ (vs : List AV) (us : List Value) (k i : Nat) (rest : List Value), RepAVs w F lb g vs us →
  look (qN0 k vs) i = .any ∨ (k ≤ i ∧ i < k + vs.length ∧ RepAV w F lb g (look (qN0 k vs) i) ((us ++ rest).getD (i - k) undef))
 | [], _, _, _, _, _ => .inl rfl
 | v :: vs, us, k, i, rest, h => by
  simp only [RepAVs] at h
  obtain ⟨u, us', rfl, h1, h2⟩ := h
  by_cases e : i = k
  ·subst e
   refine .inr ⟨Nat.le_refl _, by simp, ?_⟩
   simpa [qN0, look] using h1
  ·rcases kZ0 vs us' (k + 1) i rest h2 with h | ⟨h3, h4, h5⟩
   ·exact .inl (by simpa [qN0, look, e] using h)
   ·refine .inr ⟨by omega, by simp; omega, ?_⟩
    have : i - k = (i - (k + 1)) + 1 := by omega
    simp only [qN0, look, if_neg e, this]
    simpa using h5
theorem jG0 (l : List Value) (i : Nat) (d : Value) : l.toArray.getD i d = l.getD i d := by
 simp [Array.getD_eq_getD_getElem?]
theorem RepAVs.len {w : World} {F : Fz} {lb : Lk} {g : Gh} : ∀ (vs : List AV) (us : List Value), RepAVs w F lb g vs us → vs.length = us.length
 | [], _, h => by simp only [RepAVs] at h; simp [h]
 | v :: vs, us, h => by
  simp only [RepAVs] at h
  obtain ⟨u, us', rfl, h1, h2⟩ := h
  simp [RepAVs.len vs us' h2]
theorem kY0 {w : World} {F : Fz} {args : List AV} {us : List Value} {n : Nat} (hF : FzOk w F) (hlen : args.length ≤ n) (h : RepAVs w F noLk g0 args us) :
  Sim w ⟨[], []⟩ F F g0 (mk n (qN0 0 args) []) { tmps := us.toArray ++ Array.replicate (n - us.toArray.size) undef, defers := [] } w where
 sz := by have := RepAVs.len _ _ h; simp [xc1]; omega
 df := rfl
 sl := fun i => by
  have e : us.toArray ++ Array.replicate (n - us.toArray.size) undef = (us ++ List.replicate (n - us.length) undef).toArray := by simp
  simp only [cB0, qs0, e, jG0]
  rcases kZ0 args us 0 i (List.replicate (n - us.length) undef) h with h | ⟨_, _, h⟩
  ·rw [h]; simp only [RepAV]
  ·exact RepAV.mono (Stays.refl _ _) ⟨fun l B hl => by simp [noLk] at hl⟩ _ _ h
 gh := rfl
 lb := fun l B hl => by cases hl
 so := fun l B hl => by cases hl
 nd := fun l B hl => by cases hl
 dj := fun l l' B B' _ hl => by cases hl
 nw := fun l B hl => by cases hl
 f0 := fun _ _ h => h
 f1 := fun _ _ h => .inl h
 f2 := hF.lt
 tb := hF.tb.start (fun b hb => by cases hb)
 os := rfl
 tape := rfl
 output := rfl
 size := Nat.le_refl _
 block := fun _ _ _ => rfl
theorem la0 {t : TypeId} {u x : Value} {w : World} (h : (Instr.loadAt t u).run P w = .ok x w) : (do loadVar t (← asAddr u) : Sem Value).run P w = .ok x w := by
 cases u with
 | pointer a =>
  cases a with
  | some a => exact h
  | none => simp [Instr.loadAt, Instr.sureAddr] at h
 | _ => simp [Instr.loadAt, Instr.sureAddr] at h
def qh1 (tmps : Array Value) : ResultVar → Sem Value
 | .tmp t => pure (tmps.getD t undef)
 | .cell b t => do loadVar t (← asAddr (tmps.getD b undef))
theorem gT0 (hT : zU0 P tab) {w0 : World} {M0 : Ms} {F0 F : Fz} {g : Gh} {s : St} {a : Act} {w : World} (h : Sim w0 M0 F0 F g s a w) : ∀ (rs : List ResultVar) (p : Prop) (vs : List AV), kG0 tab s rs = some (p, vs) → p →
  ∃ us, (rs.mapM (m := Sem) (qh1 a.tmps)).run P w = .ok us w ∧ RepAVs w F s.lb g vs us
 | [], p, vs, ho, _ => by
  obtain ⟨rfl, rfl⟩ := Prod.mk.inj (Option.some.inj ho)
  exact ⟨[], rfl, rfl⟩
 | x :: xs, p, vs, ho, hp => by
  simp only [kG0] at ho
  split at ho
  ·rename_i p1 v q vs' hx hxs
   obtain ⟨rfl, rfl⟩ := Prod.mk.inj (Option.some.inj ho)
   obtain ⟨us, k1, k2⟩ := gT0 hT h xs q vs' hxs hp.2
   have : ∃ u, (qh1 a.tmps x).run P w = .ok u w ∧ RepAV w F s.lb g v u := by
    cases x with
    | tmp t =>
     obtain ⟨rfl, rfl⟩ := Prod.mk.inj (Option.some.inj hx)
     exact ⟨_, rfl, h.sl t⟩
    | cell b t =>
     obtain ⟨u, h1, h2⟩ := pS0 (P := P) hT h (h.sl b) hx hp.1
     exact ⟨u, la0 h1, h2⟩
   obtain ⟨u, k3, k4⟩ := this
   refine ⟨u :: us, ?_, u, us, rfl, k4, k2⟩
   rw [List.mapM_cons, Sem.run_bind, k3, Result.andThen_ok, Sem.run_bind, k1]
   rfl
  ·cases ho
def sU0 : List Value → Value
 | [v] => v
 | vs => .tuple vs.toArray
theorem qR0 (hT : zU0 P tab) {w0 : World} {M0 : Ms} {F0 F : Fz} {g : Gh} {s : St} {a : Act} {w : World} (h : Sim w0 M0 F0 F g s a w) {fn : Func} {rs : List ResultVar} {p : Prop} {vs : List AV} (hr : fn.results.toList = rs) (ho : kG0 tab s rs = some (p, vs)) (hp : p) :
  ∃ us : List Value, (results fn a.tmps).run P w = .ok (sU0 us) w ∧ RepAVs w F s.lb g vs us := by
 subst hr
 obtain ⟨us, k1, k2⟩ := gT0 hT h _ p vs ho hp
 refine ⟨us, ?_, k2⟩
 have e : results fn a.tmps = (fn.results.mapM (qh1 a.tmps) >>= fun vs => pure (if h : vs.size = 1 then vs[0] else .tuple vs)) := rfl
 rw [e, Array.mapM_eq_mapM_toList, Sem.run_bind, Sem.run_map, k1]
 cases us with
 | nil => rfl
 | cons u us => cases us <;> rfl
theorem qp1 (hT : zU0 P tab) {w0 : World} {F0 F : Fz} {g : Gh} {s : St} {a : Act} {w : World} (h : Sim w0 ⟨[], []⟩ F0 F g s a w) {fn : Func} {rs : List ResultVar} {r : AV} (hrs : fn.results.toList = rs) (hr : km1 tab rs r s) :
  ∃ v F', (results fn a.tmps).run P w = .ok v w ∧ (∀ b o, F0 b o → F' b o) ∧ (∀ b o, F' b o → F0 b o ∨ w0.heap.size ≤ b) ∧ (∀ b o, F' b o → b < w.heap.size) ∧ RepAV w F' noLk g0 r v := by
 unfold km1 at hr
 split at hr
 case h_2 => exact hr.elim
 rename_i p vs ho
 obtain ⟨hp, h1, rfl⟩ := hr
 obtain ⟨us, hrun, hargs⟩ := qR0 hT h hrs ho hp
 obtain ⟨F1, hs1, u1, p1⟩ := h.freezes (vs.flatMap AV.owns)
 have hargs1 := RepAVs.mono (w := w) (w' := w) ⟨u1, fun _ _ _ => rfl⟩ (Keeps.refl s.lb g) _ _ hargs
 have hv := zW0 h u1 _ _ _ (qZ0 h1) hargs1 (fun l hl => p1 l hl)
 refine ⟨_, F1, hrun, hs1.f0, fun b o hb => (hs1.f1 b o hb).imp id (fun hq => hq.elim id (fun hq => by cases hq)), hs1.f2, ?_⟩
 clear hrun
 generalize hds : cp0 s.lb vs = ds at hv ⊢
 cases ds with
 | nil =>
  simp only [RepAVs] at hv
  subst hv
  simp only [zy0, RepAV, RepAVs]
  exact ⟨[], rfl, rfl⟩
 | cons d ds =>
  simp only [RepAVs] at hv
  obtain ⟨u, us', rfl, k1, k2⟩ := hv
  cases ds with
  | nil => simp only [RepAVs] at k2; subst k2; exact k1
  | cons d' ds =>
   simp only [RepAVs] at k2
   obtain ⟨u', us', rfl, k3, k4⟩ := k2
   simp only [zy0, RepAV, RepAVs]
   exact ⟨u :: u' :: us', rfl, u, u' :: us', rfl, k1, u', us', rfl, k3, k4⟩
theorem bI0 (hT : zU0 P tab) {f : FuncId} {fn : Func} {c : Code} {args : List AV} {r : AV} {rs : List ResultVar} {n : Nat} (hf : P.funcs[f]? = some fn) (hb : fn.body = some c) (hr : fn.results.toList = rs) (hn : fn.ntmps = n) (hname : fn.name ≠ "runtime.NumGoroutine")
  (hlen : args.length ≤ n) (h : AWP P c (jV1 tab rs r) (mk n (qN0 0 args) [])) : Sat P f args r := by
 subst hr hn
 refine ⟨⟨fn, hf, hname, by rw [hb]; simp⟩, fun w F us hF hrep => ?_⟩
 refine calls_of_wp hf hb (wp_mono (h w ⟨[], []⟩ F _ w ⟨F, g0, kY0 hF hlen hrep⟩) ?_)
 rintro e a' w' ⟨s', hq, F1, g1, hs'⟩
 have main : km1 tab fn.results.toList r s' → ∃ v, (results fn a'.tmps).run P w' = .ok v w' ∧ ∃ v' F', Ending.returned v = .returned v' ∧ Below w.heap.size w w' ∧ (∀ b o, F b o → F' b o) ∧ (∀ b o, F' b o → F b o ∨ w.heap.size ≤ b) ∧ (∀ b o, F' b o → b < w'.heap.size) ∧ RepAV w' F' noLk g0 r v' := by
  intro hq
  obtain ⟨v, F', k0, k1, k2, k3, k4⟩ := qp1 hT hs' rfl hq
  exact ⟨v, k0, v, F', rfl, ⟨hs'.os, hs'.tape, hs'.output, hs'.size, fun k hk => hs'.block k hk (fun h => by cases h)⟩, k1, k2, k3, k4⟩
 cases e with
 | normal => exact ⟨hs'.df, main hq⟩
 | ret => exact ⟨hs'.df, main hq⟩
 | _ => exact hq.elim
theorem mm0 (hT : zU0 P tab) (hm : P.follows .mixedOrders = true) {f : FuncId} {fn : Func} {c : Code} {args : List AV} {r : AV} {rs : List ResultVar} {n : Nat} (hf : P.funcs[f]? = some fn) (hb : fn.body = some c) (hr : fn.results.toList = rs) (hn : fn.ntmps = n) (hname : fn.name ≠ "runtime.NumGoroutine")
  (hok : qo0 c = true) (hlen : args.length ≤ n) (h : qd0 P tab c (jV1 tab rs r) (mk n (qN0 0 args) [])) : Sat P f args r :=
 bI0 hT hf hb hr hn hname hlen (zn0 hT hm c _ _ hok h)
theorem soc (hT : zU0 P tab) (hm : P.follows .mixedOrders = true) {f : FuncId} {fn : Func} {c : Code} {args : List AV} {r : AV} {rs : List ResultVar} {n : Nat} (hf : P.funcs[f]? = some fn) (h : qd0 P tab c (jV1 tab rs r) (mk n (qN0 0 args) [])) (hb : fn.body = some c := by exact rfl) (hr : fn.results.toList = rs := by exact rfl) (hn : fn.ntmps = n := by exact rfl) (hname : fn.name ≠ "runtime.NumGoroutine" := by decide +kernel) (hok : qo0 c = true := by decide +kernel) (hlen : args.length ≤ n := by exact Nat.le_of_ble_eq_true rfl) : Sat P f args r := mm0 hT hm hf hb hr hn hname hok hlen h
end Go.Ai
namespace Go.Ai
open Go.RowKit
variable {P : Program} {tab : Tab}
def xC1 : AC → AC → Lk → (Lk → Prop) → Prop
 | .tk k i, .c x, lb, K => (match lb k with
  | some (.tok xs) => xs[i]? = some (some x) ∧ K (rV0 k (.tok (xs.set i none)) lb)
  | _ => False)
 | .own l n, .c (.sl rows'), lb, K => (match lb l with
  | some (.arr _ _ rows _) => n = rows.length ∧ (∀ r, r ∈ rows → ∀ x, x ∈ r → isO x = true) ∧ (rows.map fun r => r.map toC) = rows' ∧ K (rV0 l .dead lb)
  | _ => False)
 | .nil, .c (.sl []), lb, K => K lb
 | .c (.v x), .c (.v x'), lb, K => x = x' ∧ K lb
 | _, _, _, _ => False
def qk1 : List AC → List AC → Lk → (Lk → Prop) → Prop
 | [], [], lb, K => K lb
 | a :: as, d :: ds, lb, K => xC1 a d lb fun lb => qk1 as ds lb K
 | _, _, _, _ => False
def xi1 : AV → AV → Lk → (Lk → Prop) → Prop
 | .one a, .one d, lb, K => xC1 a d lb K
 | .agg as, .agg ds, lb, K => qk1 as ds lb K
 | _, _, _, _ => False
def qn1 : List AV → List AV → Lk → (Lk → Prop) → Prop
 | [], [], lb, K => K lb
 | a :: as, d :: ds, lb, K => xi1 a d lb fun lb => qn1 as ds lb K
 | _, _, _, _ => False
section
variable {w0 : World} {M0 : Ms} {F0 F F' : Fz} {a : Act} {w w' : World} {lb : Lk} {g : Gh}
structure Bare (w : World) (F : Fz) (lb : Lk) (g : Gh) : Prop where
 rep : ∀ l B, lb l = some B → RepLB w F lb g l B
 nd : ∀ l B, lb l = some B → (g.ds l).Nodup
 dj : ∀ l l' B B', l ≠ l' → lb l = some B → lb l' = some B' → ∀ b, b ∈ g.ds l → b ∉ g.ds l'
theorem Sim.bare {s : St} (h : Sim w0 M0 F0 F g s a w) : Bare w F s.lb g := ⟨h.lb, h.nd, h.dj⟩
structure Last (w : World) (F : Fz) (Z : List Nat) (lb : Lk) (S : List Nat) (vs : List AV) (us : List Value) : Prop where
 ex : ∃ g, Bare w F lb g ∧ S.Nodup ∧ (∀ l B, lb l = some B → ∀ b, b ∈ g.ds l → b ∉ S ∧ b ∈ Z) ∧ (∀ b, b ∈ S → b ∈ Z) ∧ RepAVs w F lb g vs us
theorem Bare.put (h : Bare w F lb g) {l : Nat} {B B' : LB} {S' : List Nat} (hl : lb l = some B) (hS : ∀ b, b ∈ S' → b ∈ g.ds l) (hnd : S'.Nodup)
  (hc : (∀ n u, zK0 B (g.hd l) n u → zK0 B' (g.hd l) n u) ∧ (∀ off u, za0 B (g.bl l) off u → za0 B' (g.bl l) off u) ∧
   (∀ n i off u, zx0 B (g.hd l) n i off u → zx0 B' (g.hd l) n i off u) ∧ (∀ i u, qg0 B (g.hd l) i u → qg0 B' (g.hd l) i u))
  (hr : RepLB w F (rV0 l B' lb) (g.upd l (g.bl l) (g.hd l) S') l B') : Bare w F (rV0 l B' lb) (g.upd l (g.bl l) (g.hd l) S') ∧ Keeps lb g (rV0 l B' lb) (g.upd l (g.bl l) (g.hd l) S') := by
 have K : Keeps lb g (rV0 l B' lb) (g.upd l (g.bl l) (g.hd l) S') := Keeps.upd (fun B0 hB => by rw [hl] at hB; obtain rfl := Option.some.inj hB; exact hc)
 have ne : ∀ k, k ≠ l → (g.upd l (g.bl l) (g.hd l) S').bl k = g.bl k ∧ (g.upd l (g.bl l) (g.hd l) S').hd k = g.hd k ∧ (g.upd l (g.bl l) (g.hd l) S').ds k = g.ds k := fun k hk => by simp [Gh.upd, hk]
 have at_ : ∀ k B, k ≠ l → (rV0 l B' lb) k = some B → lb k = some B := fun k B hk hB => by simpa [rV0, hk] using hB
 have at_l : ∀ B, (rV0 l B' lb) l = some B → B = B' := fun B hB => by simpa [rV0, eq_comm] using hB
 have dl : (g.upd l (g.bl l) (g.hd l) S').ds l = S' := by simp [Gh.upd]
 refine ⟨⟨fun k Bk hB => ?_, fun k Bk hB => ?_, fun k k' Bk Bk' hkk hB hB' => ?_⟩, K⟩
 ·by_cases e : k = l
  ·subst e; rw [at_l Bk hB]; exact hr
  ·exact RepLB.mono (Stays.refl _ _) K (ne k e).1 (ne k e).2.1 (ne k e).2.2 (fun _ _ => rfl) (h.rep k Bk (at_ k Bk e hB))
 ·by_cases e : k = l
  ·subst e; rw [dl]; exact hnd
  ·rw [(ne k e).2.2]; exact h.nd k Bk (at_ k Bk e hB)
 ·by_cases e : k = l
  ·subst e
   rw [dl, (ne k' (Ne.symm hkk)).2.2]
   exact fun b hb => h.dj k k' B Bk' hkk hl (at_ k' Bk' (Ne.symm hkk) hB') b (hS b hb)
  ·by_cases e' : k' = l
   ·subst e'
    rw [dl, (ne k e).2.2]
    exact fun b hb hb' => h.dj k k' Bk B e (at_ k Bk e hB) hl b hb (hS b hb')
   ·rw [(ne k e).2.2, (ne k' e').2.2]
    exact h.dj k k' Bk Bk' hkk (at_ k Bk e hB) (at_ k' Bk' e' hB')
theorem wq1 (h : Bare w F lb g) {l n : Nat} {e : TypeId} {sz : Nat} {rows : List (List AC)} {fz : Bool} (hl : lb l = some (.arr e sz rows fz)) (hn : n = rows.length) (ho : ∀ r, r ∈ rows → ∀ x, x ∈ r → isO x = true) {u : Value} (hu : RepAC w F lb g (.own l n) u) :
  Own w (.sl (rows.map fun r => r.map toC)) u (g.ds l) := by
 simp only [RepAC] at hu
 obtain ⟨_, B, hB, hq⟩ := hu
 rw [hl] at hB
 obtain rfl := Option.some.inj hB
 have hux := hq.2 hn
 obtain ⟨hsz, hrl, xs, S, hown, hcells, hds⟩ := h.rep l _ hl
 have hr := bt0 hrl ho hcells
 simp only [Own]
 obtain ⟨hxl, hrow⟩ := hown
 rcases hrow with ⟨k1, k2⟩ | ⟨gg, cap, cur, k1, _, hh, hle, hcm, hcs, htk⟩
 ·have : rows = [] := List.eq_nil_of_length_eq_zero k2
  subst this
  simp only [List.map_nil, OwnRows] at hr
  left
  refine ⟨by rw [hux, k1], rfl, ?_⟩
  rw [hds, k1, hr.2]; rfl
 ·right
  refine ⟨gg, cap, cur, e, sz, S, by rw [hux, k1]; simp, hh, by simpa using hle, hcm, hcs, hsz, by rw [hds, k1]; rfl, ?_⟩
  rw [List.length_map, htk]
  exact hr
theorem bG0 {Z : List Nat} {vs : List AV} {us : List Value} {c d : AC} {u : Value} (hget : ∀ lb g, RepAVs w F lb g vs us → RepAC w F lb g c u) {lb : Lk} {K : Lk → Prop} (hk : xC1 c d lb K) {S : List Nat} (hr : Last w F Z lb S vs us) :
  ∃ lb' Si x, d = .c x ∧ K lb' ∧ Last w F Z lb' (S ++ Si) vs us ∧ Own w x u Si := by
 unfold xC1 at hk
 split at hk
 ·rename_i lb K k i x
  split at hk
  ·rename_i xs hl
   obtain ⟨hx, hk⟩ := hk
   obtain ⟨g, h1, h2, h3, h3z, h4⟩ := hr.ex
   have hu := hget _ _ h4
   simp only [RepAC] at hu
   obtain ⟨_, B, hB, hq⟩ := hu
   rw [hl] at hB
   obtain rfl := Option.some.inj hB
   obtain ⟨us', hq1, hq2⟩ := hq
   obtain ⟨us'', j1, j2⟩ := h1.rep k _ hl
   rw [hq1] at j1
   obtain rfl : us' = us'' := by simpa using j1
   obtain ⟨u', SA, Si, SB, k4, k5, k6, k7, _⟩ := OwnTs.get _ _ _ _ _ j2 hx
   rw [hq2] at k4
   obtain rfl := Option.some.inj k4
   have hnd := h1.nd k _ hl
   rw [k5] at hnd
   rw [List.nodup_append] at hnd
   obtain ⟨n1, n2, n3⟩ := hnd
   rw [List.nodup_append] at n2
   have hsub : ∀ b, b ∈ SA ++ SB → b ∈ g.ds k := fun b hb => by rw [k5]; simp at hb ⊢; rcases hb with hb | hb <;> simp [hb]
   have hsi : ∀ b, b ∈ Si → b ∈ g.ds k := fun b hb => by rw [k5]; simp [hb]
   obtain ⟨b1, b2⟩ := h1.put (B' := .tok (xs.set i none)) (S' := SA ++ SB) hl hsub (by rw [List.nodup_append]; exact ⟨n1, n2.2.1, fun x hx y hy => n3 x hx y (by simp [hy])⟩) ⟨fun _ _ h => h, fun _ _ h => h, fun _ _ _ _ h => h, fun _ _ h => h⟩
    ⟨us', by simp [Gh.upd, hq1], by simpa [Gh.upd] using k7 none [] rfl⟩
   refine ⟨_, Si, x, rfl, hk, ⟨_, b1, ?_, ?_, ?_, RepAVs.mono (Stays.refl _ _) b2 _ _ h4⟩, k6⟩
   ·rw [List.nodup_append]
    exact ⟨h2, n2.1, fun x hx y hy hxy => by subst hxy; exact (h3 k _ hl x (hsi x hy)).1 hx⟩
   ·intro l B hB b hb
    by_cases e : l = k
    ·subst e
     simp only [Gh.upd, if_true] at hb
     refine ⟨fun hb' => ?_, (h3 l _ hl b (hsub b hb)).2⟩
     rcases List.mem_append.1 hb' with hb' | hb'
     ·exact (h3 l _ hl b (hsub b hb)).1 hb'
     ·rcases List.mem_append.1 hb with hb | hb
      ·exact n3 b hb b (by simp [hb']) rfl
      ·exact n2.2.2 b hb' b hb rfl
    ·simp only [rV0, if_neg e] at hB
     simp only [Gh.upd, if_neg e] at hb
     refine ⟨fun hb' => ?_, (h3 l B hB b hb).2⟩
     rcases List.mem_append.1 hb' with hb' | hb'
     ·exact (h3 l B hB b hb).1 hb'
     ·exact h1.dj l k B _ e hB hl b hb (hsi b hb')
   ·intro b hb
    rcases List.mem_append.1 hb with hb | hb
    ·exact h3z b hb
    ·exact (h3 k _ hl b (hsi b hb)).2
  ·exact hk.elim
 ·rename_i lb K l n rows'
  split at hk
  ·rename_i e sz rows fz hl
   obtain ⟨hn, ho, rfl, hk⟩ := hk
   obtain ⟨g, h1, h2, h3, h3z, h4⟩ := hr.ex
   have hu := hget _ _ h4
   have hown := wq1 h1 hl hn ho hu
   obtain ⟨b1, b2⟩ := h1.put (B' := .dead) (S' := []) hl (fun b hb => by cases hb) (by simp) ⟨fun _ _ _ => trivial, fun _ _ _ => trivial, fun _ _ _ _ _ => trivial, fun _ _ _ => trivial⟩ trivial
   refine ⟨_, g.ds l, _, rfl, hk, ⟨_, b1, ?_, ?_, ?_, RepAVs.mono (Stays.refl _ _) b2 _ _ h4⟩, hown⟩
   ·rw [List.nodup_append]
    exact ⟨h2, h1.nd l _ hl, fun x hx y hy hxy => by subst hxy; exact (h3 l _ hl x hy).1 hx⟩
   ·intro l' B hB b hb
    by_cases e : l' = l
    ·subst e
     simp [Gh.upd] at hb
    ·simp only [rV0, if_neg e] at hB
     simp only [Gh.upd, if_neg e] at hb
     refine ⟨fun hb' => ?_, (h3 l' B hB b hb).2⟩
     rcases List.mem_append.1 hb' with hb' | hb'
     ·exact (h3 l' B hB b hb).1 hb'
     ·exact h1.dj l' l B _ e hB hl b hb hb'
   ·intro b hb
    rcases List.mem_append.1 hb with hb | hb
    ·exact h3z b hb
    ·exact (h3 l _ hl b hb).2
  ·exact hk.elim
 ·obtain ⟨g, _, _, _, _, h4⟩ := hr.ex
  have hu := hget _ _ h4
  simp only [RepAC] at hu
  exact ⟨_, [], _, rfl, hk, by simpa using hr, md0 hu⟩
 ·obtain ⟨rfl, hk⟩ := hk
  obtain ⟨g, _, _, _, _, h4⟩ := hr.ex
  have hu := hget _ _ h4
  simp only [RepAC, Rd] at hu
  exact ⟨_, [], _, rfl, hk, by simpa using hr, by simp only [Own]; exact ⟨hu.1, hu.2, trivial⟩⟩
 ·exact hk.elim
theorem pj0 {Z : List Nat} {vs : List AV} {us : List Value} : ∀ {cs ds : List AC} {ws : List Value} (_ : ∀ lb g, RepAVs w F lb g vs us → RepACs w F lb g cs ws) {lb : Lk} {K : Lk → Prop} (_ : qk1 cs ds lb K) {S : List Nat} (_ : Last w F Z lb S vs us),
  ∃ lb' Si xs, ds = List.map AC.c xs ∧ K lb' ∧ Last w F Z lb' (S ++ Si) vs us ∧ OwnCells w xs ws Si
 | [], [], ws, hget, lb, K, hk, S, hr => by
  obtain ⟨g, _, _, _, _, h4⟩ := hr.ex
  have := hget _ _ h4
  simp only [RepACs] at this
  exact ⟨lb, [], [], rfl, hk, by simpa using hr, this, rfl⟩
 | c :: cs, d :: ds, ws, hget, lb, K, hk, S, hr => by
  simp only [qk1] at hk
  obtain ⟨g, _, _, _, _, h4⟩ := hr.ex
  have h5 := hget _ _ h4
  simp only [RepACs] at h5
  obtain ⟨u, ws', rfl, _, _⟩ := h5
  obtain ⟨lb1, S1, x, rfl, k1, k2, k3⟩ := bG0 (c := c) (u := u) (fun lb g h => by
   have := hget lb g h
   simp only [RepACs] at this
   obtain ⟨u', us', e, h5, _⟩ := this
   obtain ⟨rfl, rfl⟩ := List.cons.inj e
   exact h5) hk hr
  obtain ⟨lb2, S2, xs, rfl, j1, j2, j3⟩ := pj0 (cs := cs) (ds := ds) (ws := ws') (fun lb g h => by
   have := hget lb g h
   simp only [RepACs] at this
   obtain ⟨u', us', e, _, h5⟩ := this
   obtain ⟨rfl, rfl⟩ := List.cons.inj e
   exact h5) k1 k2
  exact ⟨lb2, S1 ++ S2, x :: xs, rfl, j1, by simpa [List.append_assoc] using j2, u, ws', S1, S2, rfl, rfl, k3, j3⟩
 | [], _ :: _, _, _, _, _, hk, _, _ => hk.elim
 | _ :: _, [], _, _, _, _, hk, _, _ => hk.elim
theorem tD0 {Z : List Nat} {vs : List AV} {us : List Value} {c d : AV} {u : Value} (hget : ∀ lb g, RepAVs w F lb g vs us → RepAV w F lb g c u) {lb : Lk} {K : Lk → Prop} (hk : xi1 c d lb K) {S : List Nat} (hr : Last w F Z lb S vs us) :
  ∃ lb' Si, K lb' ∧ Last w F Z lb' (S ++ Si) vs us ∧ OwnR1 w d u Si := by
 unfold xi1 at hk
 split at hk
 ·obtain ⟨lb', Si, x, rfl, k1, k2, k3⟩ := bG0 (fun lb g h => by have := hget lb g h; simpa only [RepAV] using this) hk hr
  exact ⟨lb', Si, k1, k2, k3⟩
 ·obtain ⟨g, _, _, _, _, h4⟩ := hr.ex
  have h5 := hget _ _ h4
  simp only [RepAV] at h5
  obtain ⟨ws, rfl, _⟩ := h5
  obtain ⟨lb', Si, xs, rfl, k1, k2, k3⟩ := pj0 (ws := ws) (fun lb g h => by
   have := hget lb g h
   simp only [RepAV] at this
   obtain ⟨ws', e, h5⟩ := this
   obtain rfl : ws = ws' := by simpa using e
   exact h5) hk hr
  exact ⟨lb', Si, k1, k2, xs, ws, rfl, rfl, k3⟩
 ·exact hk.elim
theorem pk0 {Z : List Nat} {vs : List AV} {us : List Value} : ∀ {cs ds : List AV} {ws : List Value} (_ : ∀ lb g, RepAVs w F lb g vs us → RepAVs w F lb g cs ws) {lb : Lk} {K : Lk → Prop} (_ : qn1 cs ds lb K) {S : List Nat} (_ : Last w F Z lb S vs us),
  ∃ lb' Si, K lb' ∧ Last w F Z lb' (S ++ Si) vs us ∧ OwnRs w ds ws Si
 | [], [], ws, hget, lb, K, hk, S, hr => by
  obtain ⟨g, _, _, _, _, h4⟩ := hr.ex
  have := hget _ _ h4
  simp only [RepAVs] at this
  exact ⟨lb, [], hk, by simpa using hr, this, rfl⟩
 | c :: cs, d :: ds, ws, hget, lb, K, hk, S, hr => by
  simp only [qn1] at hk
  obtain ⟨g, _, _, _, _, h4⟩ := hr.ex
  have h5 := hget _ _ h4
  simp only [RepAVs] at h5
  obtain ⟨u, ws', rfl, _, _⟩ := h5
  obtain ⟨lb1, S1, k1, k2, k3⟩ := tD0 (c := c) (u := u) (fun lb g h => by
   have := hget lb g h
   simp only [RepAVs] at this
   obtain ⟨u', us', e, h5, _⟩ := this
   obtain ⟨rfl, rfl⟩ := List.cons.inj e
   exact h5) hk hr
  obtain ⟨lb2, S2, j1, j2, j3⟩ := pk0 (cs := cs) (ds := ds) (ws := ws') (fun lb g h => by
   have := hget lb g h
   simp only [RepAVs] at this
   obtain ⟨u', us', e, _, h5⟩ := this
   obtain ⟨rfl, rfl⟩ := List.cons.inj e
   exact h5) k1 k2
  exact ⟨lb2, S1 ++ S2, j1, by simpa [List.append_assoc] using j2, u, ws', S1, S2, rfl, rfl, k3, j3⟩
 | [], _ :: _, _, _, _, _, hk, _, _ => hk.elim
 | _ :: _, [], _, _, _, _, hk, _, _ => hk.elim
end
def tC0 (tab : Tab) (rs : List ResultVar) (ds : List AV) (s : St) : Prop :=
 match kG0 tab s rs with
 | some (p, vs) => p ∧ qn1 vs ds s.lb fun _ => True
 | none => False
def tB0 (tab : Tab) (rs : List ResultVar) (ds : List AV) : Exit → St → Prop
 | .normal, s => tC0 tab rs ds s
 | .ret, s => tC0 tab rs ds s
 | _, _ => False
theorem OwnRs.len {w : World} : ∀ {rs : List AV} {us : List Value} {S : List Nat}, OwnRs w rs us S → us.length = rs.length
 | [], _, _, h => by simp only [OwnRs] at h; simp [h.1]
 | r :: rs, us, S, h => by
  simp only [OwnRs] at h
  obtain ⟨u, us', S1, S2, rfl, rfl, _, h2⟩ := h
  simp [OwnRs.len h2]
theorem sm0 {w : World} {ds : List AV} {r : AV} {us : List Value} {S : List Nat} (hds : zy0 ds = r) (htup : ∀ vs, r = .tup vs → ds = vs) (h : OwnRs w ds us S) : OwnR w r (sU0 us) S := by
 have hl := h.len
 match ds, us, hl, hds with
 | [d], [u], _, hds =>
  simp only [zy0] at hds
  subst hds
  simp only [OwnRs] at h
  obtain ⟨u', us'', S1, S2, e, rfl, h1, rfl, rfl⟩ := h
  obtain ⟨rfl, _⟩ := List.cons.inj e
  have h2 : OwnR w d u (S1 ++ []) := by
   rw [List.append_nil]
   cases d with
   | tup vs => exact h1.elim
   | _ => exact h1
  exact h2
 | [], [], _, hds =>
  simp only [zy0] at hds
  subst hds
  exact ⟨[], rfl, h⟩
 | d :: d' :: ds, u :: u' :: us, _, hds =>
  simp only [zy0] at hds
  subst hds
  exact ⟨_, rfl, h⟩
theorem po0 (ds : List AV) {r : AV} (hds : zy0 ds = r) (htup : ∀ vs, r = .tup vs → ds = vs) (hT : zU0 P tab) {f : FuncId} {fn : Func} {c : Code} {args : List AV} {rs : List ResultVar} {n : Nat} (hf : P.funcs[f]? = some fn) (hb : fn.body = some c) (hr : fn.results.toList = rs) (hn : fn.ntmps = n) (hname : fn.name ≠ "runtime.NumGoroutine")
  (hlen : args.length ≤ n) (h : AWP P c (tB0 tab rs ds) (mk n (qN0 0 args) [])) : SatF P f args r := by
 subst hr hn
 refine ⟨⟨fn, hf, hname, by rw [hb]; simp⟩, fun w F us hF hrep => ?_⟩
 refine calls_of_wp hf hb (wp_mono (h w ⟨[], []⟩ F _ w ⟨F, g0, kY0 hF hlen hrep⟩) ?_)
 rintro e a' w' ⟨s', hq, F1, g1, hs'⟩
 have main : tC0 tab fn.results.toList ds s' → ∃ v, (results fn a'.tmps).run P w' = .ok v w' ∧ ∃ v' S, Ending.returned v = .returned v' ∧ Below w.heap.size w w' ∧ OwnR w' r v' S ∧ S.Nodup ∧ ∀ b, b ∈ S → w.heap.size ≤ b ∧ b < w'.heap.size := by
  intro hq
  unfold tC0 at hq
  split at hq
  case h_2 => exact hq.elim
  rename_i p vs ho
  obtain ⟨hp, hret⟩ := hq
  obtain ⟨us', hrun, hargs⟩ := qR0 hT hs' rfl ho hp
  obtain ⟨Z, hZ⟩ : ∃ Z : List Nat, ∀ b, b ∈ Z ↔ w.heap.size ≤ b ∧ b < w'.heap.size := ⟨(List.range w'.heap.size).filter (fun b => decide (w.heap.size ≤ b)), fun b => by simp [and_comm]⟩
  have hlast : Last w' F1 Z s'.lb [] vs us' := ⟨g1, hs'.bare, by simp, fun l B hl b hb => ⟨by simp, (hZ b).2 ⟨(hs'.nw l B hl b hb).1.resolve_right (fun hq => by cases hq), (hs'.nw l B hl b hb).2⟩⟩, by simp, hargs⟩
  obtain ⟨lb', S, _, hL, hown⟩ := pk0 (fun _ _ h => h) hret hlast
  rw [List.nil_append] at hL
  obtain ⟨_, _, k1, _, k2, _⟩ := hL.ex
  exact ⟨_, hrun, _, S, rfl, ⟨hs'.os, hs'.tape, hs'.output, hs'.size, fun k hk => hs'.block k hk (fun h => by cases h)⟩, sm0 hds htup hown, k1, fun b hb => (hZ b).1 (k2 b hb)⟩
 cases e with
 | normal => exact ⟨hs'.df, main hq⟩
 | ret => exact ⟨hs'.df, main hq⟩
 | _ => exact hq.elim
theorem gY0 (ds : List AV) {r : AV} (hds : zy0 ds = r) (htup : ∀ vs, r = .tup vs → ds = vs) (hT : zU0 P tab) (hm : P.follows .mixedOrders = true) {f : FuncId} {fn : Func} {c : Code} {args : List AV} {rs : List ResultVar} {n : Nat} (hf : P.funcs[f]? = some fn) (hb : fn.body = some c) (hr : fn.results.toList = rs) (hn : fn.ntmps = n) (hname : fn.name ≠ "runtime.NumGoroutine")
  (hok : qo0 c = true) (hlen : args.length ≤ n) (h : qd0 P tab c (tB0 tab rs ds) (mk n (qN0 0 args) [])) : SatF P f args r :=
 po0 ds hds htup hT hf hb hr hn hname hlen (zn0 hT hm c _ _ hok h)
theorem sfc (ds : List AV) {r : AV} (hds : zy0 ds = r) (htup : ∀ vs, r = .tup vs → ds = vs) (hT : zU0 P tab) (hm : P.follows .mixedOrders = true) {f : FuncId} {fn : Func} {c : Code} {args : List AV} {rs : List ResultVar} {n : Nat} (hf : P.funcs[f]? = some fn) (h : qd0 P tab c (tB0 tab rs ds) (mk n (qN0 0 args) [])) (hb : fn.body = some c := by exact rfl) (hr : fn.results.toList = rs := by exact rfl) (hn : fn.ntmps = n := by exact rfl) (hname : fn.name ≠ "runtime.NumGoroutine" := by decide +kernel) (hok : qo0 c = true := by decide +kernel) (hlen : args.length ≤ n := by exact Nat.le_of_ble_eq_true rfl) : SatF P f args r := gY0 ds hds htup hT hm hf hb hr hn hname hok hlen h
end Go.Ai
