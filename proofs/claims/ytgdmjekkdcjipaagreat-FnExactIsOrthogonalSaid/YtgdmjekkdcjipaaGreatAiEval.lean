/- Running a function's code on abstract states, by simp: the equations, and what simp is not to look into. -/
import Derived.Test.YtgdmjekkdcjipaaGreatAiTab
import Derived.Test.YtgdmjekkdcjipaaGreatAiMoves
import Derived.Attr
set_option linter.unusedVariables false
set_option linter.unusedSimpArgs false
namespace Go.Ai
open Go.RowKit
variable {P : Program} {tab : Tab}
abbrev Kn := Inhabited (St → Prop)
abbrev Qn := Inhabited (Exit → St → Prop)
def CallK (P : Program) (tab : Tab) (x : Bool) (fid : FuncId) (nt : Prop) (ds vs : List AV) (d : Option Tmp) (s : St) [κ : Kn] : Prop := vY1 P tab x fid nt ds vs d s κ.default
section
variable {x : Bool} {fid : FuncId} {nt : Prop} {ds vs : List AV} {d : Option Tmp} {s : St} {κ : Kn} {r : AV}
theorem CallK.mk (h : Sat P fid ds r) (hk : κ.default ((s.frzs (vs.flatMap AV.owns)).set d r)) : @CallK P tab x fid True ds vs d s κ := .inl ⟨r, h, trivial, hk⟩
theorem CallK.own {t : Tmp} (h : SatF P fid ds r) (hf : s.lb t = none) (hk : κ.default ((s.put t (.tok (flR r))).set (some t) (tkR t r))) : @CallK P tab x fid nt ds vs (some t) s κ := .inr (.inr (.inl ⟨r, t, h, rfl, hf, hk⟩))
theorem CallK.outN {t : Tmp} {e : TypeId} {sz : Nat} {rows : List (List AC)} (h : SatO P fid ds e sz rows r) (hno : vs.flatMap AV.owns = []) (hf : s.lb t = none)
  (hk : κ.default ((s.put t (.arr e sz rows false)).set (some t) (lK0 t r))) : @CallK P tab x fid True ds vs (some t) s κ := .inr (.inr (.inr (.inl ⟨trivial, hno, e, sz, rows, r, t, h, rfl, hf, hk⟩)))
theorem CallK.newN {t : Tmp} {cells : List AC} (h : vD1 P fid ds cells) (hno : vs.flatMap AV.owns = []) (hf : s.lb t = none)
  (hk : κ.default ((s.put t (.var cells)).set (some t) (.one (.ptr t 0)))) : @CallK P tab x fid True ds vs (some t) s κ := .inr (.inr (.inr (.inr (.inr (.inl ⟨trivial, hno, cells, t, h, rfl, hf, hk⟩)))))
theorem CallK.new {t : Tmp} {cells : List AC} (hx : x = true) (h : vD1 P fid ds cells) (hno : vs.flatMap AV.owns = []) (hf : s.lb t = none)
  (hk : κ.default ((s.put t (.var cells)).set (some t) (.one (.ptr t 0)))) : @CallK P tab x fid True ds vs (some t) s κ := CallK.newN h hno hf hk
theorem CallK.sem {s' : St} (hx : x = true) (h : dV1 P tab fid nt ds vs d s s') (hk : κ.default s') : @CallK P tab x fid nt ds vs d s κ := .inr (.inr (.inr (.inr (.inr (.inr ⟨hx, s', h, hk⟩)))))
theorem CallK.accD {t : Tmp} {e : TypeId} {sz : Nat} {rows rows' : List (List AC)} {rest : List AV} (j : Nat) (hx : x = true) (h : ff0 P fid (ds.take j) (ds.drop (j + 1)) e sz rows rows' rest) (ha : yz1 vs j e sz rows s) (hf : s.lb t = none)
  (hk : κ.default (((ye0 vs j s).put t (.arr e sz rows' false)).set (some t) (wj1 t rows'.length rest))) : @CallK P tab x fid True ds vs (some t) s κ :=
 CallK.sem hx (fun o args ts f hop hfn hvs hd hdst _ hv => ⟨qJ0 hop, fun _ w0 M0 F0 F g a w hs K Q hK => lO0 hs ⟨⟨.value f, args, ts⟩, f, fid, ds, j, e, sz, rows, rows', rest, t, hop, rfl, hfn, by rw [hd]; exact hdst, by rw [hvs]; exact hv trivial, h, by rw [hvs]; exact ha, hd, hf, by rw [hvs, hd]⟩ hK⟩) hk
theorem CallK.acc {t : Tmp} {e : TypeId} {sz : Nat} {rows rows' : List (List AC)} {rest : List AV} (j : Nat) (h : ff0 P fid (ds.take j) (ds.drop (j + 1)) e sz rows rows' rest) (ha : yz1 vs j e sz rows s) (hf : s.lb t = none)
  (hk : κ.default (((ye0 vs j s).put t (.arr e sz rows' false)).set (some t) (wj1 t rows'.length rest))) : @CallK P tab true fid True ds vs (some t) s κ := CallK.accD j rfl h ha hf hk
theorem CallK.outD {t : Tmp} {e : TypeId} {sz : Nat} {rows : List (List AC)} (hx : x = true) (h : SatO P fid ds e sz rows r) (hf : s.lb t = none)
  (hk : κ.default (((s.frzs (vs.flatMap AV.owns)).put t (.arr e sz rows false)).set (some t) (lK0 t r))) : @CallK P tab x fid True ds vs (some t) s κ :=
 CallK.sem hx (fun o args ts f hop hfn hvs hd hdst _ hv => ⟨qJ0 hop, fun _ w0 M0 F0 F g a w hs K Q hK => lT0 hs ⟨⟨.value f, args, ts⟩, f, fid, ds, e, sz, rows, r, t, hop, rfl, hfn, by rw [hd]; exact hdst, by rw [hvs]; exact hv trivial, h, hd, hf, by rw [hvs, hd]⟩ hK⟩) hk
theorem CallK.out {t : Tmp} {e : TypeId} {sz : Nat} {rows : List (List AC)} (h : SatO P fid ds e sz rows r) (hf : s.lb t = none)
  (hk : κ.default (((s.frzs (vs.flatMap AV.owns)).put t (.arr e sz rows false)).set (some t) (lK0 t r))) : @CallK P tab true fid True ds vs (some t) s κ := CallK.outD rfl h hf hk
theorem CallK.shown {e : TypeId} {sz : Nat} {rows : List (List AC)} (j : Nat) (hx : x = true) (h : xu1 P fid (ds.take j) (ds.drop (j + 1)) e sz rows r) (ha : yz1 vs j e sz rows s)
  (hk : κ.default (s.set d r)) : @CallK P tab x fid True ds vs d s κ :=
 CallK.sem hx (fun o args ts f hop hfn hvs hd hdst _ hv => ⟨qJ0 hop, fun _ w0 M0 F0 F g a w hs K Q hK => lY0 hs ⟨⟨.value f, args, ts⟩, f, fid, ds, j, e, sz, rows, r, hop, rfl, hfn, by rw [hd]; exact hdst, by rw [hvs]; exact hv trivial, h, by rw [hvs]; exact ha, by rw [hd]⟩ hK⟩) hk
theorem CallK.give {t : Tmp} {y : C} (j : Nat) (hx : x = true) (h : xT1 P fid (ds.take j) (ds.drop (j + 1)) y r) (ha : jz1 vs j y s) (hf : s.lb t = none)
  (hk : κ.default (((ye0 vs j s).put t (.tok (flR r))).set (some t) (tkR t r))) : @CallK P tab x fid True ds vs (some t) s κ :=
 CallK.sem hx (fun o args ts f hop hfn hvs hd hdst _ hv => ⟨qJ0 hop, fun _ w0 M0 F0 F g a w hs K Q hK => lR0 hs ⟨⟨.value f, args, ts⟩, f, fid, ds, j, y, r, t, hop, rfl, hfn, by rw [hd]; exact hdst, by rw [hvs]; exact hv trivial, h, by rw [hvs]; exact ha, hd, hf, by rw [hvs, hd]⟩ hK⟩) hk
theorem CallK.accF {t : Tmp} {e : TypeId} {sz : Nat} {rows rows' : List (List AC)} {rest : List AV} (j : Nat) (hx : x = true) (h : ff0 P fid (ds.take j) (ds.drop (j + 1)) e sz rows rows' rest) (ha : Ai.accF vs j e sz rows s) (hf : s.lb t = none)
  (hk : κ.default (((ye0 vs j (s.frzs (zs0 vs j))).put t (.arr e sz rows' false)).set (some t) (wj1 t rows'.length rest))) : @CallK P tab x fid True ds vs (some t) s κ :=
 CallK.sem hx (fun o args ts f hop hfn hvs hd hdst _ hv => ⟨qJ0 hop, fun _ w0 M0 F0 F g a w hs K Q hK => cv0 hs ⟨⟨.value f, args, ts⟩, f, fid, ds, j, e, sz, rows, rows', rest, t, hop, rfl, hfn, by rw [hd]; exact hdst, by rw [hvs]; exact hv trivial, h, by rw [hvs]; exact ha, hd, hf, by rw [hvs, hd]⟩ hK⟩) hk
theorem zK1 {args : List AV} {Bs Bs' : List LB} {ls ns : List Nat} (h : fL0 P fid args Bs Bs' r) (ha : wa1 vs args Bs Bs' ls ns s) {o : Oper} {as : Array Operand} {ts : Array TypeId} {f : Operand} (hop : o.op = .call ⟨.value f, as, ts⟩) (hfn : xq0 (opv s f) = some fid) (hvs : as.toList.map (opv s) = vs) (hd : o.dst = d) (hdst : ∀ t, d = some t → t < s.n) : cq0 P tab o s (nU0 vs args Bs' r ls ns s d) := by
 obtain ⟨c1, c2, c3, c4, c5⟩ := ha
 exact ⟨qJ0 hop, fun _ w0 M0 F0 F g a w hs K Q hK => xw0 hs ⟨⟨.value f, as, ts⟩, f, fid, args, Bs, Bs', r, ls, ns, hop, rfl, hfn, by rw [hd]; exact hdst, h, c1, c2, by rw [hvs]; exact be0 c3, c4, c5, by rw [hvs, hd]⟩ hK⟩
theorem CallK.con {args : List AV} {Bs Bs' : List LB} (ls ns : List Nat) (hx : x = true) (h : fL0 P fid args Bs Bs' r) (ha : wa1 vs args Bs Bs' ls ns s)
  (hk : κ.default (nU0 vs args Bs' r ls ns s d)) : @CallK P tab x fid nt ds vs d s κ := CallK.sem hx (fun _ _ _ _ hop hfn hvs hd hdst _ _ => zK1 h ha hop hfn hvs hd hdst) hk
end
def we1 (P : Program) (c : Code) (s : St) [q : Qn] : Prop := qD1 P c q.default s
def yK0 (x : Option (Prop × Eff)) (d : Option Tmp) (s : St) [κ : Kn] : Prop :=
 match x with
 | some (p, e) => p ∧ pG0 e d s ∧ (p → κ.default (e.app d s))
 | none => False
abbrev An := Inhabited (Kn → Prop)
def vt1 (x : Option (Prop × Eff)) (d : Option Tmp) (s : St) [κ : Kn] [α : An] : Prop :=
 match x with
 | some (p, e) => p ∧ pG0 e d s ∧ (p → κ.default (e.app d s))
 | none => α.default κ
def xw1 (x : Bool) (r : Option (Prop × St)) (d : Option Tmp) (s : St) (κ : Kn) : Prop :=
 x = true ∧ match r with
 | some (p, s') => p ∧ dOk d s ∧ (p → κ.default s')
 | none => False
def CloK (P : Program) (x : Bool) (fid : FuncId) (p : Prop) (ds : List AV) (d : Option Tmp) (s : St) [κ : Kn] : Prop := x = true ∧ p ∧ dOk d s ∧ ∃ r, Sat P fid ds r ∧ yu0 r = true ∧ κ.default (s.set d r)
theorem CloK.mk {x : Bool} {fid : FuncId} {p : Prop} {ds : List AV} {d : Option Tmp} {s : St} {κ : Kn} {r : AV} (h : Sat P fid ds r) (hx : x = true) (hp : p) (hd : dOk d s) (hr : yu0 r = true) (hk : κ.default (s.set d r)) : @CloK P x fid p ds d s κ := ⟨hx, hp, hd, r, h, hr, hk⟩
def SelfK (P : Program) (fid : FuncId) (ds : List AV) (d : Option Tmp) (s : St) [κ : Kn] : Prop := ∃ r, Sat P fid ds r ∧ yu0 r = true ∧ κ.default (s.set d r)
theorem SelfK.mk {fid : FuncId} {ds : List AV} {d : Option Tmp} {s : St} {κ : Kn} {r : AV} (h : Sat P fid ds r) (hr : yu0 r = true) (hk : κ.default (s.set d r)) : @SelfK P fid ds d s κ := ⟨r, h, hr, hk⟩
def LoanK (P : Program) (tab : Tab) (x : Bool) (fid : FuncId) (ds1 ds2 vs : List AV) (d : Option Tmp) (s : St) [κ : Kn] : Prop := vZ1 P tab x fid ds1 ds2 vs d s κ.default
theorem LoanK.mk {x : Bool} {fid : FuncId} {ds1 ds2 vs : List AV} {d : Option Tmp} {s : St} {κ : Kn} {r : AV} {B B' : LB} (h : xt1 P fid ds1 ds2 B B' r) (hx : x = true) (ha : yP1 vs (yT0 vs) B s)
  (hk : κ.default (((s.frzs (zs0 vs (yT0 vs))).put (gA0 vs (yT0 vs)) B').set d r)) : @LoanK P tab x fid ds1 ds2 vs d s κ :=
 ⟨hx, _, fun o args ts f hop hfn hvs hd hdst v1 v2 => ⟨qJ0 hop, fun _ w0 M0 F0 F g a w hs K Q hK => lU0 hs ⟨⟨.value f, args, ts⟩, f, fid, yT0 vs, _, _, B, B', r, hop, rfl, hfn, by rw [hd]; exact hdst, by rw [hvs]; exact v1, by rw [hvs]; exact v2, h, by rw [hvs]; exact ha, by rw [hvs, hd]⟩ hK⟩, hk⟩
theorem LoanK.con {x : Bool} {fid : FuncId} {ds1 ds2 vs : List AV} {d : Option Tmp} {s : St} {κ : Kn} {r : AV} {args : List AV} {Bs Bs' : List LB} (ls ns : List Nat) (h : fL0 P fid args Bs Bs' r) (hx : x = true) (ha : wa1 vs args Bs Bs' ls ns s)
  (hk : κ.default (nU0 vs args Bs' r ls ns s d)) : @LoanK P tab x fid ds1 ds2 vs d s κ := ⟨hx, _, fun _ _ _ _ hop hfn hvs hd hdst _ _ => zK1 h ha hop hfn hvs hd hdst, hk⟩
def fk0 (P : Program) (tab : Tab) (x : Bool) (fid : Option FuncId) (vs : List AV) (d : Option Tmp) (s : St) [κ : Kn] : Prop :=
 match fid with
 | none => False
 | some fid => if dh0 vs = true then xb0 s.lb (vs.take (yT0 vs)) ∧ xb0 s.lb (vs.drop (yT0 vs + 1)) ∧ dOk d s ∧ @LoanK P tab x fid (cp0 s.lb (vs.take (yT0 vs))) (cp0 s.lb (vs.drop (yT0 vs + 1))) vs d s κ else if dg0 vs = true then @CloK P x fid (sg0 s.lb vs) (vJ1 s.lb vs) d s κ else cD0 s.lb vs ∧ dOk d s ∧ CallK P tab x fid (fx0 vs) (cp0 s.lb vs) vs d s
def dF0 (P : Program) (tab : Tab) (x : Bool) (fv : AV) (vs : List AV) (d : Option Tmp) (s : St) [κ : Kn] : Prop :=
 match fv with
 | .one (.clo fid caps) => x = true ∧ cD0 s.lb vs ∧ dOk d s ∧ fQ0 caps ∧ @SelfK P fid (cp0 s.lb vs ++ caps.map .one) d s κ
 | fv => @fk0 P tab x (xq0 fv) vs d s κ
def lp0 (v : AV) (s : St) [p : Kn] [q : Kn] : Prop :=
 match v with
 | .one (.c (.v (.bool t))) => (t = true → p.default s) ∧ (t = false → q.default s)
 | _ => False
def yZ0 (d : Tmp) (v : AV) (wnt : Bool) (s : St) [p : Kn] [q : Kn] : Prop :=
 match v with
 | .one (.c (.v (.bool x))) => (x = wnt → p.default (s.set (some d) (.one (.c (.v (.bool wnt)))))) ∧ (x = (!wnt) → q.default (s.set (some d) (.one (.c (.v (.bool (!wnt)))))))
 | .tup [] => q.default s
 | _ => False
def jp1 (ops : Array Oper) (j : Nat) : Option Tmp := (ops[j]?).bind (·.dst)
def vB1 (d : Option Tmp) (wnt : Bool) (s : St) [p : Kn] [q : Kn] : Prop :=
 match d with
 | none => False
 | some d => @yZ0 d (s.sl d) wnt s p q
def co0 (P : Program) (tab : Tab) (x : Bool) (ops : Array Oper) (l : List Oper) (s : St) [κ : Kn] : Prop := ta0 P tab x ops l s κ.default
section eqs
variable {s : St} {k : St → Prop} {Q : Exit → St → Prop} {κ κ' : Kn}
theorem rz0 : qd0 P tab .skip Q s = Q .normal s := rfl
theorem dL0 {id : Nat} {ops : Array Oper} : qd0 P tab (.region id ops false) Q s = @co0 P tab true ops ops.toList s ⟨Q .normal⟩ := rfl
theorem bd0 {id : Nat} {ops : Array Oper} : qd0 P tab (.region id ops true) Q s = @co0 P tab (yf0 ops) ops ops.toList s ⟨Q .normal⟩ := rfl
theorem zG1 {a b : Code} : qd0 P tab (.seq a b) Q s = qd0 P tab a (fC0 (qd0 P tab b Q) Q) s := rfl
theorem rw0 {c : Operand} {a b : Code} : qd0 P tab (.cond c a b) Q s = @lp0 (opv s c) s ⟨fun s => qd0 P tab a Q s⟩ ⟨fun s => qd0 P tab b Q s⟩ := rfl
theorem lk0 {id : Nat} {c : Code} : qd0 P tab (.block id c) Q s = qd0 P tab c (jA0 id Q) s := rfl
theorem rx0 {id : Nat} : qd0 P tab (.exit id) Q s = Q (.exit id) s := rfl
theorem zF1 : qd0 P tab .ret Q s = Q .ret s := rfl
theorem ry0 {c : Code} : qd0 P tab (.loop c) Q s = @we1 P c s ⟨Q⟩ := rfl
theorem gt0 : fC0 k Q .normal s = k s := rfl
theorem tS0 {id : Nat} : fC0 k Q (.exit id) s = Q (.exit id) s := rfl
theorem wK1 : fC0 k Q .ret s = Q .ret s := rfl
theorem bW0 {id : Nat} : jA0 id Q .normal s = Q .normal s := rfl
theorem rq0 {id : Nat} : jA0 id Q .ret s = Q .ret s := rfl
theorem lb0 {id : Nat} : jA0 id Q (.exit id) s = Q .normal s := by simp [jA0]
theorem yh1 {rs : List ResultVar} {r : AV} : jV1 tab rs r .ret s = km1 tab rs r s := rfl
theorem ql1 {rs : List ResultVar} {ds : List AV} : tB0 tab rs ds .ret s = tC0 tab rs ds s := rfl
theorem yb1 {bx : Bool} {ops : Array Oper} : @co0 P tab bx ops [] s κ = κ.default s := rfl
theorem yc1 {bx : Bool} {ops : Array Oper} {d : Option Tmp} {op : Op} {ty : TypeId} {pos : String} {aft : Array Edge} {os : List Oper} :
  @co0 P tab bx ops (⟨d, op, ty, pos, aft, none⟩ :: os) s κ = vE0 P tab bx ⟨d, op, ty, pos, aft, none⟩ s (fun s' => @co0 P tab bx ops os s' κ) := by simp [co0, ta0, wT1]
theorem su0 {bx : Bool} {ops : Array Oper} {d : Option Tmp} {op : Op} {ty : TypeId} {pos : String} {aft : Array Edge} {j : Nat} {wnt : Bool} {os : List Oper} :
  @co0 P tab bx ops (⟨d, op, ty, pos, aft, some (j, wnt)⟩ :: os) s κ =
   @vB1 (jp1 ops j) wnt s ⟨fun s => vE0 P tab bx ⟨d, op, ty, pos, aft, some (j, wnt)⟩ s (fun s' => @co0 P tab bx ops os s' κ)⟩ ⟨fun s => dOk d s ∧ @co0 P tab bx ops os (s.set d (.tup [])) κ⟩ := by
 simp only [co0, ta0, wT1, vB1, jp1]
 cases (ops[j]?).bind (·.dst) with
 | none => rfl
 | some t =>
  have same : ∀ v, s.sl t = v → s.set (some t) v = s := by
   intro v hv
   subst hv
   obtain ⟨n, sl, lb, gh⟩ := s
   simp only [St.set, St.mk.injEq, true_and, and_true]
   funext k
   split
   ·rename_i e; subst e; rfl
   ·rfl
  simp only [yZ0, if_true, Bool.false_eq_true, if_false]
  cases hv : s.sl t with
  | one a =>
   cases a with
   | c x =>
    cases x with
    | v x =>
     cases x with
     | bool x =>
      simp only
      cases x <;> cases wnt <;> simp <;> rw [same _ hv] <;> simp [co0]
     | _ => rfl
    | sl rows => rfl
   | _ => rfl
  | agg as => rfl
  | tup vs => cases vs <;> simp [co0]
  | any => rfl
theorem tV0 {d : Tmp} {wnt : Bool} : @vB1 (some d) wnt s κ κ' = @yZ0 d (s.sl d) wnt s κ κ' := rfl
theorem nC0 {d : Tmp} {x wnt : Bool} : @yZ0 d (.one (.c (.v (.bool x)))) wnt s κ κ' = ((x = wnt → κ.default (s.set (some d) (.one (.c (.v (.bool wnt)))))) ∧ (x = (!wnt) → κ'.default (s.set (some d) (.one (.c (.v (.bool (!wnt)))))))) := rfl
theorem wY1 {d : Tmp} {wnt : Bool} : @yZ0 d (.tup []) wnt s κ κ' = κ'.default s := rfl
theorem wX1 {d : Tmp} : @yZ0 d (.one (.c (.v (.bool true)))) true s κ κ' = κ.default (s.set (some d) (.one (.c (.v (.bool true))))) := by simp [yZ0]
theorem wW1 {d : Tmp} : @yZ0 d (.one (.c (.v (.bool true)))) false s κ κ' = κ'.default (s.set (some d) (.one (.c (.v (.bool true))))) := by simp [yZ0]
theorem wV1 {d : Tmp} : @yZ0 d (.one (.c (.v (.bool false)))) true s κ κ' = κ'.default (s.set (some d) (.one (.c (.v (.bool false))))) := by simp [yZ0]
theorem wU1 {d : Tmp} : @yZ0 d (.one (.c (.v (.bool false)))) false s κ κ' = κ.default (s.set (some d) (.one (.c (.v (.bool false))))) := by simp [yZ0]
theorem sH0 : @lp0 (.one (.c (.v (.bool true)))) s κ κ' = κ.default s := by simp [lp0]
theorem lq0 : @lp0 (.one (.c (.v (.bool false)))) s κ κ' = κ'.default s := by simp [lp0]
theorem sG0 {t : Bool} : @lp0 (.one (.c (.v (.bool t)))) s κ κ' = ((t = true → κ.default s) ∧ (t = false → κ'.default s)) := rfl
theorem sl0 {p : Prop} {e : Eff} {d : Option Tmp} : @yK0 (some (p, e)) d s κ = (p ∧ pG0 e d s ∧ (p → κ.default (e.app d s))) := rfl
theorem si0 {p : Prop} {e : Eff} {d : Option Tmp} {α : An} : @vt1 (some (p, e)) d s κ α = (p ∧ pG0 e d s ∧ (p → κ.default (e.app d s))) := rfl
theorem lf0 {x : Bool} {vs : List AV} {d : Option Tmp} {fid : FuncId} : @fk0 P tab x (some fid) vs d s κ = (if dh0 vs = true then xb0 s.lb (vs.take (yT0 vs)) ∧ xb0 s.lb (vs.drop (yT0 vs + 1)) ∧ dOk d s ∧ @LoanK P tab x fid (cp0 s.lb (vs.take (yT0 vs))) (cp0 s.lb (vs.drop (yT0 vs + 1))) vs d s κ else if dg0 vs = true then @CloK P x fid (sg0 s.lb vs) (vJ1 s.lb vs) d s κ else cD0 s.lb vs ∧ dOk d s ∧ @CallK P tab x fid (fx0 vs) (cp0 s.lb vs) vs d s κ) := rfl
theorem lg0 {x : Bool} {vs : List AV} {d : Option Tmp} {fid : FuncId} : @dF0 P tab x (.one (.c (.v (.func (.func fid) #[] #[])))) vs d s κ = @fk0 P tab x (some fid) vs d s κ := rfl
section ops
variable {bx : Bool} {d : Option Tmp} {ty : TypeId} {pos : String} {aft : Array Edge} {g : Option (Nat × Bool)}
theorem ti0 {f : Operand} {args : Array Operand} {ts : Array TypeId} : vE0 P tab bx ⟨d, .call ⟨.value f, args, ts⟩, ty, pos, aft, g⟩ s k = @dF0 P tab bx (opv s f) (args.toList.map (opv s)) d s ⟨k⟩ := by
 simp only [vE0, jg1]
 generalize opv s f = fv
 cases hf : xq0 fv with
 | none =>
  cases fv with
  | one y =>
   cases y with
   | clo fid caps => rfl
   | _ => simp only [dF0, hf, fk0]
  | _ => simp only [dF0, hf, fk0]
 | some fid =>
  cases fv with
  | one y =>
   cases y with
   | clo f2 caps => simp [xq0] at hf
   | _ => simp only [dF0, hf, fk0]; rfl
  | _ => simp [xq0] at hf
theorem wm1 {args : Array Operand} {ts : Array TypeId} : vE0 P tab bx ⟨d, .call ⟨.builtin .len, args, ts⟩, ty, pos, aft, g⟩ s k = @yK0 (xO0 tab ⟨d, .call ⟨.builtin .len, args, ts⟩, ty, pos, aft, g⟩ s ⟨.builtin .len, args, ts⟩) d s ⟨k⟩ := rfl
theorem wn1 {args : Array Operand} {ts : Array TypeId} : vE0 P tab bx ⟨d, .call ⟨.builtin .max, args, ts⟩, ty, pos, aft, g⟩ s k = @yK0 (xO0 tab ⟨d, .call ⟨.builtin .max, args, ts⟩, ty, pos, aft, g⟩ s ⟨.builtin .max, args, ts⟩) d s ⟨k⟩ := rfl
theorem lM0 {args : Array Operand} {ts : Array TypeId} : vE0 P tab bx ⟨d, .call ⟨.builtin .append, args, ts⟩, ty, pos, aft, g⟩ s k = @vt1 (xO0 tab ⟨d, .call ⟨.builtin .append, args, ts⟩, ty, pos, aft, g⟩ s ⟨.builtin .append, args, ts⟩) d s ⟨k⟩ ⟨xw1 bx (vE1 tab ⟨d, .call ⟨.builtin .append, args, ts⟩, ty, pos, aft, g⟩ s) d s⟩ := rfl
theorem rd0 {t : TypeId} : vE0 P tab bx ⟨d, .alloc t, ty, pos, aft, g⟩ s k = @yK0 ((tab t).map fun ti => (True, .new (.one (.ptr (d.getD 0) 0)) (.var ti.zero))) d s ⟨k⟩ := rfl
theorem wl1 {t : TypeId} {x : Operand} : vE0 P tab bx ⟨d, .box t x, ty, pos, aft, g⟩ s k = @yK0 ((opv s x).cs.map fun cs => (True, .new (.one (.ptr (d.getD 0) 0)) (.var cs))) d s ⟨k⟩ := rfl
theorem ri0 {t : TypeId} {p x : Operand} : vE0 P tab bx ⟨d, .store t p x, ty, pos, aft, g⟩ s k = @yK0 (kv0 tab s.lb t (opv s p) (opv s x)) d s ⟨k⟩ := rfl
def wR1 (x : Option (Prop × AV)) : Option (Prop × Eff) := x.map fun (p, v) => (p, .val v)
theorem wS1 {p : Prop} {v : AV} : wR1 (some (p, v)) = some (p, .val v) := rfl
theorem tk0 {x : Operand} : vE0 P tab bx ⟨d, .move x, ty, pos, aft, g⟩ s k = @yK0 (some (True, .val (opv s x))) d s ⟨k⟩ := rfl
theorem lN0 {x : Operand} : vE0 P tab bx ⟨d, .assign x, ty, pos, aft, g⟩ s k = @yK0 (some (True, .val (opv s x))) d s ⟨k⟩ := rfl
theorem tj0 {t : TypeId} {x : Operand} : vE0 P tab bx ⟨d, .load t x, ty, pos, aft, g⟩ s k = @yK0 (wR1 (cA0 tab s.lb t (opv s x))) d s ⟨k⟩ := rfl
theorem re0 {op : BinOp} {t t' : TypeId} {x y : Operand} : vE0 P tab bx ⟨d, .binOp op t x y t', ty, pos, aft, g⟩ s k = @yK0 (wR1 (vX1 tab op t (opv s x) (opv s y))) d s ⟨k⟩ := rfl
theorem fN0 {t : TypeId} {x : Operand} {f : Nat} : vE0 P tab bx ⟨d, .fieldAddr t x f, ty, pos, aft, g⟩ s k = @yK0 (wR1 (qV0 s.lb (tab t) (opv s x) f)) d s ⟨k⟩ := rfl
theorem kS0 {x : Operand} : vE0 P tab bx ⟨d, .nilCheck x, ty, pos, aft, g⟩ s k = @yK0 (wR1 (jj1 s.lb (opv s x))) d s ⟨k⟩ := rfl
theorem fO0 {t : TypeId} {x i : Operand} : vE0 P tab bx ⟨d, .indexAddr t x i, ty, pos, aft, g⟩ s k = @yK0 (wR1 (qX0 tab s.lb t (opv s x) (opv s i))) d s ⟨k⟩ := rfl
theorem rg0 {t : TypeId} {x i : Operand} : vE0 P tab bx ⟨d, .index t x i, ty, pos, aft, g⟩ s k = @yK0 (wR1 (dq0 (tab t) (opv s x) (opv s i))) d s ⟨k⟩ := rfl
def dd1 (v : AV) : Option (Prop × AV) := match v with
 | .one (.c (.v (.bool b))) => some (True, jB0 (!b))
 | _ => none
theorem wo1 {t : TypeId} {x : Operand} : vE0 P tab bx ⟨d, .unOp .not t x, ty, pos, aft, g⟩ s k = @yK0 (wR1 (dd1 (opv s x))) d s ⟨k⟩ := rfl
theorem qP1 {b : Bool} : dd1 (.one (.c (.v (.bool b)))) = some (True, .one (.c (.v (.bool (!b))))) := rfl
def vw1 (c a b : AV) : Option (Prop × AV) := match c with
 | .one (.c (.v (.bool t))) => some (True, if t then a else b)
 | _ => none
theorem tl0 {c a b : Operand} : vE0 P tab bx ⟨d, .pick c a b, ty, pos, aft, g⟩ s k = @yK0 (wR1 (vw1 (opv s c) (opv s a) (opv s b))) d s ⟨k⟩ := rfl
theorem so0 {t : Bool} {a b : AV} : vw1 (.one (.c (.v (.bool t)))) a b = some (True, if t = true then a else b) := rfl
theorem rh0 {t : TypeId} {x : Operand} {lo hi : Option Operand} : vE0 P tab bx ⟨d, .slice t x lo hi none, ty, pos, aft, g⟩ s k = @yK0 (wR1 (xC0 tab (tab t) (opv s x) (lo.map (opv s)) (hi.map (opv s)))) d s ⟨k⟩ := rfl
def na0 (v : AV) (i : Nat) : Option (Prop × AV) := match v with
 | .tup vs => (vs[i]?).map fun v => (True, v)
 | _ => none
theorem cu0 {x : Operand} {i : Nat} : vE0 P tab bx ⟨d, .extract x i, ty, pos, aft, g⟩ s k = @yK0 (wR1 (na0 (opv s x) i)) d s ⟨k⟩ := rfl
theorem dX0 {vs : List AV} {i : Nat} : na0 (.tup vs) i = (vs[i]?).map fun v => (True, v) := rfl
theorem xv0 {t : TypeId} {len : Nat} {parts : Array (Nat × Operand)} : vE0 P tab bx ⟨d, .buildSlice t len parts, ty, pos, aft, g⟩ s k = @yK0 (kQ0 tab ⟨d, .buildSlice t len parts, ty, pos, aft, g⟩ s) d s ⟨k⟩ := rfl
theorem fP0 {t : TypeId} {x y : Operand} : vE0 P tab bx ⟨d, .makeSlice t x y, ty, pos, aft, g⟩ s k = @yK0 (kQ0 tab ⟨d, .makeSlice t x y, ty, pos, aft, g⟩ s) d s ⟨k⟩ := rfl
theorem rf0 {t : TypeId} {parts : Array (Nat × Operand)} : vE0 P tab bx ⟨d, .build t parts, ty, pos, aft, g⟩ s k = @yK0 (kQ0 tab ⟨d, .build t parts, ty, pos, aft, g⟩ s) d s ⟨k⟩ := rfl
end ops
theorem ju1 {v : AV} {d : Option Tmp} : (Eff.val v).app d s = s.set d v := rfl
theorem js1 {v : AV} {B : LB} {d : Tmp} : (Eff.new v B).app (some d) s = (s.put d B).set (some d) v := rfl
theorem jt1 {v : AV} {B : LB} {l : Nat} {d : Option Tmp} : (Eff.upd v l B).app d s = (s.put l B).set d v := rfl
theorem zT1 {v : AV} {d : Tmp} : pG0 (.val v) (some d) s = (d < s.n) := rfl
theorem zR1 {v : AV} {B : LB} {d : Tmp} : pG0 (.new v B) (some d) s = (d < s.n ∧ s.lb d = none) := rfl
theorem zS1 {v : AV} {B : LB} {l : Nat} {d : Tmp} : pG0 (.upd v l B) (some d) s = (d < s.n) := rfl
theorem sL0 {v : AV} {B : LB} {l : Nat} : pG0 (.upd v l B) none s = True := rfl
theorem wz1 {d : Tmp} : dOk (some d) s = (d < s.n) := rfl
theorem kY1 {t : Tmp} : opv s (.tmp t) = s.sl t := rfl
theorem yW1 {f : FuncId} : opv s (.func f) = .one (.c (.v (.func (.func f) #[] #[]))) := rfl
theorem kW1 {n : Int} {i : IntKind} : opv s (.const (.int i n)) = .one (.c (.v (.int i n))) := rfl
theorem yV1 {b : Bool} : opv s (.const (.bool b)) = .one (.c (.v (.bool b))) := rfl
theorem sh0 {b : ByteArray} : opv s (.const (.string b)) = .one (.c (.v (.string b))) := rfl
theorem kX1 : opv s (.const (.slice none 0 0)) = .one .nil := rfl
end eqs
theorem zA0 {ι : Type} {c : Code} {Q : Exit → St → Prop} {s : St} (S : ι → St) (I : ι → Prop) (μ : ι → Nat) (i0 : ι) (hI : I i0) (h0 : Wk s (S i0)) (hT : zU0 P tab) (hm : P.follows .mixedOrders = true) (hok : qo0 c = true)
  (round : ∀ i, I i → qd0 P tab c (fC0 (fun s' => ∃ j, I j ∧ μ j < μ i ∧ Wk s' (S j)) Q) (S i)) : @we1 P c s ⟨Q⟩ :=
 gB0 (ι := {i : ι // I i}) (fun i => S i.1) (fun i => μ i.1) ⟨i0, hI⟩ h0 (fun i => AWP.mono (zn0 hT hm c _ _ hok (round i.1 i.2)) (fun e s hq => by
  cases e with
  | normal => obtain ⟨j, h1, h2, h3⟩ := hq; exact ⟨⟨j, h1⟩, h3, h2⟩
  | _ => exact hq))
theorem vv1 (cs : List C) : (cs.map AC.c).flatMap AC.owns = [] := by
 induction cs with
 | nil => rfl
 | cons c cs ih => simp [AC.owns]
theorem lh0 (n : Nat) : (0 ≤ (n : Int)) = True := eq_true (Int.natCast_nonneg n)
theorem ji1 (m n : Nat) : ((m : Int) < (n : Int)) = (m < n) := propext Int.ofNat_lt
theorem jh1 (m n : Nat) : ((m : Int) ≤ (n : Int)) = (m ≤ n) := propext Int.ofNat_le
theorem wt1 (n : Nat) : ((n : Int) < 0) = False := eq_false (by omega)
theorem rs0 (n : Nat) : ((n : Int)).toNat = n := rfl
attribute [go_sem high] wX1 wW1 wV1 wU1 sH0 lq0
attribute [go_sem ↓] reduceIte
attribute [go_sem] reduceCtorEq Nat.reduceEqDiff Nat.reduceLT Nat.reduceLeDiff Nat.reduceAdd Nat.reduceSub Nat.reduceMul
attribute [go_sem] IntWalk.i64_in AV.one.injEq AC.c.injEq C.v.injEq Value.int.injEq Value.bool.injEq beq_self_eq_true bne_self_eq_false
attribute [go_sem] vv1 lh0 ji1 jh1 wt1 rs0
attribute [go_sem] ls0 kN1
attribute [go_sem ↓] lb0 rz0 dL0 bd0 zG1 rw0 lk0 rx0 zF1 ry0 gt0 tS0 wK1 bW0 rq0 yh1 ti0 wm1 wn1 lM0 rd0 wl1 ri0 tk0 lN0 tj0 re0 fN0 kS0 kS0 fO0 rg0 wo1 tl0 rh0 cu0 xv0 fP0 rf0
attribute [go_sem] vr1 kQ1 pE1 tkR tkV xO1 tkC xN1 flR flV flC tC0 qn1 xi1 xC1 qk1 ki1 vT1 wJ1 xM1 wI1 kr1 zj1 vf1 zi1 jy1 vd1 dZ1 yD1 da1 hoV xX1 toC cD0 vq1 okB vG1 fx0 kP1 xd1 qN1 leG List.set_cons_zero List.set_cons_succ ql1 or_true true_or or_false false_or
attribute [go_sem] yb1 yc1 su0 tV0 nC0 wY1 sG0 sl0 si0 vE1 xv1 xU1 lf0 lg0 dh0 kG1 yT0 dg0 vg1 sg0 fu1 xf1 okK vJ1 vKV vKs vK xZ1 jf1 fQ0 bY0 Bool.or_false Bool.false_or wS1 qP1 so0 dX0 nb0 ju1 js1 jt1 zT1 zR1 zS1 sL0 wz1 kY1 yW1 kW1 yV1 sh0 kX1 wp0 zM1 jO1 kM1 vn1 xc1 cB0 qs0 qC1 qr0 qA1 yI1 zd1 nq0 pJ0 LB.frz cA0 vX1 wv1 nL0 nN0 kJ1 qV0 jj1 nM0 qX0 dq0 xC0 cU0 kv0 xO0 wz0 xb1 yz0 pV0 kQ0 jO0 qJ1 splice jv0 jp0 AV.cs TyD.agg AV.owns AC.owns xb0 kS1 okC vH1 cp0 vAV vC vCs dR1 vs1 jp1 km1 kG0 dj1 zy0 zs1 unD qN0 leL leB inV inC inB List.map_cons List.map_nil List.toList_toArray Option.map_some Option.map_none Option.getD_some Option.getD_none Option.bind_some List.flatMap_cons List.flatMap_nil List.append_nil List.nil_append List.cons_append List.length_cons List.length_nil List.take_succ_cons List.take_zero List.drop_succ_cons List.drop_zero List.getElem?_cons_succ List.getElem?_cons_zero List.getElem?_toArray List.getElem?_nil List.getD_cons_succ List.getD_cons_zero ite_true ite_false if_true if_false true_and and_true and_false false_and and_self true_implies false_implies implies_true forall_const not_true_eq_false not_false_eq_true Bool.not_true Bool.not_false Bool.false_eq_true Bool.true_eq_false decide_eq_true_eq decide_eq_false_iff_not Bool.not_eq_true' Bool.not_eq_false' beq_iff_eq bne_iff_ne ne_eq Nat.zero_add Nat.add_zero Nat.zero_le Nat.le_refl
inductive Tm where
 | mk (k n : Int) (s : ByteArray) (as : List Tm)
theorem Tm.ind {p : Tm → Prop} (h : ∀ k n s as, (∀ a, a ∈ as → p a) → p (.mk k n s as)) : ∀ t, p t
 | .mk k n s as => h k n s as (fun a _ => Tm.ind h a)
mutual
def Tm.enc : Tm → List C
 | .mk k n s as => [.v (.int .i64 k), .v (.int .i64 n), .v (.string s), .sl (Tm.encs as)]
def Tm.encs : List Tm → List (List C)
 | [] => []
 | a :: as => a.enc :: Tm.encs as
end
end Go.Ai
