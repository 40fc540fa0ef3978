/- Running a function's code on abstract states, by simp: the equations, and what simp is not to look into. -/
import Derived.Test.YtmddjojbaompiaaGreatAiTab
import Derived.Test.YtmddjojbaompiaaGreatAiMoves
import Derived.Attr
set_option linter.unusedVariables false
set_option linter.unusedSimpArgs false
namespace Go.Ai
open Go.RowKit
variable {P : Program} {tab : Tab}
abbrev Kn := Inhabited (St → Prop)
abbrev Qn := Inhabited (Exit → St → Prop)
def CallK (P : Program) (tab : Tab) (x : Bool) (fid : FuncId) (nt : Prop) (ds vs : List AV) (d : Option Tmp) (s : St) [κ : Kn] : Prop := callG P tab x fid nt ds vs d s κ.default
section
variable {x : Bool} {fid : FuncId} {nt : Prop} {ds vs : List AV} {d : Option Tmp} {s : St} {κ : Kn} {r : AV}
theorem CallK.mk (h : Sat P fid ds r) (hk : κ.default ((s.frzs (vs.flatMap AV.owns)).set d r)) : @CallK P tab x fid True ds vs d s κ := .inl ⟨r, h, trivial, hk⟩
theorem CallK.bor (h : Sat P fid ds r) (hp : plainR r = true) (hk : κ.default (s.set d r)) : @CallK P tab x fid nt ds vs d s κ := .inr (.inl ⟨r, h, hp, hk⟩)
theorem CallK.own {t : Tmp} (h : SatF P fid ds r) (hf : s.lb t = none) (hk : κ.default ((s.put t (.tok (flR r))).set (some t) (tkR t r))) : @CallK P tab x fid nt ds vs (some t) s κ := .inr (.inr (.inl ⟨r, t, h, rfl, hf, hk⟩))
theorem CallK.outN {t : Tmp} {e : TypeId} {sz : Nat} {rows : List (List AC)} (h : SatO P fid ds e sz rows r) (hno : vs.flatMap AV.owns = []) (hf : s.lb t = none)
  (hk : κ.default ((s.put t (.arr e sz rows false)).set (some t) (renV t r))) : @CallK P tab x fid True ds vs (some t) s κ := .inr (.inr (.inr (.inl ⟨trivial, hno, e, sz, rows, r, t, h, rfl, hf, hk⟩)))
theorem CallK.newN {t : Tmp} {cells : List AC} (h : SatN P fid ds cells) (hno : vs.flatMap AV.owns = []) (hf : s.lb t = none)
  (hk : κ.default ((s.put t (.var cells)).set (some t) (.one (.ptr t 0)))) : @CallK P tab x fid True ds vs (some t) s κ := .inr (.inr (.inr (.inr (.inr (.inl ⟨trivial, hno, cells, t, h, rfl, hf, hk⟩)))))
theorem CallK.new {t : Tmp} {cells : List AC} (hx : x = true) (h : SatN P fid ds cells) (hno : vs.flatMap AV.owns = []) (hf : s.lb t = none)
  (hk : κ.default ((s.put t (.var cells)).set (some t) (.one (.ptr t 0)))) : @CallK P tab x fid True ds vs (some t) s κ := CallK.newN h hno hf hk
theorem CallK.sem {s' : St} (hx : x = true) (h : SemC P tab fid nt ds vs d s s') (hk : κ.default s') : @CallK P tab x fid nt ds vs d s κ := .inr (.inr (.inr (.inr (.inr (.inr ⟨hx, s', h, hk⟩)))))
theorem CallK.accD {t : Tmp} {e : TypeId} {sz : Nat} {rows rows' : List (List AC)} {rest : List AV} (j : Nat) (hx : x = true) (h : SatA P fid (ds.take j) (ds.drop (j + 1)) e sz rows rows' rest) (ha : accK vs j e sz rows s) (hf : s.lb t = none)
  (hk : κ.default (((dropA vs j s).put t (.arr e sz rows' false)).set (some t) (accR t rows'.length rest))) : @CallK P tab x fid True ds vs (some t) s κ :=
 CallK.sem hx (fun o args ts f hop hfn hvs hd hdst _ hv => ⟨isCallV_of hop, fun _ w0 M0 F0 F g a w hs K Q hK => actsA_sound hs ⟨⟨.value f, args, ts⟩, f, fid, ds, j, e, sz, rows, rows', rest, t, hop, rfl, hfn, by rw [hd]; exact hdst, by rw [hvs]; exact hv trivial, h, by rw [hvs]; exact ha, hd, hf, by rw [hvs, hd]⟩ hK⟩) hk
theorem CallK.acc {t : Tmp} {e : TypeId} {sz : Nat} {rows rows' : List (List AC)} {rest : List AV} (j : Nat) (h : SatA P fid (ds.take j) (ds.drop (j + 1)) e sz rows rows' rest) (ha : accK vs j e sz rows s) (hf : s.lb t = none)
  (hk : κ.default (((dropA vs j s).put t (.arr e sz rows' false)).set (some t) (accR t rows'.length rest))) : @CallK P tab true fid True ds vs (some t) s κ := CallK.accD j rfl h ha hf hk
theorem CallK.outD {t : Tmp} {e : TypeId} {sz : Nat} {rows : List (List AC)} (hx : x = true) (h : SatO P fid ds e sz rows r) (hf : s.lb t = none)
  (hk : κ.default (((s.frzs (vs.flatMap AV.owns)).put t (.arr e sz rows false)).set (some t) (renV t r))) : @CallK P tab x fid True ds vs (some t) s κ :=
 CallK.sem hx (fun o args ts f hop hfn hvs hd hdst _ hv => ⟨isCallV_of hop, fun _ w0 M0 F0 F g a w hs K Q hK => actsO_sound hs ⟨⟨.value f, args, ts⟩, f, fid, ds, e, sz, rows, r, t, hop, rfl, hfn, by rw [hd]; exact hdst, by rw [hvs]; exact hv trivial, h, hd, hf, by rw [hvs, hd]⟩ hK⟩) hk
theorem CallK.out {t : Tmp} {e : TypeId} {sz : Nat} {rows : List (List AC)} (h : SatO P fid ds e sz rows r) (hf : s.lb t = none)
  (hk : κ.default (((s.frzs (vs.flatMap AV.owns)).put t (.arr e sz rows false)).set (some t) (renV t r))) : @CallK P tab true fid True ds vs (some t) s κ := CallK.outD rfl h hf hk
theorem CallK.lost {e : TypeId} {sz : Nat} {rows : List (List AC)} {rest : List AV} (j : Nat) (hx : x = true) (h : SatL P fid (ds.take j) (ds.drop (j + 1)) e sz rows rest) (ha : accK vs j e sz rows s)
  (hk : κ.default ((dropA vs j s).set d (lostR rest))) : @CallK P tab x fid True ds vs d s κ :=
 CallK.sem hx (fun o args ts f hop hfn hvs hd hdst _ hv => ⟨isCallV_of hop, fun _ w0 M0 F0 F g a w hs K Q hK => actsL_sound hs ⟨⟨.value f, args, ts⟩, f, fid, ds, j, e, sz, rows, rest, hop, rfl, hfn, by rw [hd]; exact hdst, by rw [hvs]; exact hv trivial, h, by rw [hvs]; exact ha, by rw [hvs, hd]⟩ hK⟩) hk
theorem CallK.shown {e : TypeId} {sz : Nat} {rows : List (List AC)} (j : Nat) (hx : x = true) (h : SatV P fid (ds.take j) (ds.drop (j + 1)) e sz rows r) (ha : accK vs j e sz rows s)
  (hk : κ.default (s.set d r)) : @CallK P tab x fid True ds vs d s κ :=
 CallK.sem hx (fun o args ts f hop hfn hvs hd hdst _ hv => ⟨isCallV_of hop, fun _ w0 M0 F0 F g a w hs K Q hK => actsV_sound hs ⟨⟨.value f, args, ts⟩, f, fid, ds, j, e, sz, rows, r, hop, rfl, hfn, by rw [hd]; exact hdst, by rw [hvs]; exact hv trivial, h, by rw [hvs]; exact ha, by rw [hd]⟩ hK⟩) hk
theorem CallK.give {t : Tmp} {y : C} (j : Nat) (hx : x = true) (h : SatG P fid (ds.take j) (ds.drop (j + 1)) y r) (ha : giveK vs j y s) (hf : s.lb t = none)
  (hk : κ.default (((dropA vs j s).put t (.tok (flR r))).set (some t) (tkR t r))) : @CallK P tab x fid True ds vs (some t) s κ :=
 CallK.sem hx (fun o args ts f hop hfn hvs hd hdst _ hv => ⟨isCallV_of hop, fun _ w0 M0 F0 F g a w hs K Q hK => actsG_sound hs ⟨⟨.value f, args, ts⟩, f, fid, ds, j, y, r, t, hop, rfl, hfn, by rw [hd]; exact hdst, by rw [hvs]; exact hv trivial, h, by rw [hvs]; exact ha, hd, hf, by rw [hvs, hd]⟩ hK⟩) hk
theorem CallK.accF {t : Tmp} {e : TypeId} {sz : Nat} {rows rows' : List (List AC)} {rest : List AV} (j : Nat) (hx : x = true) (h : SatA P fid (ds.take j) (ds.drop (j + 1)) e sz rows rows' rest) (ha : Ai.accF vs j e sz rows s) (hf : s.lb t = none)
  (hk : κ.default (((dropA vs j (s.frzs (othersK vs j))).put t (.arr e sz rows' false)).set (some t) (accR t rows'.length rest))) : @CallK P tab x fid True ds vs (some t) s κ :=
 CallK.sem hx (fun o args ts f hop hfn hvs hd hdst _ hv => ⟨isCallV_of hop, fun _ w0 M0 F0 F g a w hs K Q hK => actsAF_sound hs ⟨⟨.value f, args, ts⟩, f, fid, ds, j, e, sz, rows, rows', rest, t, hop, rfl, hfn, by rw [hd]; exact hdst, by rw [hvs]; exact hv trivial, h, by rw [hvs]; exact ha, hd, hf, by rw [hvs, hd]⟩ hK⟩) hk
theorem CallK.loan {B B' : LB} (j : Nat) (hx : x = true) (h : SatP P fid (ds.take j) (ds.drop (j + 1)) B B' r) (ha : loanK vs j B s)
  (hk : κ.default (((s.frzs (othersK vs j)).put (loanL vs j) B').set d r)) : @CallK P tab x fid True ds vs d s κ :=
 CallK.sem hx (fun o args ts f hop hfn hvs hd hdst _ hv => ⟨isCallV_of hop, fun _ w0 M0 F0 F g a w hs K Q hK => actsP_sound hs ⟨⟨.value f, args, ts⟩, f, fid, j, _, _, B, B', r, hop, rfl, hfn, by rw [hd]; exact hdst, by rw [hvs]; exact viewAVs_take j (hv trivial), by rw [hvs]; exact viewAVs_drop (j + 1) (hv trivial), h, by rw [hvs]; exact ha, by rw [hvs, hd]⟩ hK⟩) hk
theorem con_sem {args : List AV} {Bs Bs' : List LB} {ls ns : List Nat} (h : SatX P fid args Bs Bs' r) (ha : conK vs args Bs Bs' ls ns s) {o : Oper} {as : Array Operand} {ts : Array TypeId} {f : Operand} (hop : o.op = .call ⟨.value f, as, ts⟩) (hfn : fnOf (opv s f) = some fid) (hvs : as.toList.map (opv s) = vs) (hd : o.dst = d) (hdst : ∀ t, d = some t → t < s.n) : ActsW P tab o s (conS vs args Bs' r ls ns s d) := by
 obtain ⟨c1, c2, c3, c4, c5⟩ := ha
 exact ⟨isCallV_of hop, fun _ w0 M0 F0 F g a w hs K Q hK => actsX_sound hs ⟨⟨.value f, as, ts⟩, f, fid, args, Bs, Bs', r, ls, ns, hop, rfl, hfn, by rw [hd]; exact hdst, h, c1, c2, by rw [hvs]; exact conA_ok c3, c4, c5, by rw [hvs, hd]⟩ hK⟩
theorem CallK.con {args : List AV} {Bs Bs' : List LB} (ls ns : List Nat) (hx : x = true) (h : SatX P fid args Bs Bs' r) (ha : conK vs args Bs Bs' ls ns s)
  (hk : κ.default (conS vs args Bs' r ls ns s d)) : @CallK P tab x fid nt ds vs d s κ := CallK.sem hx (fun _ _ _ _ hop hfn hvs hd hdst _ _ => con_sem h ha hop hfn hvs hd hdst) hk
end
def LoopK (P : Program) (c : Code) (s : St) [q : Qn] : Prop := loopA P c q.default s
def outKK (x : Option (Prop × Eff)) (d : Option Tmp) (s : St) [κ : Kn] : Prop :=
 match x with
 | some (p, e) => p ∧ effOk e d s ∧ (p → κ.default (e.app d s))
 | none => False
abbrev An := Inhabited (Kn → Prop)
def outAK (x : Option (Prop × Eff)) (d : Option Tmp) (s : St) [κ : Kn] [α : An] : Prop :=
 match x with
 | some (p, e) => p ∧ effOk e d s ∧ (p → κ.default (e.app d s))
 | none => α.default κ
def absKK (x : Bool) (r : Option (Prop × St)) (d : Option Tmp) (s : St) (κ : Kn) : Prop :=
 x = true ∧ match r with
 | some (p, s') => p ∧ dOk d s ∧ (p → κ.default s')
 | none => False
def CloK (P : Program) (x : Bool) (fid : FuncId) (p : Prop) (ds : List AV) (d : Option Tmp) (s : St) [κ : Kn] : Prop := x = true ∧ p ∧ dOk d s ∧ ∃ r, Sat P fid ds r ∧ plainR r = true ∧ κ.default (s.set d r)
theorem CloK.mk {x : Bool} {fid : FuncId} {p : Prop} {ds : List AV} {d : Option Tmp} {s : St} {κ : Kn} {r : AV} (h : Sat P fid ds r) (hx : x = true) (hp : p) (hd : dOk d s) (hr : plainR r = true) (hk : κ.default (s.set d r)) : @CloK P x fid p ds d s κ := ⟨hx, hp, hd, r, h, hr, hk⟩
def SelfK (P : Program) (fid : FuncId) (ds : List AV) (d : Option Tmp) (s : St) [κ : Kn] : Prop := ∃ r, Sat P fid ds r ∧ plainR r = true ∧ κ.default (s.set d r)
theorem SelfK.mk {fid : FuncId} {ds : List AV} {d : Option Tmp} {s : St} {κ : Kn} {r : AV} (h : Sat P fid ds r) (hr : plainR r = true) (hk : κ.default (s.set d r)) : @SelfK P fid ds d s κ := ⟨r, h, hr, hk⟩
def LoanK (P : Program) (tab : Tab) (x : Bool) (fid : FuncId) (ds1 ds2 vs : List AV) (d : Option Tmp) (s : St) [κ : Kn] : Prop := callP P tab x fid ds1 ds2 vs d s κ.default
theorem LoanK.mk {x : Bool} {fid : FuncId} {ds1 ds2 vs : List AV} {d : Option Tmp} {s : St} {κ : Kn} {r : AV} {B B' : LB} (h : SatP P fid ds1 ds2 B B' r) (hx : x = true) (ha : loanK vs (ptrAt vs) B s)
  (hk : κ.default (((s.frzs (othersK vs (ptrAt vs))).put (loanL vs (ptrAt vs)) B').set d r)) : @LoanK P tab x fid ds1 ds2 vs d s κ :=
 ⟨hx, _, fun o args ts f hop hfn hvs hd hdst v1 v2 => ⟨isCallV_of hop, fun _ w0 M0 F0 F g a w hs K Q hK => actsP_sound hs ⟨⟨.value f, args, ts⟩, f, fid, ptrAt vs, _, _, B, B', r, hop, rfl, hfn, by rw [hd]; exact hdst, by rw [hvs]; exact v1, by rw [hvs]; exact v2, h, by rw [hvs]; exact ha, by rw [hvs, hd]⟩ hK⟩, hk⟩
theorem LoanK.con {x : Bool} {fid : FuncId} {ds1 ds2 vs : List AV} {d : Option Tmp} {s : St} {κ : Kn} {r : AV} {args : List AV} {Bs Bs' : List LB} (ls ns : List Nat) (h : SatX P fid args Bs Bs' r) (hx : x = true) (ha : conK vs args Bs Bs' ls ns s)
  (hk : κ.default (conS vs args Bs' r ls ns s d)) : @LoanK P tab x fid ds1 ds2 vs d s κ := ⟨hx, _, fun _ _ _ _ hop hfn hvs hd hdst _ _ => con_sem h ha hop hfn hvs hd hdst, hk⟩
def callKK (P : Program) (tab : Tab) (x : Bool) (fid : Option FuncId) (vs : List AV) (d : Option Tmp) (s : St) [κ : Kn] : Prop :=
 match fid with
 | none => False
 | some fid => if hasPtr vs = true then okAVs s.lb (vs.take (ptrAt vs)) ∧ okAVs s.lb (vs.drop (ptrAt vs + 1)) ∧ dOk d s ∧ @LoanK P tab x fid (vAVs s.lb (vs.take (ptrAt vs))) (vAVs s.lb (vs.drop (ptrAt vs + 1))) vs d s κ else if hasClo vs = true then @CloK P x fid (okKVs s.lb vs) (vKVs s.lb vs) d s κ else okBVs s.lb vs ∧ dOk d s ∧ CallK P tab x fid (noTkVs vs) (vAVs s.lb vs) vs d s
def callKN (P : Program) (tab : Tab) (x : Bool) (fv : AV) (vs : List AV) (d : Option Tmp) (s : St) [κ : Kn] : Prop :=
 match fv with
 | .one (.clo fid caps) => x = true ∧ okBVs s.lb vs ∧ dOk d s ∧ allIp caps ∧ @SelfK P fid (vAVs s.lb vs ++ caps.map .one) d s κ
 | fv => @callKK P tab x (fnOf fv) vs d s κ
def condK (v : AV) (s : St) [p : Kn] [q : Kn] : Prop :=
 match v with
 | .one (.c (.v (.bool t))) => (t = true → p.default s) ∧ (t = false → q.default s)
 | _ => False
def wantKK (d : Tmp) (v : AV) (wnt : Bool) (s : St) [p : Kn] [q : Kn] : Prop :=
 match v with
 | .one (.c (.v (.bool x))) => (x = wnt → p.default (s.set (some d) (.one (.c (.v (.bool wnt)))))) ∧ (x = (!wnt) → q.default (s.set (some d) (.one (.c (.v (.bool (!wnt)))))))
 | .tup [] => q.default s
 | _ => False
def dstAt (ops : Array Oper) (j : Nat) : Option Tmp := (ops[j]?).bind (·.dst)
def wantJ (d : Option Tmp) (wnt : Bool) (s : St) [p : Kn] [q : Kn] : Prop :=
 match d with
 | none => False
 | some d => @wantKK d (s.sl d) wnt s p q
def regX (P : Program) (tab : Tab) (x : Bool) (ops : Array Oper) (l : List Oper) (s : St) [κ : Kn] : Prop := regK P tab x ops l s κ.default
section eqs
variable {s : St} {k : St → Prop} {Q : Exit → St → Prop} {κ κ' : Kn}
theorem codeK_skip : codeK P tab .skip Q s = Q .normal s := rfl
theorem codeK_region {id : Nat} {ops : Array Oper} : codeK P tab (.region id ops false) Q s = @regX P tab true ops ops.toList s ⟨Q .normal⟩ := rfl
theorem codeK_regionD {id : Nat} {ops : Array Oper} : codeK P tab (.region id ops true) Q s = @regX P tab (fixedOk ops) ops ops.toList s ⟨Q .normal⟩ := rfl
theorem codeK_seq {a b : Code} : codeK P tab (.seq a b) Q s = codeK P tab a (thenA (codeK P tab b Q) Q) s := rfl
theorem codeK_cond {c : Operand} {a b : Code} : codeK P tab (.cond c a b) Q s = @condK (opv s c) s ⟨fun s => codeK P tab a Q s⟩ ⟨fun s => codeK P tab b Q s⟩ := rfl
theorem codeK_block {id : Nat} {c : Code} : codeK P tab (.block id c) Q s = codeK P tab c (blockA id Q) s := rfl
theorem codeK_exit {id : Nat} : codeK P tab (.exit id) Q s = Q (.exit id) s := rfl
theorem codeK_ret : codeK P tab .ret Q s = Q .ret s := rfl
theorem codeK_loop {c : Code} : codeK P tab (.loop c) Q s = @LoopK P c s ⟨Q⟩ := rfl
theorem thenA_normal : thenA k Q .normal s = k s := rfl
theorem thenA_exit {id : Nat} : thenA k Q (.exit id) s = Q (.exit id) s := rfl
theorem thenA_ret : thenA k Q .ret s = Q .ret s := rfl
theorem blockA_normal {id : Nat} : blockA id Q .normal s = Q .normal s := rfl
theorem blockA_ret {id : Nat} : blockA id Q .ret s = Q .ret s := rfl
theorem blockA_same {id : Nat} : blockA id Q (.exit id) s = Q .normal s := by simp [blockA]
theorem retA_ret {rs : List ResultVar} {r : AV} : retA tab rs r .ret s = retS tab rs r s := rfl
theorem retFA_ret {rs : List ResultVar} {ds : List AV} : retFA tab rs ds .ret s = retFS tab rs ds s := rfl
theorem regK_nil {bx : Bool} {ops : Array Oper} : @regX P tab bx ops [] s κ = κ.default s := rfl
theorem regK_one {bx : Bool} {ops : Array Oper} {d : Option Tmp} {op : Op} {ty : TypeId} {pos : String} {aft : Array Edge} {os : List Oper} :
  @regX P tab bx ops (⟨d, op, ty, pos, aft, none⟩ :: os) s κ = actK P tab bx ⟨d, op, ty, pos, aft, none⟩ s (fun s' => @regX P tab bx ops os s' κ) := by simp [regX, regK, wantK]
theorem regK_guard {bx : Bool} {ops : Array Oper} {d : Option Tmp} {op : Op} {ty : TypeId} {pos : String} {aft : Array Edge} {j : Nat} {wnt : Bool} {os : List Oper} :
  @regX P tab bx ops (⟨d, op, ty, pos, aft, some (j, wnt)⟩ :: os) s κ =
   @wantJ (dstAt ops j) wnt s ⟨fun s => actK P tab bx ⟨d, op, ty, pos, aft, some (j, wnt)⟩ s (fun s' => @regX P tab bx ops os s' κ)⟩ ⟨fun s => dOk d s ∧ @regX P tab bx ops os (s.set d (.tup [])) κ⟩ := by
 simp only [regX, regK, wantK, wantJ, dstAt]
 cases (ops[j]?).bind (·.dst) with
 | none => rfl
 | some t =>
  have same : ∀ v, s.sl t = v → s.set (some t) v = s := by
   intro v hv
   subst hv
   obtain ⟨n, sl, lb, gh⟩ := s
   simp only [St.set, St.mk.injEq, true_and, and_true]
   funext k
   split
   ·rename_i e; subst e; rfl
   ·rfl
  simp only [wantKK, if_true, Bool.false_eq_true, if_false]
  cases hv : s.sl t with
  | one a =>
   cases a with
   | c x =>
    cases x with
    | v x =>
     cases x with
     | bool x =>
      simp only
      cases x <;> cases wnt <;> simp <;> rw [same _ hv] <;> simp [regX]
     | _ => rfl
    | sl rows => rfl
   | _ => rfl
  | agg as => rfl
  | tup vs => cases vs <;> simp [regX]
  | any => rfl
theorem wantJ_some {d : Tmp} {wnt : Bool} : @wantJ (some d) wnt s κ κ' = @wantKK d (s.sl d) wnt s κ κ' := rfl
theorem wantKK_bool {d : Tmp} {x wnt : Bool} : @wantKK d (.one (.c (.v (.bool x)))) wnt s κ κ' = ((x = wnt → κ.default (s.set (some d) (.one (.c (.v (.bool wnt)))))) ∧ (x = (!wnt) → κ'.default (s.set (some d) (.one (.c (.v (.bool (!wnt)))))))) := rfl
theorem wantKK_un {d : Tmp} {wnt : Bool} : @wantKK d (.tup []) wnt s κ κ' = κ'.default s := rfl
theorem wantKK_tt {d : Tmp} : @wantKK d (.one (.c (.v (.bool true)))) true s κ κ' = κ.default (s.set (some d) (.one (.c (.v (.bool true))))) := by simp [wantKK]
theorem wantKK_tf {d : Tmp} : @wantKK d (.one (.c (.v (.bool true)))) false s κ κ' = κ'.default (s.set (some d) (.one (.c (.v (.bool true))))) := by simp [wantKK]
theorem wantKK_ft {d : Tmp} : @wantKK d (.one (.c (.v (.bool false)))) true s κ κ' = κ'.default (s.set (some d) (.one (.c (.v (.bool false))))) := by simp [wantKK]
theorem wantKK_ff {d : Tmp} : @wantKK d (.one (.c (.v (.bool false)))) false s κ κ' = κ.default (s.set (some d) (.one (.c (.v (.bool false))))) := by simp [wantKK]
theorem condK_true : @condK (.one (.c (.v (.bool true)))) s κ κ' = κ.default s := by simp [condK]
theorem condK_false : @condK (.one (.c (.v (.bool false)))) s κ κ' = κ'.default s := by simp [condK]
theorem condK_bool {t : Bool} : @condK (.one (.c (.v (.bool t)))) s κ κ' = ((t = true → κ.default s) ∧ (t = false → κ'.default s)) := rfl
theorem outKK_some {p : Prop} {e : Eff} {d : Option Tmp} : @outKK (some (p, e)) d s κ = (p ∧ effOk e d s ∧ (p → κ.default (e.app d s))) := rfl
theorem outAK_some {p : Prop} {e : Eff} {d : Option Tmp} {α : An} : @outAK (some (p, e)) d s κ α = (p ∧ effOk e d s ∧ (p → κ.default (e.app d s))) := rfl
theorem callKK_some {x : Bool} {vs : List AV} {d : Option Tmp} {fid : FuncId} : @callKK P tab x (some fid) vs d s κ = (if hasPtr vs = true then okAVs s.lb (vs.take (ptrAt vs)) ∧ okAVs s.lb (vs.drop (ptrAt vs + 1)) ∧ dOk d s ∧ @LoanK P tab x fid (vAVs s.lb (vs.take (ptrAt vs))) (vAVs s.lb (vs.drop (ptrAt vs + 1))) vs d s κ else if hasClo vs = true then @CloK P x fid (okKVs s.lb vs) (vKVs s.lb vs) d s κ else okBVs s.lb vs ∧ dOk d s ∧ @CallK P tab x fid (noTkVs vs) (vAVs s.lb vs) vs d s κ) := rfl
theorem callKN_func {x : Bool} {vs : List AV} {d : Option Tmp} {fid : FuncId} : @callKN P tab x (.one (.c (.v (.func (.func fid) #[] #[])))) vs d s κ = @callKK P tab x (some fid) vs d s κ := rfl
section ops
variable {bx : Bool} {d : Option Tmp} {ty : TypeId} {pos : String} {aft : Array Edge} {g : Option (Nat × Bool)}
theorem actK_call {f : Operand} {args : Array Operand} {ts : Array TypeId} : actK P tab bx ⟨d, .call ⟨.value f, args, ts⟩, ty, pos, aft, g⟩ s k = @callKN P tab bx (opv s f) (args.toList.map (opv s)) d s ⟨k⟩ := by
 simp only [actK, callK]
 generalize opv s f = fv
 cases hf : fnOf fv with
 | none =>
  cases fv with
  | one y =>
   cases y with
   | clo fid caps => rfl
   | _ => simp only [callKN, hf, callKK]
  | _ => simp only [callKN, hf, callKK]
 | some fid =>
  cases fv with
  | one y =>
   cases y with
   | clo f2 caps => simp [fnOf] at hf
   | _ => simp only [callKN, hf, callKK]; rfl
  | _ => simp [fnOf] at hf
theorem actK_len {args : Array Operand} {ts : Array TypeId} : actK P tab bx ⟨d, .call ⟨.builtin .len, args, ts⟩, ty, pos, aft, g⟩ s k = @outKK (callF tab ⟨d, .call ⟨.builtin .len, args, ts⟩, ty, pos, aft, g⟩ s ⟨.builtin .len, args, ts⟩) d s ⟨k⟩ := rfl
theorem actK_max {args : Array Operand} {ts : Array TypeId} : actK P tab bx ⟨d, .call ⟨.builtin .max, args, ts⟩, ty, pos, aft, g⟩ s k = @outKK (callF tab ⟨d, .call ⟨.builtin .max, args, ts⟩, ty, pos, aft, g⟩ s ⟨.builtin .max, args, ts⟩) d s ⟨k⟩ := rfl
theorem actK_append {args : Array Operand} {ts : Array TypeId} : actK P tab bx ⟨d, .call ⟨.builtin .append, args, ts⟩, ty, pos, aft, g⟩ s k = @outAK (callF tab ⟨d, .call ⟨.builtin .append, args, ts⟩, ty, pos, aft, g⟩ s ⟨.builtin .append, args, ts⟩) d s ⟨k⟩ ⟨absKK bx (absO tab ⟨d, .call ⟨.builtin .append, args, ts⟩, ty, pos, aft, g⟩ s) d s⟩ := rfl
theorem actK_alloc {t : TypeId} : actK P tab bx ⟨d, .alloc t, ty, pos, aft, g⟩ s k = @outKK ((tab t).map fun ti => (True, .new (.one (.ptr (d.getD 0) 0)) (.var ti.zero))) d s ⟨k⟩ := rfl
theorem actK_box {t : TypeId} {x : Operand} : actK P tab bx ⟨d, .box t x, ty, pos, aft, g⟩ s k = @outKK ((opv s x).cs.map fun cs => (True, .new (.one (.ptr (d.getD 0) 0)) (.var cs))) d s ⟨k⟩ := rfl
theorem actK_store {t : TypeId} {p x : Operand} : actK P tab bx ⟨d, .store t p x, ty, pos, aft, g⟩ s k = @outKK (storeA tab s.lb t (opv s p) (opv s x)) d s ⟨k⟩ := rfl
def valO (x : Option (Prop × AV)) : Option (Prop × Eff) := x.map fun (p, v) => (p, .val v)
theorem valO_some {p : Prop} {v : AV} : valO (some (p, v)) = some (p, .val v) := rfl
theorem actK_move {x : Operand} : actK P tab bx ⟨d, .move x, ty, pos, aft, g⟩ s k = @outKK (some (True, .val (opv s x))) d s ⟨k⟩ := rfl
theorem actK_assign {x : Operand} : actK P tab bx ⟨d, .assign x, ty, pos, aft, g⟩ s k = @outKK (some (True, .val (opv s x))) d s ⟨k⟩ := rfl
theorem actK_load {t : TypeId} {x : Operand} : actK P tab bx ⟨d, .load t x, ty, pos, aft, g⟩ s k = @outKK (valO (loadA tab s.lb t (opv s x))) d s ⟨k⟩ := rfl
theorem actK_binOp {op : BinOp} {t t' : TypeId} {x y : Operand} : actK P tab bx ⟨d, .binOp op t x y t', ty, pos, aft, g⟩ s k = @outKK (valO (binA tab op t (opv s x) (opv s y))) d s ⟨k⟩ := rfl
theorem actK_fieldAddr {t : TypeId} {x : Operand} {f : Nat} : actK P tab bx ⟨d, .fieldAddr t x f, ty, pos, aft, g⟩ s k = @outKK (valO (fieldAddrA s.lb (tab t) (opv s x) f)) d s ⟨k⟩ := rfl
theorem actK_nilCheck {x : Operand} : actK P tab bx ⟨d, .nilCheck x, ty, pos, aft, g⟩ s k = @outKK (valO (chkA s.lb (opv s x))) d s ⟨k⟩ := rfl
theorem actK_indexAddr {t : TypeId} {x i : Operand} : actK P tab bx ⟨d, .indexAddr t x i, ty, pos, aft, g⟩ s k = @outKK (valO (indexAddrA tab s.lb t (opv s x) (opv s i))) d s ⟨k⟩ := rfl
theorem actK_index {t : TypeId} {x i : Operand} : actK P tab bx ⟨d, .index t x i, ty, pos, aft, g⟩ s k = @outKK (valO (indexA (tab t) (opv s x) (opv s i))) d s ⟨k⟩ := rfl
def notA (v : AV) : Option (Prop × AV) := match v with
 | .one (.c (.v (.bool b))) => some (True, boolA (!b))
 | _ => none
theorem actK_not {t : TypeId} {x : Operand} : actK P tab bx ⟨d, .unOp .not t x, ty, pos, aft, g⟩ s k = @outKK (valO (notA (opv s x))) d s ⟨k⟩ := rfl
theorem notA_bool {b : Bool} : notA (.one (.c (.v (.bool b)))) = some (True, .one (.c (.v (.bool (!b))))) := rfl
def pickA (c a b : AV) : Option (Prop × AV) := match c with
 | .one (.c (.v (.bool t))) => some (True, if t then a else b)
 | _ => none
theorem actK_pick {c a b : Operand} : actK P tab bx ⟨d, .pick c a b, ty, pos, aft, g⟩ s k = @outKK (valO (pickA (opv s c) (opv s a) (opv s b))) d s ⟨k⟩ := rfl
theorem pickA_bool {t : Bool} {a b : AV} : pickA (.one (.c (.v (.bool t)))) a b = some (True, if t = true then a else b) := rfl
theorem actK_convert {t t' : TypeId} {x : Operand} : actK P tab bx ⟨d, .convert t t' x, ty, pos, aft, g⟩ s k = @outKK (valO (convA tab s.lb t t' (opv s x))) d s ⟨k⟩ := rfl
theorem actK_slice {t : TypeId} {x : Operand} {lo hi : Option Operand} : actK P tab bx ⟨d, .slice t x lo hi none, ty, pos, aft, g⟩ s k = @outKK (valO (sliceA tab (tab t) (opv s x) (lo.map (opv s)) (hi.map (opv s)))) d s ⟨k⟩ := rfl
def extractA (v : AV) (i : Nat) : Option (Prop × AV) := match v with
 | .tup vs => (vs[i]?).map fun v => (True, v)
 | _ => none
theorem actK_extract {x : Operand} {i : Nat} : actK P tab bx ⟨d, .extract x i, ty, pos, aft, g⟩ s k = @outKK (valO (extractA (opv s x) i)) d s ⟨k⟩ := rfl
theorem extractA_tup {vs : List AV} {i : Nat} : extractA (.tup vs) i = (vs[i]?).map fun v => (True, v) := rfl
theorem actK_buildSlice {t : TypeId} {len : Nat} {parts : Array (Nat × Operand)} : actK P tab bx ⟨d, .buildSlice t len parts, ty, pos, aft, g⟩ s k = @outKK (outF tab ⟨d, .buildSlice t len parts, ty, pos, aft, g⟩ s) d s ⟨k⟩ := rfl
theorem actK_build {t : TypeId} {parts : Array (Nat × Operand)} : actK P tab bx ⟨d, .build t parts, ty, pos, aft, g⟩ s k = @outKK (outF tab ⟨d, .build t parts, ty, pos, aft, g⟩ s) d s ⟨k⟩ := rfl
end ops
theorem eff_val {v : AV} {d : Option Tmp} : (Eff.val v).app d s = s.set d v := rfl
theorem eff_new {v : AV} {B : LB} {d : Tmp} : (Eff.new v B).app (some d) s = (s.put d B).set (some d) v := rfl
theorem eff_upd {v : AV} {B : LB} {l : Nat} {d : Option Tmp} : (Eff.upd v l B).app d s = (s.put l B).set d v := rfl
theorem effOk_val {v : AV} {d : Tmp} : effOk (.val v) (some d) s = (d < s.n) := rfl
theorem effOk_new {v : AV} {B : LB} {d : Tmp} : effOk (.new v B) (some d) s = (d < s.n ∧ s.lb d = none) := rfl
theorem effOk_upd {v : AV} {B : LB} {l : Nat} {d : Tmp} : effOk (.upd v l B) (some d) s = (d < s.n) := rfl
theorem effOk_upd0 {v : AV} {B : LB} {l : Nat} : effOk (.upd v l B) none s = True := rfl
theorem dOk_some {d : Tmp} : dOk (some d) s = (d < s.n) := rfl
theorem opv_tmp {t : Tmp} : opv s (.tmp t) = s.sl t := rfl
theorem opv_func {f : FuncId} : opv s (.func f) = .one (.c (.v (.func (.func f) #[] #[]))) := rfl
theorem opv_int {n : Int} {i : IntKind} : opv s (.const (.int i n)) = .one (.c (.v (.int i n))) := rfl
theorem opv_bool {b : Bool} : opv s (.const (.bool b)) = .one (.c (.v (.bool b))) := rfl
theorem opv_string {b : ByteArray} : opv s (.const (.string b)) = .one (.c (.v (.string b))) := rfl
theorem opv_nil : opv s (.const (.slice none 0 0)) = .one .nil := rfl
theorem fnOf_func {f : FuncId} : fnOf (.one (.c (.v (.func (.func f) #[] #[])))) = some f := rfl
end eqs
theorem loopA_rule {ι : Type} {c : Code} {Q : Exit → St → Prop} {s : St} (S : ι → St) (I : ι → Prop) (μ : ι → Nat) (i0 : ι) (hI : I i0) (h0 : Wk s (S i0)) (hT : TabOk P tab) (hm : P.follows .mixedOrders = true) (hok : okCode c = true)
  (round : ∀ i, I i → codeK P tab c (thenA (fun s' => ∃ j, I j ∧ μ j < μ i ∧ Wk s' (S j)) Q) (S i)) : @LoopK P c s ⟨Q⟩ :=
 loop_rule (ι := {i : ι // I i}) (fun i => S i.1) (fun i => μ i.1) ⟨i0, hI⟩ h0 (fun i => AWP.mono (codeK_sound hT hm c _ _ hok (round i.1 i.2)) (fun e s hq => by
  cases e with
  | normal => obtain ⟨j, h1, h2, h3⟩ := hq; exact ⟨⟨j, h1⟩, h3, h2⟩
  | _ => exact hq))
theorem owns_c (cs : List C) : (cs.map AC.c).flatMap AC.owns = [] := by
 induction cs with
 | nil => rfl
 | cons c cs ih => simp [AC.owns]
theorem cast_nonneg (n : Nat) : (0 ≤ (n : Int)) = True := eq_true (Int.natCast_nonneg n)
theorem cast_lt (m n : Nat) : ((m : Int) < (n : Int)) = (m < n) := propext Int.ofNat_lt
theorem cast_le (m n : Nat) : ((m : Int) ≤ (n : Int)) = (m ≤ n) := propext Int.ofNat_le
theorem cast_neg (n : Nat) : ((n : Int) < 0) = False := eq_false (by omega)
theorem cast_toNat (n : Nat) : ((n : Int)).toNat = n := rfl
attribute [go_sem high] wantKK_tt wantKK_tf wantKK_ft wantKK_ff condK_true condK_false
attribute [go_sem ↓] reduceIte
attribute [go_sem] reduceCtorEq Nat.reduceEqDiff Nat.reduceLT Nat.reduceLeDiff Nat.reduceAdd Nat.reduceSub Nat.reduceMul
attribute [go_sem] IntWalk.i64_in AV.one.injEq AC.c.injEq C.v.injEq Value.int.injEq Value.bool.injEq beq_self_eq_true bne_self_eq_false
attribute [go_sem] owns_c cast_nonneg cast_lt cast_le cast_neg cast_toNat
attribute [go_sem ↓] actK_convert
attribute [go_sem] convA nilA
attribute [go_sem ↓] blockA_same codeK_skip codeK_region codeK_regionD codeK_seq codeK_cond codeK_block codeK_exit codeK_ret codeK_loop thenA_normal thenA_exit thenA_ret blockA_normal blockA_ret retA_ret actK_call actK_len actK_max actK_append actK_alloc actK_box actK_store actK_move actK_assign actK_load actK_binOp actK_fieldAddr actK_nilCheck actK_nilCheck actK_indexAddr actK_index actK_not actK_pick actK_slice actK_extract actK_buildSlice actK_build
attribute [go_sem] okBs_c noTks_c mk_gh updL_look tkR tkV tkVs tkC tkCs flR flV flC retFS retVs retV retC retCs retMS Turned takeVs takeV takeCs takeC giveVs giveV giveCs giveC entVs entV entCs hoVs hoV hoCs toC okBVs okBV okB okBs noTkVs noTkV noTk noTks leG List.set_cons_zero List.set_cons_succ retFA_ret or_true true_or or_false false_or
attribute [go_sem] regK_nil regK_one regK_guard wantJ_some wantKK_bool wantKK_un condK_bool outKK_some outAK_some absO absA absT callKK_some callKN_func hasPtr isPtr ptrAt hasClo isClo okKVs okKV okKs okK vKVs vKV vKs vK isCs cOfs allIp capsA Bool.or_false Bool.false_or valO_some notA_bool pickA_bool extractA_tup eff_val eff_new eff_upd effOk_val effOk_new effOk_upd effOk_upd0 dOk_some opv_tmp opv_func opv_int opv_bool opv_string opv_nil fnOf_func mk_set mk_set0 mk_put mk_n mk_sl mk_lb look_cons lookB_cons lookB_nil frzs_nil frzs_cons mk_frz frzB LB.frz loadA binA cmpA binInt binStr lenA fieldAddrA chkA binShr indexAddrA indexA sliceA slice3A storeA callF callPure maxA appendA moreA outF pureF mkAV splice fillA chunks AV.cs TyD.agg AV.owns AC.owns okAVs okAV okC okCs vAVs vAV vC vCs vCs_c okCs_c dstAt retS resVs resV joinR intA unD enumA leL leB inV inC inB List.map_cons List.map_nil List.toList_toArray Option.map_some Option.map_none Option.getD_some Option.getD_none Option.bind_some List.flatMap_cons List.flatMap_nil List.append_nil List.nil_append List.cons_append List.length_cons List.length_nil List.take_succ_cons List.take_zero List.drop_succ_cons List.drop_zero List.getElem?_cons_succ List.getElem?_cons_zero List.getElem?_toArray List.getElem?_nil List.getD_cons_succ List.getD_cons_zero ite_true ite_false if_true if_false true_and and_true and_false false_and and_self true_implies false_implies implies_true forall_const not_true_eq_false not_false_eq_true Bool.not_true Bool.not_false Bool.false_eq_true Bool.true_eq_false decide_eq_true_eq decide_eq_false_iff_not Bool.not_eq_true' Bool.not_eq_false' beq_iff_eq bne_iff_ne ne_eq Nat.zero_add Nat.add_zero Nat.zero_le Nat.le_refl
inductive Tm where
 | mk (k n : Int) (s : ByteArray) (as : List Tm)
theorem Tm.ind {p : Tm → Prop} (h : ∀ k n s as, (∀ a, a ∈ as → p a) → p (.mk k n s as)) : ∀ t, p t
 | .mk k n s as => h k n s as (fun a _ => Tm.ind h a)
mutual
def Tm.enc : Tm → List C
 | .mk k n s as => [.v (.int .i64 k), .v (.int .i64 n), .v (.string s), .sl (Tm.encs as)]
def Tm.encs : List Tm → List (List C)
 | [] => []
 | a :: as => a.enc :: Tm.encs as
end
end Go.Ai
