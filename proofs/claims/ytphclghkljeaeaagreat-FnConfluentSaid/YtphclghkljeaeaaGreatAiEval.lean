/- Running a function's code on abstract states, by simp: the equations, and what simp is not to look into. -/
import Derived.Test.YtphclghkljeaeaaGreatAiTab
import Derived.Test.YtphclghkljeaeaaGreatAiMoves
import Derived.Attr
set_option linter.unusedVariables false
set_option linter.unusedSimpArgs false
namespace Go.Ai
open Go.RowKit
variable {P : Program} {tab : Tab}
abbrev Kn := Inhabited (St → Prop)
abbrev Qn := Inhabited (Exit → St → Prop)
def CallK (P : Program) (tab : Tab) (x : Bool) (fid : FuncId) (nt : Prop) (ds vs : List AV) (d : Option Tmp) (s : St) [κ : Kn] : Prop := bv1 P tab x fid nt ds vs d s κ.default
section
variable {x : Bool} {fid : FuncId} {nt : Prop} {ds vs : List AV} {d : Option Tmp} {s : St} {κ : Kn} {r : AV}
theorem CallK.mk (h : Sat P fid ds r) (hk : κ.default ((s.frzs (vs.flatMap AV.owns)).set d r)) : @CallK P tab x fid True ds vs d s κ := .inl ⟨r, h, trivial, hk⟩
theorem zY0 {P Q : Prop} (h : Q) (e : P = Q := by simp -implicitDefEqProofs only [go_sem]; rfl) : P := e ▸ h
theorem qJ0 {P Q : Prop} (h : Q) (e : P = Q := by simp -implicitDefEqProofs (disch := omega) only [go_sem, hn, hm1]; rfl) : P := e ▸ h
theorem yQ0 {P Q : Prop} (h : Q) (e : P = Q := by simp -implicitDefEqProofs (disch := omega) only [go_sem]; rfl) : P := e ▸ h
theorem kF0 {P Q : Prop} (h : Q) (e : P = Q := by simp -implicitDefEqProofs (disch := omega) only [go_sem, Tm.enc]; rfl) : P := e ▸ h
theorem bp0 {P Q : Prop} (h : Q) (e : P = Q := by simp -implicitDefEqProofs only [go_sem, Tm.enc]; rfl) : P := e ▸ h
theorem sQ0 {P Q : Prop} (h : Q) (e : P = Q := by simp -implicitDefEqProofs (disch := omega) only [go_sem, we_ne, hn, hm1]; rfl) : P := e ▸ h
theorem fx0 {P Q : Prop} (h : Q) (e : P = Q := by simp -implicitDefEqProofs (disch := omega) only [go_sem, List.length_map]; rfl) : P := e ▸ h
theorem sR0 {P Q : Prop} (h : Q) (e : P = Q := by simp -implicitDefEqProofs only [go_sem, hn]; rfl) : P := e ▸ h
theorem pi0 {P Q : Prop} (h : Q) (e : P = Q := by simp -implicitDefEqProofs (disch := omega) only [go_sem, hg, hlt, List.length_map]; rfl) : P := e ▸ h
theorem xZ0 {P Q : Prop} (h : Q) (e : P = Q := by simp -implicitDefEqProofs (disch := omega) only [go_sem, hg, hlt, enc_len]; rfl) : P := e ▸ h
theorem cS1 {P Q : Prop} (h : Q) (e : P = Q := by simp -implicitDefEqProofs (disch := omega) only [go_sem, h1m]; rfl) : P := e ▸ h
theorem bq0 {P Q : Prop} (h : Q) (e : P = Q := by simp -implicitDefEqProofs (disch := omega) only [go_sem, hn]; rfl) : P := e ▸ h
theorem mj0 {P Q : Prop} (h : Q) (e : P = Q := by simp -implicitDefEqProofs (disch := omega) only [go_sem, hgd, hlt, List.length_map]; rfl) : P := e ▸ h
theorem xZ1 {P Q : Prop} (h : Q) (e : P = Q := by simp -implicitDefEqProofs only [go_sem, we_ne, hn]; rfl) : P := e ▸ h
theorem vS1 {P Q : Prop} (h : Q) (e : P = Q := by simp -implicitDefEqProofs (disch := omega) only [go_sem, hd]; rfl) : P := e ▸ h
theorem nm0 {P Q : Prop} (h : Q) (e : P = Q := by simp -implicitDefEqProofs (disch := omega) only [go_sem, Nat.not_lt.2 hge, List.length_map]; rfl) : P := e ▸ h
theorem qp1 {P Q : Prop} (h : Q) (e : P = Q := by simp -implicitDefEqProofs only [go_sem, List.length_map]; rfl) : P := e ▸ h
theorem wy1 {P Q : Prop} (h : Q) (e : P = Q := by simp -implicitDefEqProofs (disch := omega) only [go_sem, Nat.lt_irrefl, List.length_map]; rfl) : P := e ▸ h
theorem bV1 {P Q : Prop} (h : Q) (e : P = Q := by simp -implicitDefEqProofs only [go_sem, nex10, nex11, nex12, nex13, nex14, nex15, nex16, nex17]; rfl) : P := e ▸ h
theorem vT1 {P Q : Prop} (h : Q) (e : P = Q := by simp -implicitDefEqProofs (disch := omega) only [go_sem, List.getElem?_cons_succ, List.getElem?_cons_zero]; rfl) : P := e ▸ h
theorem bW1 {P Q : Prop} (h : Q) (e : P = Q := by simp -implicitDefEqProofs (disch := omega) only [go_sem, GOp.enc, encS, encL, List.cons_append, List.nil_append]; rfl) : P := e ▸ h
theorem bX1 {P Q : Prop} (h : Q) (e : P = Q := by simp -implicitDefEqProofs (disch := omega) only [go_sem, we_ne, hn, hm1, nex30, nex31]; rfl) : P := e ▸ h
theorem pZ1 {P Q : Prop} (h : Q) (e : P = Q := by simp -implicitDefEqProofs (disch := omega) only [go_sem, Nat.lt_irrefl]; rfl) : P := e ▸ h
theorem cT1 {P Q : Prop} (h : Q) (e : P = Q := by simp -implicitDefEqProofs (disch := omega) only [go_sem, hde, Tm.enc]; rfl) : P := e ▸ h
theorem ff1 {P Q : Prop} (h : Q) (e : P = Q := by simp -implicitDefEqProofs (disch := omega) only [go_sem, Nat.not_lt.2 hge]; rfl) : P := e ▸ h
theorem sg1 {P Q : Prop} (h : Q) (e : P = Q := by simp -implicitDefEqProofs only [go_sem, GDefinition.enc, GSignature.enc, Tm.enc, encS, encL, List.cons_append, List.nil_append]; rfl) : P := e ▸ h
theorem mP1 {P Q : Prop} (h : Q) (e : P = Q := by simp -implicitDefEqProofs (disch := omega) only [go_sem, hdl]; rfl) : P := e ▸ h
theorem dU1 {P Q : Prop} (h : Q) (e : P = Q := by simp -implicitDefEqProofs (disch := omega) only [go_sem, List.length_nil, List.length_cons, c0, c1, c2, Int.reduceEq, Int.reduceLT, Int.reduceLE, Int.reduceToNat, Int.reduceBEq]; rfl) : P := e ▸ h
theorem dV1 {P Q : Prop} (h : Q) (e : P = Q := by simp -implicitDefEqProofs (disch := omega) only [go_sem, hg, hg', hlt, hlt', enc_len, List.length_map]; rfl) : P := e ▸ h
theorem bY1 {P Q : Prop} (h : Q) (e : P = Q := by simp -implicitDefEqProofs only [go_sem, List.getElem?_cons_succ, List.getElem?_cons_zero, rowsOf_toC]; rfl) : P := e ▸ h
theorem mQ1 {P Q : Prop} (h : Q) (e : P = Q := by simp -implicitDefEqProofs (disch := omega) only [go_sem, hgd, hlt, List.length_map, List.length_take, hml]; rfl) : P := e ▸ h
theorem cU1 {P Q : Prop} (h : Q) (e : P = Q := by simp -implicitDefEqProofs (disch := omega) only [go_sem, hg, hlt]; rfl) : P := e ▸ h
theorem cV1 {P Q : Prop} (h : Q) (e : P = Q := by simp -implicitDefEqProofs (disch := omega) only [go_sem, Tm.enc, hdl]; rfl) : P := e ▸ h
theorem cW1 {P Q : Prop} (h : Q) (e : P = Q := by simp -implicitDefEqProofs only [go_sem, Tm.enc, hde]; rfl) : P := e ▸ h
theorem sh1 {P Q : Prop} (h : Q) (e : P = Q := by simp -implicitDefEqProofs (disch := omega) only [go_sem, h1m, nex40, nex41, nex42, nex43, nex44]; rfl) : P := e ▸ h
theorem mR1 {P Q : Prop} (h : Q) (e : P = Q := by simp -implicitDefEqProofs (disch := omega) only [go_sem, hlt, ← hb]; rfl) : P := e ▸ h
theorem mS1 {P Q : Prop} (h : Q) (e : P = Q := by simp -implicitDefEqProofs only [go_sem, GOp.enc, encS, encL, List.cons_append, List.nil_append]; rfl) : P := e ▸ h
theorem dW1 {P Q : Prop} (h : Q) (e : P = Q := by simp -implicitDefEqProofs (disch := omega) only [go_sem, Tm.enc, hse]; rfl) : P := e ▸ h
theorem dX1 {P Q : Prop} (h : Q) (e : P = Q := by simp -implicitDefEqProofs only [go_sem, GGuard.enc, Tm.enc, encI, List.cons_append, List.nil_append]; rfl) : P := e ▸ h
theorem si1 {P Q : Prop} (h : Q) (e : P = Q := by simp -implicitDefEqProofs (disch := omega) only [go_sem, GGuard.enc, Tm.enc, encI, List.cons_append, List.nil_append]; rfl) : P := e ▸ h
theorem sj1 {P Q : Prop} (h : Q) (e : P = Q := by simp -implicitDefEqProofs only [go_sem, Tm.enc, List.length_map, hgr, hj]; rfl) : P := e ▸ h
theorem mT1 {P Q : Prop} (h : Q) (e : P = Q := by simp -implicitDefEqProofs (disch := omega) only [go_sem, hky, hlt, hyrow, hqr]; rfl) : P := e ▸ h
theorem mU1 {P Q : Prop} (h : Q) (e : P = Q := by simp -implicitDefEqProofs (disch := omega) only [go_sem, Nat.lt_irrefl, List.take_length]; rfl) : P := e ▸ h
theorem mV1 {P Q : Prop} (h : Q) (e : P = Q := by simp -implicitDefEqProofs only [go_sem, List.getElem?_cons_succ, List.getElem?_cons_zero]; rfl) : P := e ▸ h
theorem mW1 {P Q : Prop} (h : Q) (e : P = Q := by simp -implicitDefEqProofs (disch := omega) only [go_sem, hlr, Nat.lt_irrefl, List.length_nil, List.length_cons, List.take_length]; rfl) : P := e ▸ h
theorem mX1 {P Q : Prop} (h : Q) (e : P = Q := by simp -implicitDefEqProofs (disch := omega) only [go_sem, hlr, Nat.lt_irrefl, List.length_nil, List.length_cons, c0, c1, c2, Int.reduceEq, Int.reduceLT, Int.reduceLE, Int.reduceToNat, Int.reduceBEq, drowsOf_len, List.take_length, Tm.enc, Tm.encs]; rfl) : P := e ▸ h
theorem mY1 {P Q : Prop} (h : Q) (e : P = Q := by simp -implicitDefEqProofs only [go_sem, Tm.enc, GDefinition.enc, GSignature.enc, encL, List.cons_append, List.nil_append]; rfl) : P := e ▸ h
theorem mZ1 {P Q : Prop} (h : Q) (e : P = Q := by simp -implicitDefEqProofs (disch := omega) only [go_sem, GRule.enc, Tm.enc, encS, encL, List.cons_append, List.nil_append]; rfl) : P := e ▸ h
theorem ma1 {P Q : Prop} (h : Q) (e : P = Q := by simp -implicitDefEqProofs only [go_sem, rdx, Option.isSome_none, List.map_cons, List.map_nil]; rfl) : P := e ▸ h
theorem mb1 {P Q : Prop} (h : Q) (e : P = Q := by simp -implicitDefEqProofs only [go_sem, rdx, Option.isSome_some, List.map_cons, List.map_nil, List.nil_append]; rfl) : P := e ▸ h
theorem mc1 {P Q : Prop} (h : Q) (e : P = Q := by simp -implicitDefEqProofs (disch := omega) only [go_sem, hg, hlt, List.length_map, hde]; rfl) : P := e ▸ h
theorem sk1 {P Q : Prop} (h : Q) (e : P = Q := by simp -implicitDefEqProofs (disch := omega) only [go_sem, hde, List.length_map]; rfl) : P := e ▸ h
theorem sl1 {P Q : Prop} (h : Q) (e : P = Q := by simp -implicitDefEqProofs (disch := omega) only [go_sem, hlr, Nat.lt_irrefl, List.length_nil, List.length_cons, hr', Tm.enc, Tm.encs]; rfl) : P := e ▸ h
theorem sm1 {P Q : Prop} (h : Q) (e : P = Q := by simp -implicitDefEqProofs (disch := omega) only [go_sem, hlr, Nat.lt_irrefl, List.length_nil, List.length_cons, hr', List.take_length, Tm.enc, encs_map, List.map_cons]; rfl) : P := e ▸ h
theorem zA2 {P Q : Prop} (h : Q) (e : P = Q := by simp -implicitDefEqProofs (disch := omega) only [go_sem, hlr, Nat.lt_irrefl, List.length_nil, List.length_cons, c0, c1, c2, Int.reduceEq, Int.reduceLT, Int.reduceLE, Int.reduceToNat, Int.reduceBEq, drowsOf_len, List.take_length, Tm.enc, Tm.encs, g0, hb]; rfl) : P := e ▸ h
theorem zB2 {P Q : Prop} (h : Q) (e : P = Q := by simp -implicitDefEqProofs (disch := omega) only [go_sem, hlr, Nat.lt_irrefl, List.length_nil, List.length_cons, c0, c1, c2, Int.reduceEq, Int.reduceLT, Int.reduceLE, Int.reduceToNat, Int.reduceBEq, drowsOf_len, List.take_length, Tm.enc, Tm.encs, g0]; rfl) : P := e ▸ h
theorem sn1 {P Q : Prop} (h : Q) (e : P = Q := by simp -implicitDefEqProofs (disch := omega) only [go_sem, List.length_nil, List.length_cons, c0, c1, c2, Int.reduceEq, Int.reduceLT, Int.reduceLE, Int.reduceToNat, Int.reduceBEq, drowsOf_len, g0, g1, Tm.enc, Tm.encs]; rfl) : P := e ▸ h
theorem so1 {P Q : Prop} (h : Q) (e : P = Q := by simp -implicitDefEqProofs (disch := omega) only [go_sem, Option.getD_some, Option.isSome_some, GOp.enc, encS, encL, List.cons_append, List.nil_append]; rfl) : P := e ▸ h
theorem zC2 {P Q : Prop} (h : Q) (e : P = Q := by simp -implicitDefEqProofs only [go_sem, Int.reduceToNat, Int.reduceLE, Int.reduceLT, decide_true, Bool.and_self, Int.cast_ofNat_Int]; rfl) : P := e ▸ h
theorem sp1 {P Q : Prop} (h : Q) (e : P = Q := by simp -implicitDefEqProofs (disch := omega) only [go_sem, GDefinition.enc, GSignature.enc, encL, List.cons_append, List.nil_append, List.append_nil]; rfl) : P := e ▸ h
theorem zD2 {P Q : Prop} (h : Q) (e : P = Q := by simp -implicitDefEqProofs only [go_sem, GDefinition.enc, GSignature.enc, spaceEnc, Tm.enc, encS, encL, List.cons_append, List.nil_append]; rfl) : P := e ▸ h
theorem c0' {Q : Prop} (h : Sat P fid ds r) (hk : Q) (e : κ.default ((s.frzs (vs.flatMap AV.owns)).set d r) = Q := by simp -implicitDefEqProofs (disch := omega) only [go_sem]; rfl) : @CallK P tab x fid True ds vs d s κ := CallK.mk h (e ▸ hk)
theorem c3' {Q : Prop} (h : Sat P fid ds r) (hk : Q) (e : κ.default ((s.frzs (vs.flatMap AV.owns)).set d r) = Q := by simp -implicitDefEqProofs only [go_sem]; rfl) : @CallK P tab x fid True ds vs d s κ := CallK.mk h (e ▸ hk)
theorem c7' {Q : Prop} (h : Sat P fid ds r) (hk : Q) (e : κ.default ((s.frzs (vs.flatMap AV.owns)).set d r) = Q := by simp -implicitDefEqProofs only [go_sem, Tm.enc]; rfl) : @CallK P tab x fid True ds vs d s κ := CallK.mk h (e ▸ hk)
theorem c9' {Q : Prop} (h : Sat P fid ds r) (hk : Q) (e : κ.default ((s.frzs (vs.flatMap AV.owns)).set d r) = Q := by simp -implicitDefEqProofs (disch := omega) only [go_sem, List.length_map]; rfl) : @CallK P tab x fid True ds vs d s κ := CallK.mk h (e ▸ hk)
theorem bs1 {Q : Prop} (h : Sat P fid ds r) (hk : Q) (e : κ.default ((s.frzs (vs.flatMap AV.owns)).set d r) = Q := by simp -implicitDefEqProofs (disch := omega) only [go_sem, hg, hlt, List.length_map]; rfl) : @CallK P tab x fid True ds vs d s κ := CallK.mk h (e ▸ hk)
theorem bt1 {Q : Prop} (h : Sat P fid ds r) (hk : Q) (e : κ.default ((s.frzs (vs.flatMap AV.owns)).set d r) = Q := by simp -implicitDefEqProofs (disch := omega) only [go_sem, hgd, hlt, List.length_map]; rfl) : @CallK P tab x fid True ds vs d s κ := CallK.mk h (e ▸ hk)
theorem bu1 {Q : Prop} (h : Sat P fid ds r) (hk : Q) (e : κ.default ((s.frzs (vs.flatMap AV.owns)).set d r) = Q := by simp -implicitDefEqProofs only [go_sem, GDefinition.enc, GSignature.enc, Tm.enc, encS, encL, List.cons_append, List.nil_append]; rfl) : @CallK P tab x fid True ds vs d s κ := CallK.mk h (e ▸ hk)
theorem CallK.bor (h : Sat P fid ds r) (hp : jX0 r = true) (hk : κ.default (s.set d r)) : @CallK P tab x fid nt ds vs d s κ := .inr (.inl ⟨r, h, hp, hk⟩)
theorem CallK.own {t : Tmp} (h : SatF P fid ds r) (hf : s.lb t = none) (hk : κ.default ((s.put t (.tok (flR r))).set (some t) (tkR t r))) : @CallK P tab x fid nt ds vs (some t) s κ := .inr (.inr (.inl ⟨r, t, h, rfl, hf, hk⟩))
theorem CallK.outN {t : Tmp} {e : TypeId} {sz : Nat} {rows : List (List AC)} (h : SatO P fid ds e sz rows r) (hno : vs.flatMap AV.owns = []) (hf : s.lb t = none)
  (hk : κ.default ((s.put t (.arr e sz rows false)).set (some t) (no0 t r))) : @CallK P tab x fid True ds vs (some t) s κ := .inr (.inr (.inr (.inl ⟨trivial, hno, e, sz, rows, r, t, h, rfl, hf, hk⟩)))
theorem CallK.newN {t : Tmp} {cells : List AC} (h : pH1 P fid ds cells) (hno : vs.flatMap AV.owns = []) (hf : s.lb t = none)
  (hk : κ.default ((s.put t (.var cells)).set (some t) (.one (.ptr t 0)))) : @CallK P tab x fid True ds vs (some t) s κ := .inr (.inr (.inr (.inr (.inr (.inl ⟨trivial, hno, cells, t, h, rfl, hf, hk⟩)))))
theorem CallK.new {t : Tmp} {cells : List AC} (hx : x = true) (h : pH1 P fid ds cells) (hno : vs.flatMap AV.owns = []) (hf : s.lb t = none)
  (hk : κ.default ((s.put t (.var cells)).set (some t) (.one (.ptr t 0)))) : @CallK P tab x fid True ds vs (some t) s κ := CallK.newN h hno hf hk
theorem CallK.sem {s' : St} (hx : x = true) (h : sW1 P tab fid nt ds vs d s s') (hk : κ.default s') : @CallK P tab x fid nt ds vs d s κ := .inr (.inr (.inr (.inr (.inr (.inr ⟨hx, s', h, hk⟩)))))
theorem CallK.accD {t : Tmp} {e : TypeId} {sz : Nat} {rows rows' : List (List AC)} {rest : List AV} (j : Nat) (hx : x = true) (h : bn0 P fid (ds.take j) (ds.drop (j + 1)) e sz rows rows' rest) (ha : vR1 vs j e sz rows s) (hf : s.lb t = none)
  (hk : κ.default (((yf0 vs j s).put t (.arr e sz rows' false)).set (some t) (vc1 t rows'.length rest))) : @CallK P tab x fid True ds vs (some t) s κ :=
 CallK.sem hx (fun o args ts f hop hfn hvs hd hdst _ hv => ⟨qQ0 hop, fun _ w0 M0 F0 F g a w hs K Q hK => nr0 hs ⟨⟨.value f, args, ts⟩, f, fid, ds, j, e, sz, rows, rows', rest, t, hop, rfl, hfn, by rw [hd]; exact hdst, by rw [hvs]; exact hv trivial, h, by rw [hvs]; exact ha, hd, hf, by rw [hvs, hd]⟩ hK⟩) hk
theorem CallK.acc {t : Tmp} {e : TypeId} {sz : Nat} {rows rows' : List (List AC)} {rest : List AV} (j : Nat) (h : bn0 P fid (ds.take j) (ds.drop (j + 1)) e sz rows rows' rest) (ha : vR1 vs j e sz rows s) (hf : s.lb t = none)
  (hk : κ.default (((yf0 vs j s).put t (.arr e sz rows' false)).set (some t) (vc1 t rows'.length rest))) : @CallK P tab true fid True ds vs (some t) s κ := CallK.accD j rfl h ha hf hk
theorem CallK.outD {t : Tmp} {e : TypeId} {sz : Nat} {rows : List (List AC)} (hx : x = true) (h : SatO P fid ds e sz rows r) (hf : s.lb t = none)
  (hk : κ.default (((s.frzs (vs.flatMap AV.owns)).put t (.arr e sz rows false)).set (some t) (no0 t r))) : @CallK P tab x fid True ds vs (some t) s κ :=
 CallK.sem hx (fun o args ts f hop hfn hvs hd hdst _ hv => ⟨qQ0 hop, fun _ w0 M0 F0 F g a w hs K Q hK => nx0 hs ⟨⟨.value f, args, ts⟩, f, fid, ds, e, sz, rows, r, t, hop, rfl, hfn, by rw [hd]; exact hdst, by rw [hvs]; exact hv trivial, h, hd, hf, by rw [hvs, hd]⟩ hK⟩) hk
theorem CallK.out {t : Tmp} {e : TypeId} {sz : Nat} {rows : List (List AC)} (h : SatO P fid ds e sz rows r) (hf : s.lb t = none)
  (hk : κ.default (((s.frzs (vs.flatMap AV.owns)).put t (.arr e sz rows false)).set (some t) (no0 t r))) : @CallK P tab true fid True ds vs (some t) s κ := CallK.outD rfl h hf hk
theorem CallK.lost {e : TypeId} {sz : Nat} {rows : List (List AC)} {rest : List AV} (j : Nat) (hx : x = true) (h : vQ1 P fid (ds.take j) (ds.drop (j + 1)) e sz rows rest) (ha : vR1 vs j e sz rows s)
  (hk : κ.default ((yf0 vs j s).set d (jq1 rest))) : @CallK P tab x fid True ds vs d s κ :=
 CallK.sem hx (fun o args ts f hop hfn hvs hd hdst _ hv => ⟨qQ0 hop, fun _ w0 M0 F0 F g a w hs K Q hK => nw0 hs ⟨⟨.value f, args, ts⟩, f, fid, ds, j, e, sz, rows, rest, hop, rfl, hfn, by rw [hd]; exact hdst, by rw [hvs]; exact hv trivial, h, by rw [hvs]; exact ha, by rw [hvs, hd]⟩ hK⟩) hk
theorem CallK.shown {e : TypeId} {sz : Nat} {rows : List (List AC)} (j : Nat) (hx : x = true) (h : dK1 P fid (ds.take j) (ds.drop (j + 1)) e sz rows r) (ha : vR1 vs j e sz rows s)
  (hk : κ.default (s.set d r)) : @CallK P tab x fid True ds vs d s κ :=
 CallK.sem hx (fun o args ts f hop hfn hvs hd hdst _ hv => ⟨qQ0 hop, fun _ w0 M0 F0 F g a w hs K Q hK => rC0 hs ⟨⟨.value f, args, ts⟩, f, fid, ds, j, e, sz, rows, r, hop, rfl, hfn, by rw [hd]; exact hdst, by rw [hvs]; exact hv trivial, h, by rw [hvs]; exact ha, by rw [hd]⟩ hK⟩) hk
theorem CallK.give {t : Tmp} {y : C} (j : Nat) (hx : x = true) (h : dJ1 P fid (ds.take j) (ds.drop (j + 1)) y r) (ha : fM1 vs j y s) (hf : s.lb t = none)
  (hk : κ.default (((yf0 vs j s).put t (.tok (flR r))).set (some t) (tkR t r))) : @CallK P tab x fid True ds vs (some t) s κ :=
 CallK.sem hx (fun o args ts f hop hfn hvs hd hdst _ hv => ⟨qQ0 hop, fun _ w0 M0 F0 F g a w hs K Q hK => nu0 hs ⟨⟨.value f, args, ts⟩, f, fid, ds, j, y, r, t, hop, rfl, hfn, by rw [hd]; exact hdst, by rw [hvs]; exact hv trivial, h, by rw [hvs]; exact ha, hd, hf, by rw [hvs, hd]⟩ hK⟩) hk
theorem CallK.accF {t : Tmp} {e : TypeId} {sz : Nat} {rows rows' : List (List AC)} {rest : List AV} (j : Nat) (hx : x = true) (h : bn0 P fid (ds.take j) (ds.drop (j + 1)) e sz rows rows' rest) (ha : Ai.accF vs j e sz rows s) (hf : s.lb t = none)
  (hk : κ.default (((yf0 vs j (s.frzs (qH0 vs j))).put t (.arr e sz rows' false)).set (some t) (vc1 t rows'.length rest))) : @CallK P tab x fid True ds vs (some t) s κ :=
 CallK.sem hx (fun o args ts f hop hfn hvs hd hdst _ hv => ⟨qQ0 hop, fun _ w0 M0 F0 F g a w hs K Q hK => lN0 hs ⟨⟨.value f, args, ts⟩, f, fid, ds, j, e, sz, rows, rows', rest, t, hop, rfl, hfn, by rw [hd]; exact hdst, by rw [hvs]; exact hv trivial, h, by rw [hvs]; exact ha, hd, hf, by rw [hvs, hd]⟩ hK⟩) hk
theorem ys1 {args : List AV} {Bs Bs' : List LB} {ls ns : List Nat} (h : wB0 P fid args Bs Bs' r) (ha : li0 vs args Bs Bs' ls ns s) {o : Oper} {as : Array Operand} {ts : Array TypeId} {f : Operand} (hop : o.op = .call ⟨.value f, as, ts⟩) (hfn : xv0 (opv s f) = some fid) (hvs : as.toList.map (opv s) = vs) (hd : o.dst = d) (hdst : ∀ t, d = some t → t < s.n) : lH0 P tab o s (bv0 vs args Bs' r ls ns s d) := by
 obtain ⟨c1, c2, c3, c4, c5⟩ := ha
 exact ⟨qQ0 hop, fun _ w0 M0 F0 F g a w hs K Q hK => fE0 hs ⟨⟨.value f, as, ts⟩, f, fid, args, Bs, Bs', r, ls, ns, hop, rfl, hfn, by rw [hd]; exact hdst, h, c1, c2, by rw [hvs]; exact dq0 c3, c4, c5, by rw [hvs, hd]⟩ hK⟩
theorem CallK.con {args : List AV} {Bs Bs' : List LB} (ls ns : List Nat) (hx : x = true) (h : wB0 P fid args Bs Bs' r) (ha : li0 vs args Bs Bs' ls ns s)
  (hk : κ.default (bv0 vs args Bs' r ls ns s d)) : @CallK P tab x fid nt ds vs d s κ := CallK.sem hx (fun _ _ _ _ hop hfn hvs hd hdst _ _ => ys1 h ha hop hfn hvs hd hdst) hk
end
def zX1 (P : Program) (c : Code) (s : St) [q : Qn] : Prop := jp1 P c q.default s
def yu0 (x : Option (Prop × Eff)) (d : Option Tmp) (s : St) [κ : Kn] : Prop :=
 match x with
 | some (p, e) => p ∧ fV0 e d s ∧ (p → κ.default (e.app d s))
 | none => False
abbrev An := Inhabited (Kn → Prop)
def cb1 (x : Option (Prop × Eff)) (d : Option Tmp) (s : St) [κ : Kn] [α : An] : Prop :=
 match x with
 | some (p, e) => p ∧ fV0 e d s ∧ (p → κ.default (e.app d s))
 | none => α.default κ
def dr1 (x : Bool) (r : Option (Prop × St)) (d : Option Tmp) (s : St) (κ : Kn) : Prop :=
 x = true ∧ match r with
 | some (p, s') => p ∧ dOk d s ∧ (p → κ.default s')
 | none => False
def CloK (P : Program) (x : Bool) (fid : FuncId) (p : Prop) (ds : List AV) (d : Option Tmp) (s : St) [κ : Kn] : Prop := x = true ∧ p ∧ dOk d s ∧ ∃ r, Sat P fid ds r ∧ jX0 r = true ∧ κ.default (s.set d r)
theorem CloK.mk {x : Bool} {fid : FuncId} {p : Prop} {ds : List AV} {d : Option Tmp} {s : St} {κ : Kn} {r : AV} (h : Sat P fid ds r) (hx : x = true) (hp : p) (hd : dOk d s) (hr : jX0 r = true) (hk : κ.default (s.set d r)) : @CloK P x fid p ds d s κ := ⟨hx, hp, hd, r, h, hr, hk⟩
def SelfK (P : Program) (fid : FuncId) (ds : List AV) (d : Option Tmp) (s : St) [κ : Kn] : Prop := ∃ r, Sat P fid ds r ∧ jX0 r = true ∧ κ.default (s.set d r)
theorem SelfK.mk {fid : FuncId} {ds : List AV} {d : Option Tmp} {s : St} {κ : Kn} {r : AV} (h : Sat P fid ds r) (hr : jX0 r = true) (hk : κ.default (s.set d r)) : @SelfK P fid ds d s κ := ⟨r, h, hr, hk⟩
def LoanK (P : Program) (tab : Tab) (x : Bool) (fid : FuncId) (ds1 ds2 vs : List AV) (d : Option Tmp) (s : St) [κ : Kn] : Prop := bw1 P tab x fid ds1 ds2 vs d s κ.default
theorem LoanK.mk {x : Bool} {fid : FuncId} {ds1 ds2 vs : List AV} {d : Option Tmp} {s : St} {κ : Kn} {r : AV} {B B' : LB} (h : dp1 P fid ds1 ds2 B B' r) (hx : x = true) (ha : xX1 vs (jZ0 vs) B s)
  (hk : κ.default (((s.frzs (qH0 vs (jZ0 vs))).put (ma0 vs (jZ0 vs)) B').set d r)) : @LoanK P tab x fid ds1 ds2 vs d s κ :=
 ⟨hx, _, fun o args ts f hop hfn hvs hd hdst v1 v2 => ⟨qQ0 hop, fun _ w0 M0 F0 F g a w hs K Q hK => ny0 hs ⟨⟨.value f, args, ts⟩, f, fid, jZ0 vs, _, _, B, B', r, hop, rfl, hfn, by rw [hd]; exact hdst, by rw [hvs]; exact v1, by rw [hvs]; exact v2, h, by rw [hvs]; exact ha, by rw [hvs, hd]⟩ hK⟩, hk⟩
theorem LoanK.con {x : Bool} {fid : FuncId} {ds1 ds2 vs : List AV} {d : Option Tmp} {s : St} {κ : Kn} {r : AV} {args : List AV} {Bs Bs' : List LB} (ls ns : List Nat) (h : wB0 P fid args Bs Bs' r) (hx : x = true) (ha : li0 vs args Bs Bs' ls ns s)
  (hk : κ.default (bv0 vs args Bs' r ls ns s d)) : @LoanK P tab x fid ds1 ds2 vs d s κ := ⟨hx, _, fun _ _ _ _ hop hfn hvs hd hdst _ _ => ys1 h ha hop hfn hvs hd hdst, hk⟩
def cW0 (P : Program) (tab : Tab) (x : Bool) (fid : Option FuncId) (vs : List AV) (d : Option Tmp) (s : St) [κ : Kn] : Prop :=
 match fid with
 | none => False
 | some fid => if mE0 vs = true then pj0 s.lb (vs.take (jZ0 vs)) ∧ pj0 s.lb (vs.drop (jZ0 vs + 1)) ∧ dOk d s ∧ @LoanK P tab x fid (lD0 s.lb (vs.take (jZ0 vs))) (lD0 s.lb (vs.drop (jZ0 vs + 1))) vs d s κ else if mD0 vs = true then @CloK P x fid (qr1 s.lb vs) (bf1 s.lb vs) d s κ else cC0 s.lb vs ∧ dOk d s ∧ CallK P tab x fid (cv0 vs) (lD0 s.lb vs) vs d s
def cX0 (P : Program) (tab : Tab) (x : Bool) (fv : AV) (vs : List AV) (d : Option Tmp) (s : St) [κ : Kn] : Prop :=
 match fv with
 | .one (.clo fid caps) => x = true ∧ cC0 s.lb vs ∧ dOk d s ∧ fF0 caps ∧ @SelfK P fid (lD0 s.lb vs ++ caps.map .one) d s κ
 | fv => @cW0 P tab x (xv0 fv) vs d s κ
def lj0 (v : AV) (s : St) [p : Kn] [q : Kn] : Prop :=
 match v with
 | .one (.c (.v (.bool t))) => (t = true → p.default s) ∧ (t = false → q.default s)
 | _ => False
def jb0 (d : Tmp) (v : AV) (wnt : Bool) (s : St) [p : Kn] [q : Kn] : Prop :=
 match v with
 | .one (.c (.v (.bool x))) => (x = wnt → p.default (s.set (some d) (.one (.c (.v (.bool wnt)))))) ∧ (x = (!wnt) → q.default (s.set (some d) (.one (.c (.v (.bool (!wnt)))))))
 | .tup [] => q.default s
 | _ => False
def fC1 (ops : Array Oper) (j : Nat) : Option Tmp := (ops[j]?).bind (·.dst)
def bP1 (d : Option Tmp) (wnt : Bool) (s : St) [p : Kn] [q : Kn] : Prop :=
 match d with
 | none => False
 | some d => @jb0 d (s.sl d) wnt s p q
def dG0 (P : Program) (tab : Tab) (x : Bool) (ops : Array Oper) (l : List Oper) (s : St) [κ : Kn] : Prop := wz1 P tab x ops l s κ.default
section eqs
variable {s : St} {k : St → Prop} {Q : Exit → St → Prop} {κ κ' : Kn}
theorem qD1 : qn0 P tab .skip Q s = Q .normal s := rfl
theorem lg0 {id : Nat} {ops : Array Oper} : qn0 P tab (.region id ops false) Q s = @dG0 P tab true ops ops.toList s ⟨Q .normal⟩ := rfl
theorem dp0 {id : Nat} {ops : Array Oper} : qn0 P tab (.region id ops true) Q s = @dG0 P tab (ji0 ops) ops ops.toList s ⟨Q .normal⟩ := rfl
theorem yo1 {a b : Code} : qn0 P tab (.seq a b) Q s = qn0 P tab a (vz0 (qn0 P tab b Q) Q) s := rfl
theorem qA1 {c : Operand} {a b : Code} : qn0 P tab (.cond c a b) Q s = @lj0 (opv s c) s ⟨fun s => qn0 P tab a Q s⟩ ⟨fun s => qn0 P tab b Q s⟩ := rfl
theorem rQ0 {id : Nat} {c : Code} : qn0 P tab (.block id c) Q s = qn0 P tab c (jO0 id Q) s := rfl
theorem qB1 {id : Nat} : qn0 P tab (.exit id) Q s = Q (.exit id) s := rfl
theorem yn1 : qn0 P tab .ret Q s = Q .ret s := rfl
theorem qC1 {c : Code} : qn0 P tab (.loop c) Q s = @zX1 P c s ⟨Q⟩ := rfl
theorem nc0 : vz0 k Q .normal s = k s := rfl
theorem wr1 {id : Nat} : vz0 k Q (.exit id) s = Q (.exit id) s := rfl
theorem vA1 : vz0 k Q .ret s = Q .ret s := rfl
theorem dk0 {id : Nat} : jO0 id Q .normal s = Q .normal s := rfl
theorem zp1 {id : Nat} : jO0 id Q .ret s = Q .ret s := rfl
theorem rG0 {id : Nat} : jO0 id Q (.exit id) s = Q .normal s := by simp [jO0]
theorem xn1 {rs : List ResultVar} {r : AV} : xm1 tab rs r .ret s = fy1 tab rs r s := rfl
theorem kX1 {rs : List ResultVar} {ds : List AV} : wQ1 tab rs ds .ret s = wR1 tab rs ds s := rfl
theorem xh1 {bx : Bool} {ops : Array Oper} : @dG0 P tab bx ops [] s κ = κ.default s := rfl
theorem xi1 {bx : Bool} {ops : Array Oper} {d : Option Tmp} {op : Op} {ty : TypeId} {pos : String} {aft : Array Edge} {os : List Oper} :
  @dG0 P tab bx ops (⟨d, op, ty, pos, aft, none⟩ :: os) s κ = vV0 P tab bx ⟨d, op, ty, pos, aft, none⟩ s (fun s' => @dG0 P tab bx ops os s' κ) := by simp [dG0, wz1, vG1]
theorem wJ1 {bx : Bool} {ops : Array Oper} {d : Option Tmp} {op : Op} {ty : TypeId} {pos : String} {aft : Array Edge} {j : Nat} {wnt : Bool} {os : List Oper} :
  @dG0 P tab bx ops (⟨d, op, ty, pos, aft, some (j, wnt)⟩ :: os) s κ =
   @bP1 (fC1 ops j) wnt s ⟨fun s => vV0 P tab bx ⟨d, op, ty, pos, aft, some (j, wnt)⟩ s (fun s' => @dG0 P tab bx ops os s' κ)⟩ ⟨fun s => dOk d s ∧ @dG0 P tab bx ops os (s.set d (.tup [])) κ⟩ := by
 simp only [dG0, wz1, vG1, bP1, fC1]
 cases (ops[j]?).bind (·.dst) with
 | none => rfl
 | some t =>
  have same : ∀ v, s.sl t = v → s.set (some t) v = s := by
   intro v hv
   subst hv
   obtain ⟨n, sl, lb, gh⟩ := s
   simp only [St.set, St.mk.injEq, true_and, and_true]
   funext k
   split
   ·rename_i e; subst e; rfl
   ·rfl
  simp only [jb0, if_true, Bool.false_eq_true, if_false]
  cases hv : s.sl t with
  | one a =>
   cases a with
   | c x =>
    cases x with
    | v x =>
     cases x with
     | bool x =>
      simp only
      cases x <;> cases wnt <;> simp <;> rw [same _ hv] <;> simp [dG0]
     | _ => rfl
    | sl rows => rfl
   | _ => rfl
  | agg as => rfl
  | tup vs => cases vs <;> simp [dG0]
  | any => rfl
theorem ws1 {d : Tmp} {wnt : Bool} : @bP1 (some d) wnt s κ κ' = @jb0 d (s.sl d) wnt s κ κ' := rfl
theorem sw0 {d : Tmp} {x wnt : Bool} : @jb0 d (.one (.c (.v (.bool x)))) wnt s κ κ' = ((x = wnt → κ.default (s.set (some d) (.one (.c (.v (.bool wnt)))))) ∧ (x = (!wnt) → κ'.default (s.set (some d) (.one (.c (.v (.bool (!wnt)))))))) := rfl
theorem vL1 {d : Tmp} {wnt : Bool} : @jb0 d (.tup []) wnt s κ κ' = κ'.default s := rfl
theorem vK1 {d : Tmp} : @jb0 d (.one (.c (.v (.bool true)))) true s κ κ' = κ.default (s.set (some d) (.one (.c (.v (.bool true))))) := by simp [jb0]
theorem vJ1 {d : Tmp} : @jb0 d (.one (.c (.v (.bool true)))) false s κ κ' = κ'.default (s.set (some d) (.one (.c (.v (.bool true))))) := by simp [jb0]
theorem vI1 {d : Tmp} : @jb0 d (.one (.c (.v (.bool false)))) true s κ κ' = κ'.default (s.set (some d) (.one (.c (.v (.bool false))))) := by simp [jb0]
theorem vH1 {d : Tmp} : @jb0 d (.one (.c (.v (.bool false)))) false s κ κ' = κ.default (s.set (some d) (.one (.c (.v (.bool false))))) := by simp [jb0]
theorem qL1 : @lj0 (.one (.c (.v (.bool true)))) s κ κ' = κ.default s := by simp [lj0]
theorem rT0 : @lj0 (.one (.c (.v (.bool false)))) s κ κ' = κ'.default s := by simp [lj0]
theorem qK1 {t : Bool} : @lj0 (.one (.c (.v (.bool t)))) s κ κ' = ((t = true → κ.default s) ∧ (t = false → κ'.default s)) := rfl
theorem qw1 {p : Prop} {e : Eff} {d : Option Tmp} : @yu0 (some (p, e)) d s κ = (p ∧ fV0 e d s ∧ (p → κ.default (e.app d s))) := rfl
theorem qt1 {p : Prop} {e : Eff} {d : Option Tmp} {α : An} : @cb1 (some (p, e)) d s κ α = (p ∧ fV0 e d s ∧ (p → κ.default (e.app d s))) := rfl
theorem rJ0 {x : Bool} {vs : List AV} {d : Option Tmp} {fid : FuncId} : @cW0 P tab x (some fid) vs d s κ = (if mE0 vs = true then pj0 s.lb (vs.take (jZ0 vs)) ∧ pj0 s.lb (vs.drop (jZ0 vs + 1)) ∧ dOk d s ∧ @LoanK P tab x fid (lD0 s.lb (vs.take (jZ0 vs))) (lD0 s.lb (vs.drop (jZ0 vs + 1))) vs d s κ else if mD0 vs = true then @CloK P x fid (qr1 s.lb vs) (bf1 s.lb vs) d s κ else cC0 s.lb vs ∧ dOk d s ∧ @CallK P tab x fid (cv0 vs) (lD0 s.lb vs) vs d s κ) := rfl
theorem zt1 {x : Bool} {vs : List AV} {d : Option Tmp} {fid : FuncId} {caps : List AC} : @cX0 P tab x (.one (.clo fid caps)) vs d s κ = (x = true ∧ cC0 s.lb vs ∧ dOk d s ∧ fF0 caps ∧ @SelfK P fid (lD0 s.lb vs ++ caps.map .one) d s κ) := rfl
theorem rK0 {x : Bool} {vs : List AV} {d : Option Tmp} {fid : FuncId} : @cX0 P tab x (.one (.c (.v (.func (.func fid) #[] #[])))) vs d s κ = @cW0 P tab x (some fid) vs d s κ := rfl
section ops
variable {bx : Bool} {d : Option Tmp} {ty : TypeId} {pos : String} {aft : Array Edge} {g : Option (Nat × Bool)}
theorem yK1 {f : Operand} {args : Array Operand} {ts : Array TypeId} : vV0 P tab bx ⟨d, .call ⟨.value f, args, ts⟩, ty, pos, aft, g⟩ s k = @cX0 P tab bx (opv s f) (args.toList.map (opv s)) d s ⟨k⟩ := by
 simp only [vV0, pr1]
 generalize opv s f = fv
 cases hf : xv0 fv with
 | none =>
  cases fv with
  | one y =>
   cases y with
   | clo fid caps => rfl
   | _ => simp only [cX0, hf, cW0]
  | _ => simp only [cX0, hf, cW0]
 | some fid =>
  cases fv with
  | one y =>
   cases y with
   | clo f2 caps => simp [xv0] at hf
   | _ => simp only [cX0, hf, cW0]; rfl
  | _ => simp [xv0] at hf
theorem vf1 {args : Array Operand} {ts : Array TypeId} : vV0 P tab bx ⟨d, .call ⟨.builtin .len, args, ts⟩, ty, pos, aft, g⟩ s k = @yu0 (pX0 tab ⟨d, .call ⟨.builtin .len, args, ts⟩, ty, pos, aft, g⟩ s ⟨.builtin .len, args, ts⟩) d s ⟨k⟩ := rfl
theorem vg1 {args : Array Operand} {ts : Array TypeId} : vV0 P tab bx ⟨d, .call ⟨.builtin .max, args, ts⟩, ty, pos, aft, g⟩ s k = @yu0 (pX0 tab ⟨d, .call ⟨.builtin .max, args, ts⟩, ty, pos, aft, g⟩ s ⟨.builtin .max, args, ts⟩) d s ⟨k⟩ := rfl
theorem np0 {args : Array Operand} {ts : Array TypeId} : vV0 P tab bx ⟨d, .call ⟨.builtin .append, args, ts⟩, ty, pos, aft, g⟩ s k = @cb1 (pX0 tab ⟨d, .call ⟨.builtin .append, args, ts⟩, ty, pos, aft, g⟩ s ⟨.builtin .append, args, ts⟩) d s ⟨k⟩ ⟨dr1 bx (bT1 tab ⟨d, .call ⟨.builtin .append, args, ts⟩, ty, pos, aft, g⟩ s) d s⟩ := rfl
theorem zc1 {t : TypeId} : vV0 P tab bx ⟨d, .alloc t, ty, pos, aft, g⟩ s k = @yu0 ((tab t).map fun ti => (True, .new (.one (.ptr (d.getD 0) 0)) (.var ti.zero))) d s ⟨k⟩ := rfl
theorem ve1 {t : TypeId} {x : Operand} : vV0 P tab bx ⟨d, .box t x, ty, pos, aft, g⟩ s k = @yu0 ((opv s x).cs.map fun cs => (True, .new (.one (.ptr (d.getD 0) 0)) (.var cs))) d s ⟨k⟩ := rfl
theorem zh1 {t : TypeId} {p x : Operand} : vV0 P tab bx ⟨d, .store t p x, ty, pos, aft, g⟩ s k = @yu0 (vw0 tab s.lb t (opv s p) (opv s x)) d s ⟨k⟩ := rfl
def yA1 (x : Option (Prop × AV)) : Option (Prop × Eff) := x.map fun (p, v) => (p, .val v)
theorem vF1 {p : Prop} {v : AV} : yA1 (some (p, v)) = some (p, .val v) := rfl
theorem yM1 {x : Operand} : vV0 P tab bx ⟨d, .move x, ty, pos, aft, g⟩ s k = @yu0 (some (True, .val (opv s x))) d s ⟨k⟩ := rfl
theorem nq0 {x : Operand} : vV0 P tab bx ⟨d, .assign x, ty, pos, aft, g⟩ s k = @yu0 (some (True, .val (opv s x))) d s ⟨k⟩ := rfl
theorem yL1 {t : TypeId} {x : Operand} : vV0 P tab bx ⟨d, .load t x, ty, pos, aft, g⟩ s k = @yu0 (yA1 (gR0 tab s.lb t (opv s x))) d s ⟨k⟩ := rfl
theorem zd1 {op : BinOp} {t t' : TypeId} {x y : Operand} : vV0 P tab bx ⟨d, .binOp op t x y t', ty, pos, aft, g⟩ s k = @yu0 (yA1 (br1 tab op t (opv s x) (opv s y))) d s ⟨k⟩ := rfl
theorem br0 {t : TypeId} {x : Operand} {f : Nat} : vV0 P tab bx ⟨d, .fieldAddr t x f, ty, pos, aft, g⟩ s k = @yu0 (yA1 (wC0 s.lb (tab t) (opv s x) f)) d s ⟨k⟩ := rfl
theorem vW0 {x : Operand} : vV0 P tab bx ⟨d, .nilCheck x, ty, pos, aft, g⟩ s k = @yu0 (yA1 (pv1 s.lb (opv s x))) d s ⟨k⟩ := rfl
theorem bs0 {t : TypeId} {x i : Operand} : vV0 P tab bx ⟨d, .indexAddr t x i, ty, pos, aft, g⟩ s k = @yu0 (yA1 (wE0 tab s.lb t (opv s x) (opv s i))) d s ⟨k⟩ := rfl
theorem zf1 {t : TypeId} {x i : Operand} : vV0 P tab bx ⟨d, .index t x i, ty, pos, aft, g⟩ s k = @yu0 (yA1 (mN0 (tab t) (opv s x) (opv s i))) d s ⟨k⟩ := rfl
def sf1 (v : AV) : Option (Prop × AV) := match v with
 | .one (.c (.v (.bool b))) => some (True, kJ0 (!b))
 | _ => none
theorem vh1 {t : TypeId} {x : Operand} : vV0 P tab bx ⟨d, .unOp .not t x, ty, pos, aft, g⟩ s k = @yu0 (yA1 (sf1 (opv s x))) d s ⟨k⟩ := rfl
theorem jx1 {b : Bool} : sf1 (.one (.c (.v (.bool b)))) = some (True, .one (.c (.v (.bool (!b))))) := rfl
def ce1 (c a b : AV) : Option (Prop × AV) := match c with
 | .one (.c (.v (.bool t))) => some (True, if t then a else b)
 | _ => none
theorem yN1 {c a b : Operand} : vV0 P tab bx ⟨d, .pick c a b, ty, pos, aft, g⟩ s k = @yu0 (yA1 (ce1 (opv s c) (opv s a) (opv s b))) d s ⟨k⟩ := rfl
theorem qz1 {t : Bool} {a b : AV} : ce1 (.one (.c (.v (.bool t)))) a b = some (True, if t = true then a else b) := rfl
theorem lL0 {t t' : TypeId} {x : Operand} : vV0 P tab bx ⟨d, .convert t t' x, ty, pos, aft, g⟩ s k = @yu0 (yA1 (lk0 tab s.lb t t' (opv s x))) d s ⟨k⟩ := rfl
theorem zg1 {t : TypeId} {x : Operand} {lo hi : Option Operand} : vV0 P tab bx ⟨d, .slice t x lo hi none, ty, pos, aft, g⟩ s k = @yu0 (yA1 (pK0 tab (tab t) (opv s x) (lo.map (opv s)) (hi.map (opv s)))) d s ⟨k⟩ := rfl
def ta0 (v : AV) (i : Nat) : Option (Prop × AV) := match v with
 | .tup vs => (vs[i]?).map fun v => (True, v)
 | _ => none
theorem lM0 {x : Operand} {i : Nat} : vV0 P tab bx ⟨d, .extract x i, ty, pos, aft, g⟩ s k = @yu0 (yA1 (ta0 (opv s x) i)) d s ⟨k⟩ := rfl
theorem lt0 {vs : List AV} {i : Nat} : ta0 (.tup vs) i = (vs[i]?).map fun v => (True, v) := rfl
theorem fD0 {t : TypeId} {len : Nat} {parts : Array (Nat × Operand)} : vV0 P tab bx ⟨d, .buildSlice t len parts, ty, pos, aft, g⟩ s k = @yu0 (vR0 tab ⟨d, .buildSlice t len parts, ty, pos, aft, g⟩ s) d s ⟨k⟩ := rfl
theorem dZ0 {f : Fn} {x y : Array Operand} : vV0 P tab bx ⟨d, .makeFunc f x y, ty, pos, aft, g⟩ s k = @yu0 (vR0 tab ⟨d, .makeFunc f x y, ty, pos, aft, g⟩ s) d s ⟨k⟩ := rfl
theorem ze1 {t : TypeId} {parts : Array (Nat × Operand)} : vV0 P tab bx ⟨d, .build t parts, ty, pos, aft, g⟩ s k = @yu0 (vR0 tab ⟨d, .build t parts, ty, pos, aft, g⟩ s) d s ⟨k⟩ := rfl
end ops
theorem fH1 {v : AV} {d : Option Tmp} : (Eff.val v).app d s = s.set d v := rfl
theorem fF1 {v : AV} {B : LB} {d : Tmp} : (Eff.new v B).app (some d) s = (s.put d B).set (some d) v := rfl
theorem fG1 {v : AV} {B : LB} {l : Nat} {d : Option Tmp} : (Eff.upd v l B).app d s = (s.put l B).set d v := rfl
theorem yz1 {v : AV} {d : Tmp} : fV0 (.val v) (some d) s = (d < s.n) := rfl
theorem yx1 {v : AV} {B : LB} {d : Tmp} : fV0 (.new v B) (some d) s = (d < s.n ∧ s.lb d = none) := rfl
theorem yy1 {v : AV} {B : LB} {l : Nat} {d : Tmp} : fV0 (.upd v l B) (some d) s = (d < s.n) := rfl
theorem qR1 {v : AV} {B : LB} {l : Nat} : fV0 (.upd v l B) none s = True := rfl
theorem vx1 {d : Tmp} : dOk (some d) s = (d < s.n) := rfl
theorem fn1 {t : Tmp} : opv s (.tmp t) = s.sl t := rfl
theorem xc1 {f : FuncId} : opv s (.func f) = .one (.c (.v (.func (.func f) #[] #[]))) := rfl
theorem fl1 {n : Int} {i : IntKind} : opv s (.const (.int i n)) = .one (.c (.v (.int i n))) := rfl
theorem xb1 {b : Bool} : opv s (.const (.bool b)) = .one (.c (.v (.bool b))) := rfl
theorem qs1 {b : ByteArray} : opv s (.const (.string b)) = .one (.c (.v (.string b))) := rfl
theorem fk1 {xs : Array Value} : opv s (.const (.agg xs)) = tT0 (yH0 xs.toList) := rfl
theorem qM1 {n : Int} {i : IntKind} : yL0 (.int i n) = some (.c (.v (.int i n))) := rfl
theorem dr0 {b : ByteArray} : yL0 (.string b) = some (.c (.v (.string b))) := rfl
theorem qN1 : yL0 (.slice none 0 0) = some .nil := rfl
theorem fm1 : opv s (.const (.slice none 0 0)) = .one .nil := rfl
theorem jD1 {f : FuncId} : xv0 (.one (.c (.v (.func (.func f) #[] #[])))) = some f := rfl
end eqs
theorem zC0 {ι : Type} {c : Code} {Q : Exit → St → Prop} {s : St} (S : ι → St) (I : ι → Prop) (μ : ι → Nat) (i0 : ι) (hI : I i0) (h0 : Wk s (S i0)) (hT : zW0 P tab) (hm : P.follows .mixedOrders = true) (hok : ql0 c = true)
  (round : ∀ i, I i → qn0 P tab c (vz0 (fun s' => ∃ j, I j ∧ μ j < μ i ∧ Wk s' (S j)) Q) (S i)) : @zX1 P c s ⟨Q⟩ :=
 fo0 (ι := {i : ι // I i}) (fun i => S i.1) (fun i => μ i.1) ⟨i0, hI⟩ h0 (fun i => AWP.mono (zk0 hT hm c _ _ hok (round i.1 i.2)) (fun e s hq => by
  cases e with
  | normal => obtain ⟨j, h1, h2, h3⟩ := hq; exact ⟨⟨j, h1⟩, h3, h2⟩
  | _ => exact hq))
theorem cd1 (cs : List C) : (cs.map AC.c).flatMap AC.owns = [] := by
 induction cs with
 | nil => rfl
 | cons c cs ih => simp [AC.owns]
theorem rL0 (n : Nat) : (0 ≤ (n : Int)) = True := eq_true (Int.natCast_nonneg n)
theorem pt1 (m n : Nat) : ((m : Int) < (n : Int)) = (m < n) := propext Int.ofNat_lt
theorem ps1 (m n : Nat) : ((m : Int) ≤ (n : Int)) = (m ≤ n) := propext Int.ofNat_le
theorem vr1 (n : Nat) : ((n : Int) < 0) = False := eq_false (by omega)
theorem zu1 (n : Nat) : ((n : Int)).toNat = n := rfl
attribute [go_sem high] vK1 vJ1 vI1 vH1 qL1 rT0
attribute [go_sem ↓] reduceIte
attribute [go_sem] reduceCtorEq Nat.reduceEqDiff Nat.reduceLT Nat.reduceLeDiff Nat.reduceAdd Nat.reduceSub Nat.reduceMul
attribute [go_sem] IntWalk.i64_in AV.one.injEq AC.c.injEq C.v.injEq Value.int.injEq Value.bool.injEq beq_self_eq_true bne_self_eq_false
attribute [go_sem] cd1 rL0 pt1 ps1 vr1 zu1
attribute [go_sem ↓] lL0
attribute [go_sem] lk0 fZ1
attribute [go_sem ↓] rG0 qD1 lg0 dp0 yo1 qA1 rQ0 qB1 yn1 qC1 nc0 wr1 vA1 dk0 zp1 xn1 yK1 vf1 vg1 np0 zc1 ve1 zh1 yM1 nq0 yL1 zd1 br0 vW0 vW0 bs0 zf1 vh1 yN1 zg1 lM0 fD0 ze1 dZ0
attribute [go_sem] cY1 fc1 gF1 vE1 tkR tkV dG1 tkC dF1 flR flV flC wR1 kb1 de1 co1 kW1 fw1 bn1 ky1 dD1 kx1 bF1 jS1 cG1 jR1 fL1 cB1 sc1 xC1 se1 hoV dP1 toC cC0 cX1 okB bZ1 cv0 fb1 dT1 jv1 leG List.set_cons_zero List.set_cons_succ kX1 or_true true_or or_false false_or
attribute [go_sem] xh1 xi1 wJ1 ws1 sw0 vL1 qK1 qw1 qt1 bT1 dq1 dL1 rJ0 zt1 rK0 mE0 fR1 jZ0 mD0 cI1 qr1 me1 dY1 okK bf1 vKV vKs vK dR1 pq1 fF0 dl0 Bool.or_false Bool.false_or vF1 jx1 qz1 lt0 fH1 fF1 fG1 yz1 yx1 yy1 qR1 vx1 fn1 xc1 fl1 xb1 qs1 fm1 fk1 qM1 dr0 qN1 yH0 tT0 jD1 pY1 fY1 cP1 cO1 gS0 qo0 jo1 qj1 jl1 xI1 jI1 tv0 kN0 LB.frz gR0 br1 vt1 tK0 tM0 fW1 wC0 pv1 tL0 wE0 mN0 pK0 go0 vw0 pX0 yw0 dS1 kI0 fs0 vR0 kR0 jr1 splice kz0 kq0 AV.cs TyD.agg AV.owns AC.owns pj0 fg1 okC ba1 lD0 vAV vC vCs sQ1 cZ1 fC1 fy1 vL0 ss1 qg0 jY1 unD qR0 leL leB inV inC inB List.map_cons List.map_nil List.toList_toArray Option.map_some Option.map_none Option.getD_some Option.getD_none Option.bind_some List.flatMap_cons List.flatMap_nil List.append_nil List.nil_append List.cons_append List.length_cons List.length_nil List.take_succ_cons List.take_zero List.drop_succ_cons List.drop_zero List.getElem?_cons_succ List.getElem?_cons_zero List.getElem?_toArray List.getElem?_nil List.getD_cons_succ List.getD_cons_zero ite_true ite_false if_true if_false true_and and_true and_false false_and and_self true_implies false_implies implies_true forall_const not_true_eq_false not_false_eq_true Bool.not_true Bool.not_false Bool.false_eq_true Bool.true_eq_false decide_eq_true_eq decide_eq_false_iff_not Bool.not_eq_true' Bool.not_eq_false' beq_iff_eq bne_iff_ne ne_eq Nat.zero_add Nat.add_zero Nat.zero_le Nat.le_refl
inductive Tm where
 | mk (k n : Int) (s : ByteArray) (as : List Tm)
theorem Tm.ind {p : Tm → Prop} (h : ∀ k n s as, (∀ a, a ∈ as → p a) → p (.mk k n s as)) : ∀ t, p t
 | .mk k n s as => h k n s as (fun a _ => Tm.ind h a)
mutual
def Tm.enc : Tm → List C
 | .mk k n s as => [.v (.int .i64 k), .v (.int .i64 n), .v (.string s), .sl (Tm.encs as)]
def Tm.encs : List Tm → List (List C)
 | [] => []
 | a :: as => a.enc :: Tm.encs as
end
end Go.Ai
