/- Running a function's code on abstract states, by simp: the equations, and what simp is not to look into. -/
import Derived.Test.YtphclghkljeaeaaGreatAiTab
import Derived.Test.YtphclghkljeaeaaGreatAiMoves
import Derived.Attr
set_option linter.unusedVariables false
set_option linter.unusedSimpArgs false
namespace Go.Ai
open Go.RowKit
variable {P : Program} {tab : Tab}
abbrev Kn := Inhabited (St → Prop)
abbrev Qn := Inhabited (Exit → St → Prop)
def CallK (P : Program) (tab : Tab) (x : Bool) (fid : FuncId) (nt : Prop) (ds vs : List AV) (d : Option Tmp) (s : St) [κ : Kn] : Prop := bn1 P tab x fid nt ds vs d s κ.default
section
variable {x : Bool} {fid : FuncId} {nt : Prop} {ds vs : List AV} {d : Option Tmp} {s : St} {κ : Kn} {r : AV}
theorem CallK.mk (h : Sat P fid ds r) (hk : κ.default ((s.frzs (vs.flatMap AV.owns)).set d r)) : @CallK P tab x fid True ds vs d s κ := .inl ⟨r, h, trivial, hk⟩
theorem zW0 {P Q : Prop} (h : Q) (e : P = Q := by simp -implicitDefEqProofs only [go_sem]; rfl) : P := e ▸ h
theorem qF0 {P Q : Prop} (h : Q) (e : P = Q := by simp -implicitDefEqProofs (disch := omega) only [go_sem, hn, hm1]; rfl) : P := e ▸ h
theorem wj0 {P Q : Prop} (h : Q) (e : P = Q := by simp -implicitDefEqProofs (disch := omega) only [go_sem]; rfl) : P := e ▸ h
theorem pL0 {P Q : Prop} (h : Q) (e : P = Q := by simp -implicitDefEqProofs only [go_sem, Tm.enc]; rfl) : P := e ▸ h
theorem jw0 {P Q : Prop} (h : Q) (e : P = Q := by simp -implicitDefEqProofs (disch := omega) only [go_sem, Tm.enc]; rfl) : P := e ▸ h
theorem rs0 {P Q : Prop} (h : Q) (e : P = Q := by simp -implicitDefEqProofs (disch := omega) only [go_sem, we_ne, hn, hm1]; rfl) : P := e ▸ h
theorem bW0 {P Q : Prop} (h : Q) (e : P = Q := by simp -implicitDefEqProofs (disch := omega) only [go_sem, List.length_map]; rfl) : P := e ▸ h
theorem rt0 {P Q : Prop} (h : Q) (e : P = Q := by simp -implicitDefEqProofs only [go_sem, hn]; rfl) : P := e ▸ h
theorem xF0 {P Q : Prop} (h : Q) (e : P = Q := by simp -implicitDefEqProofs (disch := omega) only [go_sem, hg, hlt, List.length_map]; rfl) : P := e ▸ h
theorem xG0 {P Q : Prop} (h : Q) (e : P = Q := by simp -implicitDefEqProofs (disch := omega) only [go_sem, hg, hlt, enc_len]; rfl) : P := e ▸ h
theorem cI1 {P Q : Prop} (h : Q) (e : P = Q := by simp -implicitDefEqProofs (disch := omega) only [go_sem, h1m]; rfl) : P := e ▸ h
theorem bX0 {P Q : Prop} (h : Q) (e : P = Q := by simp -implicitDefEqProofs (disch := omega) only [go_sem, hn]; rfl) : P := e ▸ h
theorem mO0 {P Q : Prop} (h : Q) (e : P = Q := by simp -implicitDefEqProofs (disch := omega) only [go_sem, hgd, hlt, List.length_map]; rfl) : P := e ▸ h
theorem xF1 {P Q : Prop} (h : Q) (e : P = Q := by simp -implicitDefEqProofs only [go_sem, we_ne, hn]; rfl) : P := e ▸ h
theorem kw1 {P Q : Prop} (h : Q) (e : P = Q := by simp -implicitDefEqProofs (disch := omega) only [go_sem, hd]; rfl) : P := e ▸ h
theorem nT0 {P Q : Prop} (h : Q) (e : P = Q := by simp -implicitDefEqProofs (disch := omega) only [go_sem, Nat.not_lt.2 hge, List.length_map]; rfl) : P := e ▸ h
theorem ru0 {P Q : Prop} (h : Q) (e : P = Q := by simp -implicitDefEqProofs (disch := omega) only [go_sem, Nat.lt_irrefl, List.length_map]; rfl) : P := e ▸ h
theorem kx1 {P Q : Prop} (h : Q) (e : P = Q := by simp -implicitDefEqProofs only [go_sem, List.length_map]; rfl) : P := e ▸ h
theorem bL1 {P Q : Prop} (h : Q) (e : P = Q := by simp -implicitDefEqProofs only [go_sem, nex10, nex11, nex12, nex13, nex14, nex15, nex16, nex17]; rfl) : P := e ▸ h
theorem fQ1 {P Q : Prop} (h : Q) (e : P = Q := by simp -implicitDefEqProofs (disch := omega) only [go_sem, hde, Tm.enc]; rfl) : P := e ▸ h
theorem ky1 {P Q : Prop} (h : Q) (e : P = Q := by simp -implicitDefEqProofs (disch := omega) only [go_sem, List.getElem?_cons_succ, List.getElem?_cons_zero]; rfl) : P := e ▸ h
theorem xG1 {P Q : Prop} (h : Q) (e : P = Q := by simp -implicitDefEqProofs (disch := omega) only [go_sem, Nat.not_lt.2 hge]; rfl) : P := e ▸ h
theorem bM1 {P Q : Prop} (h : Q) (e : P = Q := by simp -implicitDefEqProofs (disch := omega) only [go_sem, GOp.enc, encS, encL, List.cons_append, List.nil_append]; rfl) : P := e ▸ h
theorem bN1 {P Q : Prop} (h : Q) (e : P = Q := by simp -implicitDefEqProofs (disch := omega) only [go_sem, we_ne, hn, hm1, nex30, nex31]; rfl) : P := e ▸ h
theorem fR1 {P Q : Prop} (h : Q) (e : P = Q := by simp -implicitDefEqProofs (disch := omega) only [go_sem, Nat.lt_irrefl]; rfl) : P := e ▸ h
theorem mT1 {P Q : Prop} (h : Q) (e : P = Q := by simp -implicitDefEqProofs (disch := omega) only [go_sem, hdl]; rfl) : P := e ▸ h
theorem dK1 {P Q : Prop} (h : Q) (e : P = Q := by simp -implicitDefEqProofs (disch := omega) only [go_sem, List.length_nil, List.length_cons, c0, c1, c2, Int.reduceEq, Int.reduceLT, Int.reduceLE, Int.reduceToNat, Int.reduceBEq]; rfl) : P := e ▸ h
theorem dL1 {P Q : Prop} (h : Q) (e : P = Q := by simp -implicitDefEqProofs (disch := omega) only [go_sem, hg, hg', hlt, hlt', enc_len, List.length_map]; rfl) : P := e ▸ h
theorem bO1 {P Q : Prop} (h : Q) (e : P = Q := by simp -implicitDefEqProofs only [go_sem, List.getElem?_cons_succ, List.getElem?_cons_zero, rowsOf_toC]; rfl) : P := e ▸ h
theorem mU1 {P Q : Prop} (h : Q) (e : P = Q := by simp -implicitDefEqProofs (disch := omega) only [go_sem, hgd, hlt, List.length_map, List.length_take, hml]; rfl) : P := e ▸ h
theorem cJ1 {P Q : Prop} (h : Q) (e : P = Q := by simp -implicitDefEqProofs (disch := omega) only [go_sem, Tm.enc, hde]; rfl) : P := e ▸ h
theorem cK1 {P Q : Prop} (h : Q) (e : P = Q := by simp -implicitDefEqProofs (disch := omega) only [go_sem, hg, hlt]; rfl) : P := e ▸ h
theorem cL1 {P Q : Prop} (h : Q) (e : P = Q := by simp -implicitDefEqProofs (disch := omega) only [go_sem, Tm.enc, hdl]; rfl) : P := e ▸ h
theorem cM1 {P Q : Prop} (h : Q) (e : P = Q := by simp -implicitDefEqProofs (disch := omega) only [go_sem, List.length_map, hlt, hg]; rfl) : P := e ▸ h
theorem mV1 {P Q : Prop} (h : Q) (e : P = Q := by simp -implicitDefEqProofs (disch := omega) only [go_sem, List.length_map, hde]; rfl) : P := e ▸ h
theorem mW1 {P Q : Prop} (h : Q) (e : P = Q := by simp -implicitDefEqProofs (disch := omega) only [go_sem, hde]; rfl) : P := e ▸ h
theorem cN1 {P Q : Prop} (h : Q) (e : P = Q := by simp -implicitDefEqProofs (disch := omega) only [go_sem, hx, hlt, List.length_map, hde]; rfl) : P := e ▸ h
theorem mX1 {P Q : Prop} (h : Q) (e : P = Q := by simp -implicitDefEqProofs (disch := omega) only [go_sem, GDefinition.enc, GSignature.enc, Tm.enc, encS, encL, List.cons_append, List.nil_append]; rfl) : P := e ▸ h
theorem mY1 {P Q : Prop} (h : Q) (e : P = Q := by simp -implicitDefEqProofs (disch := omega) only [go_sem, List.length_map, hkl, hur]; rfl) : P := e ▸ h
theorem st1 {P Q : Prop} (h : Q) (e : P = Q := by simp -implicitDefEqProofs (disch := omega) only [go_sem, h1m, nex40, nex41, nex42, nex43, nex44]; rfl) : P := e ▸ h
theorem mZ1 {P Q : Prop} (h : Q) (e : P = Q := by simp -implicitDefEqProofs (disch := omega) only [go_sem, hlt, ← hb]; rfl) : P := e ▸ h
theorem ma1 {P Q : Prop} (h : Q) (e : P = Q := by simp -implicitDefEqProofs only [go_sem, GOp.enc, encS, encL, List.cons_append, List.nil_append]; rfl) : P := e ▸ h
theorem dM1 {P Q : Prop} (h : Q) (e : P = Q := by simp -implicitDefEqProofs (disch := omega) only [go_sem, Tm.enc, hse]; rfl) : P := e ▸ h
theorem dN1 {P Q : Prop} (h : Q) (e : P = Q := by simp -implicitDefEqProofs only [go_sem, GGuard.enc, Tm.enc, encI, List.cons_append, List.nil_append]; rfl) : P := e ▸ h
theorem su1 {P Q : Prop} (h : Q) (e : P = Q := by simp -implicitDefEqProofs (disch := omega) only [go_sem, GGuard.enc, Tm.enc, encI, List.cons_append, List.nil_append]; rfl) : P := e ▸ h
theorem dO1 {P Q : Prop} (h : Q) (e : P = Q := by simp -implicitDefEqProofs only [go_sem, Tm.enc, hde]; rfl) : P := e ▸ h
theorem dP1 {P Q : Prop} (h : Q) (e : P = Q := by simp -implicitDefEqProofs (disch := omega) only [go_sem, Nat.lt_irrefl, List.length_map, hde]; rfl) : P := e ▸ h
theorem sv1 {P Q : Prop} (h : Q) (e : P = Q := by simp -implicitDefEqProofs only [go_sem, Tm.enc, List.length_map, hgr, hj]; rfl) : P := e ▸ h
theorem mb1 {P Q : Prop} (h : Q) (e : P = Q := by simp -implicitDefEqProofs (disch := omega) only [go_sem, hky, hlt, hyrow, hqr]; rfl) : P := e ▸ h
theorem mc1 {P Q : Prop} (h : Q) (e : P = Q := by simp -implicitDefEqProofs (disch := omega) only [go_sem, hg, hg', hlt, hlt']; rfl) : P := e ▸ h
theorem md1 {P Q : Prop} (h : Q) (e : P = Q := by simp -implicitDefEqProofs (disch := omega) only [go_sem, Nat.lt_irrefl, List.take_length]; rfl) : P := e ▸ h
theorem me1 {P Q : Prop} (h : Q) (e : P = Q := by simp -implicitDefEqProofs only [go_sem, List.getElem?_cons_succ, List.getElem?_cons_zero]; rfl) : P := e ▸ h
theorem mf1 {P Q : Prop} (h : Q) (e : P = Q := by simp -implicitDefEqProofs (disch := omega) only [go_sem, hlr, Nat.lt_irrefl, List.length_nil, List.length_cons, List.take_length]; rfl) : P := e ▸ h
theorem mg1 {P Q : Prop} (h : Q) (e : P = Q := by simp -implicitDefEqProofs (disch := omega) only [go_sem, hlr, Nat.lt_irrefl, List.length_nil, List.length_cons, c0, c1, c2, Int.reduceEq, Int.reduceLT, Int.reduceLE, Int.reduceToNat, Int.reduceBEq, drowsOf_len, List.take_length, Tm.enc, Tm.encs]; rfl) : P := e ▸ h
theorem mh1 {P Q : Prop} (h : Q) (e : P = Q := by simp -implicitDefEqProofs only [go_sem, Tm.enc, GDefinition.enc, GSignature.enc, encL, List.cons_append, List.nil_append]; rfl) : P := e ▸ h
theorem mi1 {P Q : Prop} (h : Q) (e : P = Q := by simp -implicitDefEqProofs (disch := omega) only [go_sem, GRule.enc, Tm.enc, encS, encL, List.cons_append, List.nil_append]; rfl) : P := e ▸ h
theorem mj1 {P Q : Prop} (h : Q) (e : P = Q := by simp -implicitDefEqProofs (disch := omega) only [go_sem, hg, hlt, List.length_map, enc_len]; rfl) : P := e ▸ h
theorem sw1 {P Q : Prop} (h : Q) (e : P = Q := by simp -implicitDefEqProofs (disch := omega) only [go_sem, hlr, Nat.lt_irrefl, List.length_nil, List.length_cons, hr', Tm.enc, Tm.encs]; rfl) : P := e ▸ h
theorem sx1 {P Q : Prop} (h : Q) (e : P = Q := by simp -implicitDefEqProofs (disch := omega) only [go_sem, hlr, Nat.lt_irrefl, List.length_nil, List.length_cons, hr', List.take_length, Tm.enc, encs_map, List.map_cons]; rfl) : P := e ▸ h
theorem zY2 {P Q : Prop} (h : Q) (e : P = Q := by simp -implicitDefEqProofs (disch := omega) only [go_sem, hlr, Nat.lt_irrefl, List.length_nil, List.length_cons, c0, c1, c2, Int.reduceEq, Int.reduceLT, Int.reduceLE, Int.reduceToNat, Int.reduceBEq, drowsOf_len, List.take_length, Tm.enc, Tm.encs, g0, hb]; rfl) : P := e ▸ h
theorem zZ2 {P Q : Prop} (h : Q) (e : P = Q := by simp -implicitDefEqProofs (disch := omega) only [go_sem, hlr, Nat.lt_irrefl, List.length_nil, List.length_cons, c0, c1, c2, Int.reduceEq, Int.reduceLT, Int.reduceLE, Int.reduceToNat, Int.reduceBEq, drowsOf_len, List.take_length, Tm.enc, Tm.encs, g0]; rfl) : P := e ▸ h
theorem sy1 {P Q : Prop} (h : Q) (e : P = Q := by simp -implicitDefEqProofs (disch := omega) only [go_sem, List.length_nil, List.length_cons, c0, c1, c2, Int.reduceEq, Int.reduceLT, Int.reduceLE, Int.reduceToNat, Int.reduceBEq, drowsOf_len, g0, g1, Tm.enc, Tm.encs]; rfl) : P := e ▸ h
theorem tA1 {P Q : Prop} (h : Q) (e : P = Q := by simp -implicitDefEqProofs (disch := omega) only [go_sem, Option.getD_some, Option.isSome_some, GOp.enc, encS, encL, List.cons_append, List.nil_append]; rfl) : P := e ▸ h
theorem za2 {P Q : Prop} (h : Q) (e : P = Q := by simp -implicitDefEqProofs only [go_sem, Int.reduceToNat, Int.reduceLE, Int.reduceLT, decide_true, Bool.and_self, Int.cast_ofNat_Int]; rfl) : P := e ▸ h
theorem tB1 {P Q : Prop} (h : Q) (e : P = Q := by simp -implicitDefEqProofs (disch := omega) only [go_sem, GDefinition.enc, GSignature.enc, encL, List.cons_append, List.nil_append, List.append_nil]; rfl) : P := e ▸ h
theorem tC1 {P Q : Prop} (h : Q) (e : P = Q := by simp -implicitDefEqProofs (disch := omega) only [go_sem, hky, hlt, hyrow, hg, h4, Int.reduceLT, Int.reduceNeg, List.length_map]; rfl) : P := e ▸ h
theorem zb2 {P Q : Prop} (h : Q) (e : P = Q := by simp -implicitDefEqProofs (disch := omega) only [go_sem, hky, hlt, hyrow, hg, h4, Int.reduceLT, Int.reduceNeg, List.length_map, Tm.enc]; rfl) : P := e ▸ h
theorem c0' {Q : Prop} (h : Sat P fid ds r) (hk : Q) (e : κ.default ((s.frzs (vs.flatMap AV.owns)).set d r) = Q := by simp -implicitDefEqProofs (disch := omega) only [go_sem]; rfl) : @CallK P tab x fid True ds vs d s κ := CallK.mk h (e ▸ hk)
theorem c4' {Q : Prop} (h : Sat P fid ds r) (hk : Q) (e : κ.default ((s.frzs (vs.flatMap AV.owns)).set d r) = Q := by simp -implicitDefEqProofs only [go_sem, Tm.enc]; rfl) : @CallK P tab x fid True ds vs d s κ := CallK.mk h (e ▸ hk)
theorem c7' {Q : Prop} (h : Sat P fid ds r) (hk : Q) (e : κ.default ((s.frzs (vs.flatMap AV.owns)).set d r) = Q := by simp -implicitDefEqProofs only [go_sem]; rfl) : @CallK P tab x fid True ds vs d s κ := CallK.mk h (e ▸ hk)
theorem c9' {Q : Prop} (h : Sat P fid ds r) (hk : Q) (e : κ.default ((s.frzs (vs.flatMap AV.owns)).set d r) = Q := by simp -implicitDefEqProofs (disch := omega) only [go_sem, List.length_map]; rfl) : @CallK P tab x fid True ds vs d s κ := CallK.mk h (e ▸ hk)
theorem bm1 {Q : Prop} (h : Sat P fid ds r) (hk : Q) (e : κ.default ((s.frzs (vs.flatMap AV.owns)).set d r) = Q := by simp -implicitDefEqProofs (disch := omega) only [go_sem, hgd, hlt, List.length_map]; rfl) : @CallK P tab x fid True ds vs d s κ := CallK.mk h (e ▸ hk)
theorem CallK.bor (h : Sat P fid ds r) (hp : jB0 r = true) (hk : κ.default (s.set d r)) : @CallK P tab x fid nt ds vs d s κ := .inr (.inl ⟨r, h, hp, hk⟩)
theorem CallK.own {t : Tmp} (h : SatF P fid ds r) (hf : s.lb t = none) (hk : κ.default ((s.put t (.tok (flR r))).set (some t) (tkR t r))) : @CallK P tab x fid nt ds vs (some t) s κ := .inr (.inr (.inl ⟨r, t, h, rfl, hf, hk⟩))
theorem CallK.outN {t : Tmp} {e : TypeId} {sz : Nat} {rows : List (List AC)} (h : SatO P fid ds e sz rows r) (hno : vs.flatMap AV.owns = []) (hf : s.lb t = none)
  (hk : κ.default ((s.put t (.arr e sz rows false)).set (some t) (nU0 t r))) : @CallK P tab x fid True ds vs (some t) s κ := .inr (.inr (.inr (.inl ⟨trivial, hno, e, sz, rows, r, t, h, rfl, hf, hk⟩)))
theorem CallK.newN {t : Tmp} {cells : List AC} (h : bI1 P fid ds cells) (hno : vs.flatMap AV.owns = []) (hf : s.lb t = none)
  (hk : κ.default ((s.put t (.var cells)).set (some t) (.one (.ptr t 0)))) : @CallK P tab x fid True ds vs (some t) s κ := .inr (.inr (.inr (.inr (.inr (.inl ⟨trivial, hno, cells, t, h, rfl, hf, hk⟩)))))
theorem CallK.new {t : Tmp} {cells : List AC} (hx : x = true) (h : bI1 P fid ds cells) (hno : vs.flatMap AV.owns = []) (hf : s.lb t = none)
  (hk : κ.default ((s.put t (.var cells)).set (some t) (.one (.ptr t 0)))) : @CallK P tab x fid True ds vs (some t) s κ := CallK.newN h hno hf hk
theorem CallK.sem {s' : St} (hx : x = true) (h : sl1 P tab fid nt ds vs d s s') (hk : κ.default s') : @CallK P tab x fid nt ds vs d s κ := .inr (.inr (.inr (.inr (.inr (.inr ⟨hx, s', h, hk⟩)))))
theorem CallK.accD {t : Tmp} {e : TypeId} {sz : Nat} {rows rows' : List (List AC)} {rest : List AV} (j : Nat) (hx : x = true) (h : SatA P fid (ds.take j) (ds.drop (j + 1)) e sz rows rows' rest) (ha : ku1 vs j e sz rows s) (hf : s.lb t = none)
  (hk : κ.default (((yM0 vs j s).put t (.arr e sz rows' false)).set (some t) (vJ1 t rows'.length rest))) : @CallK P tab x fid True ds vs (some t) s κ :=
 CallK.sem hx (fun o args ts f hop hfn hvs hd hdst _ hv => ⟨qL0 hop, fun _ w0 M0 F0 F g a w hs K Q hK => nY0 hs ⟨⟨.value f, args, ts⟩, f, fid, ds, j, e, sz, rows, rows', rest, t, hop, rfl, hfn, by rw [hd]; exact hdst, by rw [hvs]; exact hv trivial, h, by rw [hvs]; exact ha, hd, hf, by rw [hvs, hd]⟩ hK⟩) hk
theorem CallK.acc {t : Tmp} {e : TypeId} {sz : Nat} {rows rows' : List (List AC)} {rest : List AV} (j : Nat) (h : SatA P fid (ds.take j) (ds.drop (j + 1)) e sz rows rows' rest) (ha : ku1 vs j e sz rows s) (hf : s.lb t = none)
  (hk : κ.default (((yM0 vs j s).put t (.arr e sz rows' false)).set (some t) (vJ1 t rows'.length rest))) : @CallK P tab true fid True ds vs (some t) s κ := CallK.accD j rfl h ha hf hk
theorem CallK.outD {t : Tmp} {e : TypeId} {sz : Nat} {rows : List (List AC)} (hx : x = true) (h : SatO P fid ds e sz rows r) (hf : s.lb t = none)
  (hk : κ.default (((s.frzs (vs.flatMap AV.owns)).put t (.arr e sz rows false)).set (some t) (nU0 t r))) : @CallK P tab x fid True ds vs (some t) s κ :=
 CallK.sem hx (fun o args ts f hop hfn hvs hd hdst _ hv => ⟨qL0 hop, fun _ w0 M0 F0 F g a w hs K Q hK => ne0 hs ⟨⟨.value f, args, ts⟩, f, fid, ds, e, sz, rows, r, t, hop, rfl, hfn, by rw [hd]; exact hdst, by rw [hvs]; exact hv trivial, h, hd, hf, by rw [hvs, hd]⟩ hK⟩) hk
theorem CallK.out {t : Tmp} {e : TypeId} {sz : Nat} {rows : List (List AC)} (h : SatO P fid ds e sz rows r) (hf : s.lb t = none)
  (hk : κ.default (((s.frzs (vs.flatMap AV.owns)).put t (.arr e sz rows false)).set (some t) (nU0 t r))) : @CallK P tab true fid True ds vs (some t) s κ := CallK.outD rfl h hf hk
theorem CallK.lost {e : TypeId} {sz : Nat} {rows : List (List AC)} {rest : List AV} (j : Nat) (hx : x = true) (h : kt1 P fid (ds.take j) (ds.drop (j + 1)) e sz rows rest) (ha : ku1 vs j e sz rows s)
  (hk : κ.default ((yM0 vs j s).set d (jQ1 rest))) : @CallK P tab x fid True ds vs d s κ :=
 CallK.sem hx (fun o args ts f hop hfn hvs hd hdst _ hv => ⟨qL0 hop, fun _ w0 M0 F0 F g a w hs K Q hK => nd0 hs ⟨⟨.value f, args, ts⟩, f, fid, ds, j, e, sz, rows, rest, hop, rfl, hfn, by rw [hd]; exact hdst, by rw [hvs]; exact hv trivial, h, by rw [hvs]; exact ha, by rw [hvs, hd]⟩ hK⟩) hk
theorem CallK.shown {e : TypeId} {sz : Nat} {rows : List (List AC)} (j : Nat) (hx : x = true) (h : dA1 P fid (ds.take j) (ds.drop (j + 1)) e sz rows r) (ha : ku1 vs j e sz rows s)
  (hk : κ.default (s.set d r)) : @CallK P tab x fid True ds vs d s κ :=
 CallK.sem hx (fun o args ts f hop hfn hvs hd hdst _ hv => ⟨qL0 hop, fun _ w0 M0 F0 F g a w hs K Q hK => nj0 hs ⟨⟨.value f, args, ts⟩, f, fid, ds, j, e, sz, rows, r, hop, rfl, hfn, by rw [hd]; exact hdst, by rw [hvs]; exact hv trivial, h, by rw [hvs]; exact ha, by rw [hd]⟩ hK⟩) hk
theorem CallK.give {t : Tmp} {y : C} (j : Nat) (hx : x = true) (h : cz1 P fid (ds.take j) (ds.drop (j + 1)) y r) (ha : px1 vs j y s) (hf : s.lb t = none)
  (hk : κ.default (((yM0 vs j s).put t (.tok (flR r))).set (some t) (tkR t r))) : @CallK P tab x fid True ds vs (some t) s κ :=
 CallK.sem hx (fun o args ts f hop hfn hvs hd hdst _ hv => ⟨qL0 hop, fun _ w0 M0 F0 F g a w hs K Q hK => nb0 hs ⟨⟨.value f, args, ts⟩, f, fid, ds, j, y, r, t, hop, rfl, hfn, by rw [hd]; exact hdst, by rw [hvs]; exact hv trivial, h, by rw [hvs]; exact ha, hd, hf, by rw [hvs, hd]⟩ hK⟩) hk
theorem CallK.accF {t : Tmp} {e : TypeId} {sz : Nat} {rows rows' : List (List AC)} {rest : List AV} (j : Nat) (hx : x = true) (h : SatA P fid (ds.take j) (ds.drop (j + 1)) e sz rows rows' rest) (ha : Ai.accF vs j e sz rows s) (hf : s.lb t = none)
  (hk : κ.default (((yM0 vs j (s.frzs (qC0 vs j))).put t (.arr e sz rows' false)).set (some t) (vJ1 t rows'.length rest))) : @CallK P tab x fid True ds vs (some t) s κ :=
 CallK.sem hx (fun o args ts f hop hfn hvs hd hdst _ hv => ⟨qL0 hop, fun _ w0 M0 F0 F g a w hs K Q hK => gq0 hs ⟨⟨.value f, args, ts⟩, f, fid, ds, j, e, sz, rows, rows', rest, t, hop, rfl, hfn, by rw [hd]; exact hdst, by rw [hvs]; exact hv trivial, h, by rw [hvs]; exact ha, hd, hf, by rw [hvs, hd]⟩ hK⟩) hk
theorem yN1 {args : List AV} {Bs Bs' : List LB} {ls ns : List Nat} (h : qo0 P fid args Bs Bs' r) (ha : lO0 vs args Bs Bs' ls ns s) {o : Oper} {as : Array Operand} {ts : Array TypeId} {f : Operand} (hop : o.op = .call ⟨.value f, as, ts⟩) (hfn : xb0 (opv s f) = some fid) (hvs : as.toList.map (opv s) = vs) (hd : o.dst = d) (hdst : ∀ t, d = some t → t < s.n) : gk0 P tab o s (bd0 vs args Bs' r ls ns s d) := by
 obtain ⟨c1, c2, c3, c4, c5⟩ := ha
 exact ⟨qL0 hop, fun _ w0 M0 F0 F g a w hs K Q hK => ph0 hs ⟨⟨.value f, as, ts⟩, f, fid, args, Bs, Bs', r, ls, ns, hop, rfl, hfn, by rw [hd]; exact hdst, h, c1, c2, by rw [hvs]; exact dU0 c3, c4, c5, by rw [hvs, hd]⟩ hK⟩
theorem CallK.con {args : List AV} {Bs Bs' : List LB} (ls ns : List Nat) (hx : x = true) (h : qo0 P fid args Bs Bs' r) (ha : lO0 vs args Bs Bs' ls ns s)
  (hk : κ.default (bd0 vs args Bs' r ls ns s d)) : @CallK P tab x fid nt ds vs d s κ := CallK.sem hx (fun _ _ _ _ hop hfn hvs hd hdst _ _ => yN1 h ha hop hfn hvs hd hdst) hk
end
def vB1 (P : Program) (c : Code) (s : St) [q : Qn] : Prop := jP1 P c q.default s
def yW0 (x : Option (Prop × Eff)) (d : Option Tmp) (s : St) [κ : Kn] : Prop :=
 match x with
 | some (p, e) => p ∧ pw0 e d s ∧ (p → κ.default (e.app d s))
 | none => False
abbrev An := Inhabited (Kn → Prop)
def fa1 (x : Option (Prop × Eff)) (d : Option Tmp) (s : St) [κ : Kn] [α : An] : Prop :=
 match x with
 | some (p, e) => p ∧ pw0 e d s ∧ (p → κ.default (e.app d s))
 | none => α.default κ
def bj1 (x : Bool) (r : Option (Prop × St)) (d : Option Tmp) (s : St) (κ : Kn) : Prop :=
 x = true ∧ match r with
 | some (p, s') => p ∧ dOk d s ∧ (p → κ.default s')
 | none => False
def CloK (P : Program) (x : Bool) (fid : FuncId) (p : Prop) (ds : List AV) (d : Option Tmp) (s : St) [κ : Kn] : Prop := x = true ∧ p ∧ dOk d s ∧ ∃ r, Sat P fid ds r ∧ jB0 r = true ∧ κ.default (s.set d r)
theorem CloK.mk {x : Bool} {fid : FuncId} {p : Prop} {ds : List AV} {d : Option Tmp} {s : St} {κ : Kn} {r : AV} (h : Sat P fid ds r) (hx : x = true) (hp : p) (hd : dOk d s) (hr : jB0 r = true) (hk : κ.default (s.set d r)) : @CloK P x fid p ds d s κ := ⟨hx, hp, hd, r, h, hr, hk⟩
def SelfK (P : Program) (fid : FuncId) (ds : List AV) (d : Option Tmp) (s : St) [κ : Kn] : Prop := ∃ r, Sat P fid ds r ∧ jB0 r = true ∧ κ.default (s.set d r)
theorem SelfK.mk {fid : FuncId} {ds : List AV} {d : Option Tmp} {s : St} {κ : Kn} {r : AV} (h : Sat P fid ds r) (hr : jB0 r = true) (hk : κ.default (s.set d r)) : @SelfK P fid ds d s κ := ⟨r, h, hr, hk⟩
def LoanK (P : Program) (tab : Tab) (x : Bool) (fid : FuncId) (ds1 ds2 vs : List AV) (d : Option Tmp) (s : St) [κ : Kn] : Prop := bo1 P tab x fid ds1 ds2 vs d s κ.default
theorem LoanK.mk {x : Bool} {fid : FuncId} {ds1 ds2 vs : List AV} {d : Option Tmp} {s : St} {κ : Kn} {r : AV} {B B' : LB} (h : dn1 P fid ds1 ds2 B B' r) (hx : x = true) (ha : xC1 vs (jC0 vs) B s)
  (hk : κ.default (((s.frzs (qC0 vs (jC0 vs))).put (mH0 vs (jC0 vs)) B').set d r)) : @LoanK P tab x fid ds1 ds2 vs d s κ :=
 ⟨hx, _, fun o args ts f hop hfn hvs hd hdst v1 v2 => ⟨qL0 hop, fun _ w0 M0 F0 F g a w hs K Q hK => nf0 hs ⟨⟨.value f, args, ts⟩, f, fid, jC0 vs, _, _, B, B', r, hop, rfl, hfn, by rw [hd]; exact hdst, by rw [hvs]; exact v1, by rw [hvs]; exact v2, h, by rw [hvs]; exact ha, by rw [hvs, hd]⟩ hK⟩, hk⟩
theorem LoanK.con {x : Bool} {fid : FuncId} {ds1 ds2 vs : List AV} {d : Option Tmp} {s : St} {κ : Kn} {r : AV} {args : List AV} {Bs Bs' : List LB} (ls ns : List Nat) (h : qo0 P fid args Bs Bs' r) (hx : x = true) (ha : lO0 vs args Bs Bs' ls ns s)
  (hk : κ.default (bd0 vs args Bs' r ls ns s d)) : @LoanK P tab x fid ds1 ds2 vs d s κ := ⟨hx, _, fun _ _ _ _ hop hfn hvs hd hdst _ _ => yN1 h ha hop hfn hvs hd hdst, hk⟩
def cE0 (P : Program) (tab : Tab) (x : Bool) (fid : Option FuncId) (vs : List AV) (d : Option Tmp) (s : St) [κ : Kn] : Prop :=
 match fid with
 | none => False
 | some fid => if ll0 vs = true then pM0 s.lb (vs.take (jC0 vs)) ∧ pM0 s.lb (vs.drop (jC0 vs + 1)) ∧ dOk d s ∧ @LoanK P tab x fid (gd0 s.lb (vs.take (jC0 vs))) (gd0 s.lb (vs.drop (jC0 vs + 1))) vs d s κ else if lk0 vs = true then @CloK P x fid (qT1 s.lb vs) (bW1 s.lb vs) d s κ else bj0 s.lb vs ∧ dOk d s ∧ CallK P tab x fid (cZ0 vs) (gd0 s.lb vs) vs d s
def cF0 (P : Program) (tab : Tab) (x : Bool) (fv : AV) (vs : List AV) (d : Option Tmp) (s : St) [κ : Kn] : Prop :=
 match fv with
 | .one (.clo fid caps) => x = true ∧ bj0 s.lb vs ∧ dOk d s ∧ pi0 caps ∧ @SelfK P fid (gd0 s.lb vs ++ caps.map .one) d s κ
 | fv => @cE0 P tab x (xb0 fv) vs d s κ
def rB0 (v : AV) (s : St) [p : Kn] [q : Kn] : Prop :=
 match v with
 | .one (.c (.v (.bool t))) => (t = true → p.default s) ∧ (t = false → q.default s)
 | _ => False
def jH0 (d : Tmp) (v : AV) (wnt : Bool) (s : St) [p : Kn] [q : Kn] : Prop :=
 match v with
 | .one (.c (.v (.bool x))) => (x = wnt → p.default (s.set (some d) (.one (.c (.v (.bool wnt)))))) ∧ (x = (!wnt) → q.default (s.set (some d) (.one (.c (.v (.bool (!wnt)))))))
 | .tup [] => q.default s
 | _ => False
def pl1 (ops : Array Oper) (j : Nat) : Option Tmp := (ops[j]?).bind (·.dst)
def bF1 (d : Option Tmp) (wnt : Bool) (s : St) [p : Kn] [q : Kn] : Prop :=
 match d with
 | none => False
 | some d => @jH0 d (s.sl d) wnt s p q
def gj0 (P : Program) (tab : Tab) (x : Bool) (ops : Array Oper) (l : List Oper) (s : St) [κ : Kn] : Prop := wX1 P tab x ops l s κ.default
section eqs
variable {s : St} {k : St → Prop} {Q : Exit → St → Prop} {κ κ' : Kn}
theorem zc1 : qe0 P tab .skip Q s = Q .normal s := rfl
theorem lM0 {id : Nat} {ops : Array Oper} : qe0 P tab (.region id ops false) Q s = @gj0 P tab true ops ops.toList s ⟨Q .normal⟩ := rfl
theorem dT0 {id : Nat} {ops : Array Oper} : qe0 P tab (.region id ops true) Q s = @gj0 P tab (jN0 ops) ops ops.toList s ⟨Q .normal⟩ := rfl
theorem yJ1 {a b : Code} : qe0 P tab (.seq a b) Q s = qe0 P tab a (pQ0 (qe0 P tab b Q) Q) s := rfl
theorem zZ1 {c : Operand} {a b : Code} : qe0 P tab (.cond c a b) Q s = @rB0 (opv s c) s ⟨fun s => qe0 P tab a Q s⟩ ⟨fun s => qe0 P tab b Q s⟩ := rfl
theorem ny0 {id : Nat} {c : Code} : qe0 P tab (.block id c) Q s = qe0 P tab c (jo0 id Q) s := rfl
theorem za1 {id : Nat} : qe0 P tab (.exit id) Q s = Q (.exit id) s := rfl
theorem yI1 : qe0 P tab .ret Q s = Q .ret s := rfl
theorem zb1 {c : Code} : qe0 P tab (.loop c) Q s = @vB1 P c s ⟨Q⟩ := rfl
theorem nI0 : pQ0 k Q .normal s = k s := rfl
theorem wQ1 {id : Nat} : pQ0 k Q (.exit id) s = Q (.exit id) s := rfl
theorem kd1 : pQ0 k Q .ret s = Q .ret s := rfl
theorem dN0 {id : Nat} : jo0 id Q .normal s = Q .normal s := rfl
theorem zR1 {id : Nat} : jo0 id Q .ret s = Q .ret s := rfl
theorem no0 {id : Nat} : jo0 id Q (.exit id) s = Q .normal s := by simp [jo0]
theorem xV1 {rs : List ResultVar} {r : AV} : pI1 tab rs r .ret s = fm1 tab rs r s := rfl
theorem jw1 {rs : List ResultVar} {ds : List AV} : qp1 tab rs ds .ret s = qq1 tab rs ds s := rfl
theorem xQ1 {bx : Bool} {ops : Array Oper} : @gj0 P tab bx ops [] s κ = κ.default s := rfl
theorem xR1 {bx : Bool} {ops : Array Oper} {d : Option Tmp} {op : Op} {ty : TypeId} {pos : String} {aft : Array Edge} {os : List Oper} :
  @gj0 P tab bx ops (⟨d, op, ty, pos, aft, none⟩ :: os) s κ = vC0 P tab bx ⟨d, op, ty, pos, aft, none⟩ s (fun s' => @gj0 P tab bx ops os s' κ) := by simp [gj0, wX1, kk1]
theorem qi1 {bx : Bool} {ops : Array Oper} {d : Option Tmp} {op : Op} {ty : TypeId} {pos : String} {aft : Array Edge} {j : Nat} {wnt : Bool} {os : List Oper} :
  @gj0 P tab bx ops (⟨d, op, ty, pos, aft, some (j, wnt)⟩ :: os) s κ =
   @bF1 (pl1 ops j) wnt s ⟨fun s => vC0 P tab bx ⟨d, op, ty, pos, aft, some (j, wnt)⟩ s (fun s' => @gj0 P tab bx ops os s' κ)⟩ ⟨fun s => dOk d s ∧ @gj0 P tab bx ops os (s.set d (.tup [])) κ⟩ := by
 simp only [gj0, wX1, kk1, bF1, pl1]
 cases (ops[j]?).bind (·.dst) with
 | none => rfl
 | some t =>
  have same : ∀ v, s.sl t = v → s.set (some t) v = s := by
   intro v hv
   subst hv
   obtain ⟨n, sl, lb, gh⟩ := s
   simp only [St.set, St.mk.injEq, true_and, and_true]
   funext k
   split
   ·rename_i e; subst e; rfl
   ·rfl
  simp only [jH0, if_true, Bool.false_eq_true, if_false]
  cases hv : s.sl t with
  | one a =>
   cases a with
   | c x =>
    cases x with
    | v x =>
     cases x with
     | bool x =>
      simp only
      cases x <;> cases wnt <;> simp <;> rw [same _ hv] <;> simp [gj0]
     | _ => rfl
    | sl rows => rfl
   | _ => rfl
  | agg as => rfl
  | tup vs => cases vs <;> simp [gj0]
  | any => rfl
theorem wR1 {d : Tmp} {wnt : Bool} : @bF1 (some d) wnt s κ κ' = @jH0 d (s.sl d) wnt s κ κ' := rfl
theorem sZ0 {d : Tmp} {x wnt : Bool} : @jH0 d (.one (.c (.v (.bool x)))) wnt s κ κ' = ((x = wnt → κ.default (s.set (some d) (.one (.c (.v (.bool wnt)))))) ∧ (x = (!wnt) → κ'.default (s.set (some d) (.one (.c (.v (.bool (!wnt)))))))) := rfl
theorem kp1 {d : Tmp} {wnt : Bool} : @jH0 d (.tup []) wnt s κ κ' = κ'.default s := rfl
theorem ko1 {d : Tmp} : @jH0 d (.one (.c (.v (.bool true)))) true s κ κ' = κ.default (s.set (some d) (.one (.c (.v (.bool true))))) := by simp [jH0]
theorem kn1 {d : Tmp} : @jH0 d (.one (.c (.v (.bool true)))) false s κ κ' = κ'.default (s.set (some d) (.one (.c (.v (.bool true))))) := by simp [jH0]
theorem km1 {d : Tmp} : @jH0 d (.one (.c (.v (.bool false)))) true s κ κ' = κ'.default (s.set (some d) (.one (.c (.v (.bool false))))) := by simp [jH0]
theorem kl1 {d : Tmp} : @jH0 d (.one (.c (.v (.bool false)))) false s κ κ' = κ.default (s.set (some d) (.one (.c (.v (.bool false))))) := by simp [jH0]
theorem zk1 : @rB0 (.one (.c (.v (.bool true)))) s κ κ' = κ.default s := by simp [rB0]
theorem rC0 : @rB0 (.one (.c (.v (.bool false)))) s κ κ' = κ'.default s := by simp [rB0]
theorem zj1 {t : Bool} : @rB0 (.one (.c (.v (.bool t)))) s κ κ' = ((t = true → κ.default s) ∧ (t = false → κ'.default s)) := rfl
theorem qZ1 {p : Prop} {e : Eff} {d : Option Tmp} : @yW0 (some (p, e)) d s κ = (p ∧ pw0 e d s ∧ (p → κ.default (e.app d s))) := rfl
theorem qW1 {p : Prop} {e : Eff} {d : Option Tmp} {α : An} : @fa1 (some (p, e)) d s κ α = (p ∧ pw0 e d s ∧ (p → κ.default (e.app d s))) := rfl
theorem qV1 {d : Option Tmp} {α : An} : @fa1 none d s κ α = α.default κ := rfl
theorem zC1 {x : Bool} {p : Prop} {s' : St} {d : Option Tmp} : bj1 x (some (p, s')) d s κ = (x = true ∧ p ∧ dOk d s ∧ (p → κ.default s')) := rfl
theorem nr0 {x : Bool} {vs : List AV} {d : Option Tmp} {fid : FuncId} : @cE0 P tab x (some fid) vs d s κ = (if ll0 vs = true then pM0 s.lb (vs.take (jC0 vs)) ∧ pM0 s.lb (vs.drop (jC0 vs + 1)) ∧ dOk d s ∧ @LoanK P tab x fid (gd0 s.lb (vs.take (jC0 vs))) (gd0 s.lb (vs.drop (jC0 vs + 1))) vs d s κ else if lk0 vs = true then @CloK P x fid (qT1 s.lb vs) (bW1 s.lb vs) d s κ else bj0 s.lb vs ∧ dOk d s ∧ @CallK P tab x fid (cZ0 vs) (gd0 s.lb vs) vs d s κ) := rfl
theorem zV1 {x : Bool} {vs : List AV} {d : Option Tmp} {fid : FuncId} {caps : List AC} : @cF0 P tab x (.one (.clo fid caps)) vs d s κ = (x = true ∧ bj0 s.lb vs ∧ dOk d s ∧ pi0 caps ∧ @SelfK P fid (gd0 s.lb vs ++ caps.map .one) d s κ) := rfl
theorem ns0 {x : Bool} {vs : List AV} {d : Option Tmp} {fid : FuncId} : @cF0 P tab x (.one (.c (.v (.func (.func fid) #[] #[])))) vs d s κ = @cE0 P tab x (some fid) vs d s κ := rfl
section ops
variable {bx : Bool} {d : Option Tmp} {ty : TypeId} {pos : String} {aft : Array Edge} {g : Option (Nat × Bool)}
theorem wh1 {f : Operand} {args : Array Operand} {ts : Array TypeId} : vC0 P tab bx ⟨d, .call ⟨.value f, args, ts⟩, ty, pos, aft, g⟩ s k = @cF0 P tab bx (opv s f) (args.toList.map (opv s)) d s ⟨k⟩ := by
 simp only [vC0, pZ1]
 generalize opv s f = fv
 cases hf : xb0 fv with
 | none =>
  cases fv with
  | one y =>
   cases y with
   | clo fid caps => rfl
   | _ => simp only [cF0, hf, cE0]
  | _ => simp only [cF0, hf, cE0]
 | some fid =>
  cases fv with
  | one y =>
   cases y with
   | clo f2 caps => simp [xb0] at hf
   | _ => simp only [cF0, hf, cE0]; rfl
  | _ => simp [xb0] at hf
theorem vM1 {args : Array Operand} {ts : Array TypeId} : vC0 P tab bx ⟨d, .call ⟨.builtin .len, args, ts⟩, ty, pos, aft, g⟩ s k = @yW0 (pD0 tab ⟨d, .call ⟨.builtin .len, args, ts⟩, ty, pos, aft, g⟩ s ⟨.builtin .len, args, ts⟩) d s ⟨k⟩ := rfl
theorem vN1 {args : Array Operand} {ts : Array TypeId} : vC0 P tab bx ⟨d, .call ⟨.builtin .max, args, ts⟩, ty, pos, aft, g⟩ s k = @yW0 (pD0 tab ⟨d, .call ⟨.builtin .max, args, ts⟩, ty, pos, aft, g⟩ s ⟨.builtin .max, args, ts⟩) d s ⟨k⟩ := rfl
theorem nW0 {args : Array Operand} {ts : Array TypeId} : vC0 P tab bx ⟨d, .call ⟨.builtin .append, args, ts⟩, ty, pos, aft, g⟩ s k = @fa1 (pD0 tab ⟨d, .call ⟨.builtin .append, args, ts⟩, ty, pos, aft, g⟩ s ⟨.builtin .append, args, ts⟩) d s ⟨k⟩ ⟨bj1 bx (bJ1 tab ⟨d, .call ⟨.builtin .append, args, ts⟩, ty, pos, aft, g⟩ s) d s⟩ := rfl
theorem zF1 {t : TypeId} : vC0 P tab bx ⟨d, .alloc t, ty, pos, aft, g⟩ s k = @yW0 ((tab t).map fun ti => (True, .new (.one (.ptr (d.getD 0) 0)) (.var ti.zero))) d s ⟨k⟩ := rfl
theorem vL1 {t : TypeId} {x : Operand} : vC0 P tab bx ⟨d, .box t x, ty, pos, aft, g⟩ s k = @yW0 ((opv s x).cs.map fun cs => (True, .new (.one (.ptr (d.getD 0) 0)) (.var cs))) d s ⟨k⟩ := rfl
theorem zK1 {t : TypeId} {p x : Operand} : vC0 P tab bx ⟨d, .store t p x, ty, pos, aft, g⟩ s k = @yW0 (ve0 tab s.lb t (opv s p) (opv s x)) d s ⟨k⟩ := rfl
def wY1 (x : Option (Prop × AV)) : Option (Prop × Eff) := x.map fun (p, v) => (p, .val v)
theorem kj1 {p : Prop} {v : AV} : wY1 (some (p, v)) = some (p, .val v) := rfl
theorem wj1 {x : Operand} : vC0 P tab bx ⟨d, .move x, ty, pos, aft, g⟩ s k = @yW0 (some (True, .val (opv s x))) d s ⟨k⟩ := rfl
theorem nX0 {x : Operand} : vC0 P tab bx ⟨d, .assign x, ty, pos, aft, g⟩ s k = @yW0 (some (True, .val (opv s x))) d s ⟨k⟩ := rfl
theorem wi1 {t : TypeId} {x : Operand} : vC0 P tab bx ⟨d, .load t x, ty, pos, aft, g⟩ s k = @yW0 (wY1 (dx0 tab s.lb t (opv s x))) d s ⟨k⟩ := rfl
theorem zG1 {op : BinOp} {t t' : TypeId} {x y : Operand} : vC0 P tab bx ⟨d, .binOp op t x y t', ty, pos, aft, g⟩ s k = @yW0 (wY1 (bl1 tab op t (opv s x) (opv s y))) d s ⟨k⟩ := rfl
theorem bZ0 {t : TypeId} {x : Operand} {f : Nat} : vC0 P tab bx ⟨d, .fieldAddr t x f, ty, pos, aft, g⟩ s k = @yW0 (wY1 (qv0 s.lb (tab t) (opv s x) f)) d s ⟨k⟩ := rfl
theorem vD0 {x : Operand} : vC0 P tab bx ⟨d, .nilCheck x, ty, pos, aft, g⟩ s k = @yW0 (wY1 (pd1 s.lb (opv s x))) d s ⟨k⟩ := rfl
theorem ba0 {t : TypeId} {x i : Operand} : vC0 P tab bx ⟨d, .indexAddr t x i, ty, pos, aft, g⟩ s k = @yW0 (wY1 (qx0 tab s.lb t (opv s x) (opv s i))) d s ⟨k⟩ := rfl
theorem zI1 {t : TypeId} {x i : Operand} : vC0 P tab bx ⟨d, .index t x i, ty, pos, aft, g⟩ s k = @yW0 (wY1 (ls0 (tab t) (opv s x) (opv s i))) d s ⟨k⟩ := rfl
def ss1 (v : AV) : Option (Prop × AV) := match v with
 | .one (.c (.v (.bool b))) => some (True, jp0 (!b))
 | _ => none
theorem vO1 {t : TypeId} {x : Operand} : vC0 P tab bx ⟨d, .unOp .not t x, ty, pos, aft, g⟩ s k = @yW0 (wY1 (ss1 (opv s x))) d s ⟨k⟩ := rfl
theorem jX1 {b : Bool} : ss1 (.one (.c (.v (.bool b)))) = some (True, .one (.c (.v (.bool (!b))))) := rfl
def cU1 (c a b : AV) : Option (Prop × AV) := match c with
 | .one (.c (.v (.bool t))) => some (True, if t then a else b)
 | _ => none
theorem wk1 {c a b : Operand} : vC0 P tab bx ⟨d, .pick c a b, ty, pos, aft, g⟩ s k = @yW0 (wY1 (cU1 (opv s c) (opv s a) (opv s b))) d s ⟨k⟩ := rfl
theorem qc1 {t : Bool} {a b : AV} : cU1 (.one (.c (.v (.bool t)))) a b = some (True, if t = true then a else b) := rfl
theorem go0 {t t' : TypeId} {x : Operand} : vC0 P tab bx ⟨d, .convert t t' x, ty, pos, aft, g⟩ s k = @yW0 (wY1 (lP0 tab s.lb t t' (opv s x))) d s ⟨k⟩ := rfl
theorem zJ1 {t : TypeId} {x : Operand} {lo hi : Option Operand} : vC0 P tab bx ⟨d, .slice t x lo hi none, ty, pos, aft, g⟩ s k = @yW0 (wY1 (xs0 tab (tab t) (opv s x) (lo.map (opv s)) (hi.map (opv s)))) d s ⟨k⟩ := rfl
def tJ0 (v : AV) (i : Nat) : Option (Prop × AV) := match v with
 | .tup vs => (vs[i]?).map fun v => (True, v)
 | _ => none
theorem gp0 {x : Operand} {i : Nat} : vC0 P tab bx ⟨d, .extract x i, ty, pos, aft, g⟩ s k = @yW0 (wY1 (tJ0 (opv s x) i)) d s ⟨k⟩ := rfl
theorem la0 {vs : List AV} {i : Nat} : tJ0 (.tup vs) i = (vs[i]?).map fun v => (True, v) := rfl
theorem pg0 {t : TypeId} {len : Nat} {parts : Array (Nat × Operand)} : vC0 P tab bx ⟨d, .buildSlice t len parts, ty, pos, aft, g⟩ s k = @yW0 (vA0 tab ⟨d, .buildSlice t len parts, ty, pos, aft, g⟩ s) d s ⟨k⟩ := rfl
theorem dC0 {f : Fn} {x y : Array Operand} : vC0 P tab bx ⟨d, .makeFunc f x y, ty, pos, aft, g⟩ s k = @yW0 (vA0 tab ⟨d, .makeFunc f x y, ty, pos, aft, g⟩ s) d s ⟨k⟩ := rfl
theorem zH1 {t : TypeId} {parts : Array (Nat × Operand)} : vC0 P tab bx ⟨d, .build t parts, ty, pos, aft, g⟩ s k = @yW0 (vA0 tab ⟨d, .build t parts, ty, pos, aft, g⟩ s) d s ⟨k⟩ := rfl
end ops
theorem pq1 {v : AV} {d : Option Tmp} : (Eff.val v).app d s = s.set d v := rfl
theorem po1 {v : AV} {B : LB} {d : Tmp} : (Eff.new v B).app (some d) s = (s.put d B).set (some d) v := rfl
theorem pp1 {v : AV} {B : LB} {l : Nat} {d : Option Tmp} : (Eff.upd v l B).app d s = (s.put l B).set d v := rfl
theorem yU1 {v : AV} {d : Tmp} : pw0 (.val v) (some d) s = (d < s.n) := rfl
theorem yS1 {v : AV} {B : LB} {d : Tmp} : pw0 (.new v B) (some d) s = (d < s.n ∧ s.lb d = none) := rfl
theorem yT1 {v : AV} {B : LB} {l : Nat} {d : Tmp} : pw0 (.upd v l B) (some d) s = (d < s.n) := rfl
theorem zq1 {v : AV} {B : LB} {l : Nat} : pw0 (.upd v l B) none s = True := rfl
theorem vc1 {d : Tmp} : dOk (some d) s = (d < s.n) := rfl
theorem fZ1 {t : Tmp} : opv s (.tmp t) = s.sl t := rfl
theorem xJ1 {f : FuncId} : opv s (.func f) = .one (.c (.v (.func (.func f) #[] #[]))) := rfl
theorem fX1 {n : Int} {i : IntKind} : opv s (.const (.int i n)) = .one (.c (.v (.int i n))) := rfl
theorem xI1 {b : Bool} : opv s (.const (.bool b)) = .one (.c (.v (.bool b))) := rfl
theorem qU1 {b : ByteArray} : opv s (.const (.string b)) = .one (.c (.v (.string b))) := rfl
theorem fW1 {xs : Array Value} : opv s (.const (.agg xs)) = tB0 (wm0 xs.toList) := rfl
theorem zl1 {n : Int} {i : IntKind} : ws0 (.int i n) = some (.c (.v (.int i n))) := rfl
theorem dV0 {b : ByteArray} : ws0 (.string b) = some (.c (.v (.string b))) := rfl
theorem zm1 : ws0 (.slice none 0 0) = some .nil := rfl
theorem fY1 : opv s (.const (.slice none 0 0)) = .one .nil := rfl
theorem yb1 {f : FuncId} : xb0 (.one (.c (.v (.func (.func f) #[] #[])))) = some f := rfl
end eqs
theorem zB0 {ι : Type} {c : Code} {Q : Exit → St → Prop} {s : St} (S : ι → St) (I : ι → Prop) (μ : ι → Nat) (i0 : ι) (hI : I i0) (h0 : Wk s (S i0)) (hT : zV0 P tab) (hm : P.follows .mixedOrders = true) (hok : qi0 c = true)
  (round : ∀ i, I i → qe0 P tab c (pQ0 (fun s' => ∃ j, I j ∧ μ j < μ i ∧ Wk s' (S j)) Q) (S i)) : @vB1 P c s ⟨Q⟩ :=
 mI0 (ι := {i : ι // I i}) (fun i => S i.1) (fun i => μ i.1) ⟨i0, hI⟩ h0 (fun i => AWP.mono (zj0 hT hm c _ _ hok (round i.1 i.2)) (fun e s hq => by
  cases e with
  | normal => obtain ⟨j, h1, h2, h3⟩ := hq; exact ⟨⟨j, h1⟩, h3, h2⟩
  | _ => exact hq))
theorem cT1 (cs : List C) : (cs.map AC.c).flatMap AC.owns = [] := by
 induction cs with
 | nil => rfl
 | cons c cs ih => simp [AC.owns]
theorem nt0 (n : Nat) : (0 ≤ (n : Int)) = True := eq_true (Int.natCast_nonneg n)
theorem pb1 (m n : Nat) : ((m : Int) < (n : Int)) = (m < n) := propext Int.ofNat_lt
theorem pa1 (m n : Nat) : ((m : Int) ≤ (n : Int)) = (m ≤ n) := propext Int.ofNat_le
theorem vX1 (n : Nat) : ((n : Int) < 0) = False := eq_false (by omega)
theorem zW1 (n : Nat) : ((n : Int)).toNat = n := rfl
attribute [go_sem high] ko1 kn1 km1 kl1 zk1 rC0
attribute [go_sem ↓] reduceIte
attribute [go_sem] reduceCtorEq Nat.reduceEqDiff Nat.reduceLT Nat.reduceLeDiff Nat.reduceAdd Nat.reduceSub Nat.reduceMul
attribute [go_sem] IntWalk.i64_in AV.one.injEq AC.c.injEq C.v.injEq Value.int.injEq Value.bool.injEq beq_self_eq_true bne_self_eq_false
attribute [go_sem] cT1 nt0 pb1 pa1 vX1 zW1
attribute [go_sem ↓] go0
attribute [go_sem] lP0 fL1
attribute [go_sem ↓] no0 zc1 lM0 dT0 yJ1 zZ1 ny0 za1 yI1 zb1 nI0 wQ1 kd1 dN0 zR1 xV1 wh1 vM1 vN1 nW0 zF1 vL1 zK1 wj1 nX0 wi1 zG1 bZ0 vD0 vD0 ba0 zI1 vO1 wk1 zJ1 gp0 pg0 zH1 dC0
attribute [go_sem] cP1 fO1 gD1 ki1 tkR tkV cw1 tkC cv1 flR flV flC qq1 jz1 dU1 cf1 jv1 fj1 bg1 kb1 ct1 ka1 fu1 yq1 bw1 yp1 pw1 bs1 sp1 vh1 sr1 hoV dF1 toC bj0 cO1 okB bP1 cZ0 fN1 dJ1 jV1 leG List.set_cons_zero List.set_cons_succ jw1 or_true true_or or_false false_or
attribute [go_sem] xQ1 xR1 qi1 wR1 sZ0 kp1 zj1 qZ1 qW1 qV1 zC1 bJ1 do1 dB1 nr0 zV1 ns0 ll0 fC1 jC0 lk0 bx1 qT1 ml1 dQ1 okK bW1 vKV vKs vK dH1 pY1 pi0 dO0 Bool.or_false Bool.false_or kj1 jX1 qc1 la0 pq1 po1 pp1 yU1 yS1 yT1 zq1 vc1 fZ1 xJ1 fX1 xI1 qU1 fY1 fW1 zl1 dV0 zm1 wm0 tB0 yb1 pE1 fJ1 cE1 cD1 dy0 qc0 jO1 qM1 jM1 vp1 yg1 ta0 js0 LB.frz dx0 bl1 vZ1 sp0 sr0 fG1 qv0 pd1 sq0 qx0 ls0 xs0 gP0 ve0 pD0 yY0 dI1 jn0 fZ0 vA0 jx0 jR1 splice kh0 kV0 AV.cs TyD.agg AV.owns AC.owns pM0 fS1 okC bQ1 gd0 vAV vC vCs sf1 cQ1 pl1 fm1 kv0 tF1 qY0 yy1 unD qP0 leL leB inV inC inB List.map_cons List.map_nil List.toList_toArray Option.map_some Option.map_none Option.getD_some Option.getD_none Option.bind_some List.flatMap_cons List.flatMap_nil List.append_nil List.nil_append List.cons_append List.length_cons List.length_nil List.take_succ_cons List.take_zero List.drop_succ_cons List.drop_zero List.getElem?_cons_succ List.getElem?_cons_zero List.getElem?_toArray List.getElem?_nil List.getD_cons_succ List.getD_cons_zero ite_true ite_false if_true if_false true_and and_true and_false false_and and_self true_implies false_implies implies_true forall_const not_true_eq_false not_false_eq_true Bool.not_true Bool.not_false Bool.false_eq_true Bool.true_eq_false decide_eq_true_eq decide_eq_false_iff_not Bool.not_eq_true' Bool.not_eq_false' beq_iff_eq bne_iff_ne ne_eq Nat.zero_add Nat.add_zero Nat.zero_le Nat.le_refl
inductive Tm where
 | mk (k n : Int) (s : ByteArray) (as : List Tm)
theorem Tm.ind {p : Tm → Prop} (h : ∀ k n s as, (∀ a, a ∈ as → p a) → p (.mk k n s as)) : ∀ t, p t
 | .mk k n s as => h k n s as (fun a _ => Tm.ind h a)
mutual
def Tm.enc : Tm → List C
 | .mk k n s as => [.v (.int .i64 k), .v (.int .i64 n), .v (.string s), .sl (Tm.encs as)]
def Tm.encs : List Tm → List (List C)
 | [] => []
 | a :: as => a.enc :: Tm.encs as
end
end Go.Ai
