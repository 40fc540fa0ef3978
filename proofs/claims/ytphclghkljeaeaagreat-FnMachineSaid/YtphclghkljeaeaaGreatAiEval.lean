/- Running a function's code on abstract states, by simp: the equations, and what simp is not to look into. -/
import Derived.Test.YtphclghkljeaeaaGreatAiTab
import Derived.Test.YtphclghkljeaeaaGreatAiMoves
import Derived.Attr
set_option linter.unusedVariables false
set_option linter.unusedSimpArgs false
namespace Go.Ai
open Go.RowKit
variable {P : Program} {tab : Tab}
abbrev Kn := Inhabited (St → Prop)
abbrev Qn := Inhabited (Exit → St → Prop)
def CallK (P : Program) (tab : Tab) (x : Bool) (fid : FuncId) (nt : Prop) (ds vs : List AV) (d : Option Tmp) (s : St) [κ : Kn] : Prop := bU1 P tab x fid nt ds vs d s κ.default
section
variable {x : Bool} {fid : FuncId} {nt : Prop} {ds vs : List AV} {d : Option Tmp} {s : St} {κ : Kn} {r : AV}
theorem CallK.mk (h : Sat P fid ds r) (hk : κ.default ((s.frzs (vs.flatMap AV.owns)).set d r)) : @CallK P tab x fid True ds vs d s κ := .inl ⟨r, h, trivial, hk⟩
theorem zX0 {P Q : Prop} (h : Q) (e : P = Q := by simp -implicitDefEqProofs only [go_sem]; rfl) : P := e ▸ h
theorem qV0 {P Q : Prop} (h : Q) (e : P = Q := by simp -implicitDefEqProofs (disch := omega) only [go_sem]; rfl) : P := e ▸ h
theorem qI0 {P Q : Prop} (h : Q) (e : P = Q := by simp -implicitDefEqProofs (disch := omega) only [go_sem, hn, hm1]; rfl) : P := e ▸ h
theorem kJ0 {P Q : Prop} (h : Q) (e : P = Q := by simp -implicitDefEqProofs (disch := omega) only [go_sem, Tm.enc]; rfl) : P := e ▸ h
theorem ff0 {P Q : Prop} (h : Q) (e : P = Q := by simp -implicitDefEqProofs only [go_sem, Tm.enc]; rfl) : P := e ▸ h
theorem rd0 {P Q : Prop} (h : Q) (e : P = Q := by simp -implicitDefEqProofs (disch := omega) only [go_sem, we_ne, hn, hm1]; rfl) : P := e ▸ h
theorem re0 {P Q : Prop} (h : Q) (e : P = Q := by simp -implicitDefEqProofs only [go_sem, hn]; rfl) : P := e ▸ h
theorem xX0 {P Q : Prop} (h : Q) (e : P = Q := by simp -implicitDefEqProofs (disch := omega) only [go_sem, hg, hlt, enc_len]; rfl) : P := e ▸ h
theorem gV0 {P Q : Prop} (h : Q) (e : P = Q := by simp -implicitDefEqProofs (disch := omega) only [go_sem, List.length_map]; rfl) : P := e ▸ h
theorem fg0 {P Q : Prop} (h : Q) (e : P = Q := by simp -implicitDefEqProofs (disch := omega) only [go_sem, hg, hlt, List.length_map]; rfl) : P := e ▸ h
theorem bt1 {P Q : Prop} (h : Q) (e : P = Q := by simp -implicitDefEqProofs (disch := omega) only [go_sem, h1m]; rfl) : P := e ▸ h
theorem bU0 {P Q : Prop} (h : Q) (e : P = Q := by simp -implicitDefEqProofs (disch := omega) only [go_sem, hn]; rfl) : P := e ▸ h
theorem mE0 {P Q : Prop} (h : Q) (e : P = Q := by simp -implicitDefEqProofs (disch := omega) only [go_sem, hgd, hlt, List.length_map]; rfl) : P := e ▸ h
theorem vv1 {P Q : Prop} (h : Q) (e : P = Q := by simp -implicitDefEqProofs only [go_sem, we_ne, hn]; rfl) : P := e ▸ h
theorem kp1 {P Q : Prop} (h : Q) (e : P = Q := by simp -implicitDefEqProofs (disch := omega) only [go_sem, hd]; rfl) : P := e ▸ h
theorem nG0 {P Q : Prop} (h : Q) (e : P = Q := by simp -implicitDefEqProofs (disch := omega) only [go_sem, Nat.not_lt.2 hge, List.length_map]; rfl) : P := e ▸ h
theorem nH0 {P Q : Prop} (h : Q) (e : P = Q := by simp -implicitDefEqProofs (disch := omega) only [go_sem, hde]; rfl) : P := e ▸ h
theorem kq1 {P Q : Prop} (h : Q) (e : P = Q := by simp -implicitDefEqProofs only [go_sem, List.length_map]; rfl) : P := e ▸ h
theorem fu1 {P Q : Prop} (h : Q) (e : P = Q := by simp -implicitDefEqProofs only [go_sem, nex10, nex11, nex12, nex13, nex14, nex15, nex16, nex17]; rfl) : P := e ▸ h
theorem kr1 {P Q : Prop} (h : Q) (e : P = Q := by simp -implicitDefEqProofs (disch := omega) only [go_sem, hg, hlt]; rfl) : P := e ▸ h
theorem ks1 {P Q : Prop} (h : Q) (e : P = Q := by simp -implicitDefEqProofs (disch := omega) only [go_sem, List.getElem?_cons_succ, List.getElem?_cons_zero]; rfl) : P := e ▸ h
theorem kt1 {P Q : Prop} (h : Q) (e : P = Q := by simp -implicitDefEqProofs (disch := omega) only [go_sem, Nat.lt_irrefl, List.length_map]; rfl) : P := e ▸ h
theorem bu1 {P Q : Prop} (h : Q) (e : P = Q := by simp -implicitDefEqProofs (disch := omega) only [go_sem, hnx]; rfl) : P := e ▸ h
theorem fv1 {P Q : Prop} (h : Q) (e : P = Q := by simp -implicitDefEqProofs (disch := omega) only [go_sem, GOp.enc, encS, encL, List.cons_append, List.nil_append]; rfl) : P := e ▸ h
theorem fw1 {P Q : Prop} (h : Q) (e : P = Q := by simp -implicitDefEqProofs (disch := omega) only [go_sem, we_ne, hn, hm1, nex30, nex31]; rfl) : P := e ▸ h
theorem fF1 {P Q : Prop} (h : Q) (e : P = Q := by simp -implicitDefEqProofs (disch := omega) only [go_sem, Nat.not_lt.2 hge]; rfl) : P := e ▸ h
theorem fG1 {P Q : Prop} (h : Q) (e : P = Q := by simp -implicitDefEqProofs (disch := omega) only [go_sem, Nat.lt_irrefl]; rfl) : P := e ▸ h
theorem cn1 {P Q : Prop} (h : Q) (e : P = Q := by simp -implicitDefEqProofs (disch := omega) only [go_sem, GDefinition.enc, GSignature.enc, Tm.enc, encS, encL, List.cons_append, List.nil_append]; rfl) : P := e ▸ h
theorem ly1 {P Q : Prop} (h : Q) (e : P = Q := by simp -implicitDefEqProofs (disch := omega) only [go_sem, hdl]; rfl) : P := e ▸ h
theorem co1 {P Q : Prop} (h : Q) (e : P = Q := by simp -implicitDefEqProofs (disch := omega) only [go_sem, List.length_nil, List.length_cons, c0, c1, c2, Int.reduceEq, Int.reduceLT, Int.reduceLE, Int.reduceToNat, Int.reduceBEq]; rfl) : P := e ▸ h
theorem cp1 {P Q : Prop} (h : Q) (e : P = Q := by simp -implicitDefEqProofs (disch := omega) only [go_sem, hg, hg', hlt, hlt', enc_len, List.length_map]; rfl) : P := e ▸ h
theorem fx1 {P Q : Prop} (h : Q) (e : P = Q := by simp -implicitDefEqProofs only [go_sem, List.getElem?_cons_succ, List.getElem?_cons_zero, rowsOf_toC]; rfl) : P := e ▸ h
theorem lz1 {P Q : Prop} (h : Q) (e : P = Q := by simp -implicitDefEqProofs (disch := omega) only [go_sem, hgd, hlt, List.length_map, List.length_take, hml]; rfl) : P := e ▸ h
theorem mA1 {P Q : Prop} (h : Q) (e : P = Q := by simp -implicitDefEqProofs (disch := omega) only [go_sem, List.length_map, hnx]; rfl) : P := e ▸ h
theorem mB1 {P Q : Prop} (h : Q) (e : P = Q := by simp -implicitDefEqProofs (disch := omega) only [go_sem, List.length_map, hhp]; rfl) : P := e ▸ h
theorem mC1 {P Q : Prop} (h : Q) (e : P = Q := by simp -implicitDefEqProofs (disch := omega) only [go_sem, Tm.enc, hnx]; rfl) : P := e ▸ h
theorem bv1 {P Q : Prop} (h : Q) (e : P = Q := by simp -implicitDefEqProofs (disch := omega) only [go_sem, Nat.lt_irrefl, List.take_length]; rfl) : P := e ▸ h
theorem bw1 {P Q : Prop} (h : Q) (e : P = Q := by simp -implicitDefEqProofs (disch := omega) only [go_sem, Tm.enc, hdl]; rfl) : P := e ▸ h
theorem mD1 {P Q : Prop} (h : Q) (e : P = Q := by simp -implicitDefEqProofs (disch := omega) only [go_sem, GMachine.enc, Tm.enc, encB, encI, encL, encS, List.cons_append, List.nil_append, List.append_nil]; rfl) : P := e ▸ h
theorem mE1 {P Q : Prop} (h : Q) (e : P = Q := by simp -implicitDefEqProofs (disch := omega) only [go_sem, Tm.enc, List.length_map]; rfl) : P := e ▸ h
theorem sh1 {P Q : Prop} (h : Q) (e : P = Q := by simp -implicitDefEqProofs (disch := omega) only [go_sem, h1m, nex40, nex41, nex42, nex43, nex44]; rfl) : P := e ▸ h
theorem mF1 {P Q : Prop} (h : Q) (e : P = Q := by simp -implicitDefEqProofs (disch := omega) only [go_sem, hlt, ← hb]; rfl) : P := e ▸ h
theorem mG1 {P Q : Prop} (h : Q) (e : P = Q := by simp -implicitDefEqProofs only [go_sem, GOp.enc, encS, encL, List.cons_append, List.nil_append]; rfl) : P := e ▸ h
theorem cq1 {P Q : Prop} (h : Q) (e : P = Q := by simp -implicitDefEqProofs (disch := omega) only [go_sem, Tm.enc, hse]; rfl) : P := e ▸ h
theorem si1 {P Q : Prop} (h : Q) (e : P = Q := by simp -implicitDefEqProofs only [go_sem, Tm.enc, List.length_map, hgr, hj]; rfl) : P := e ▸ h
theorem mH1 {P Q : Prop} (h : Q) (e : P = Q := by simp -implicitDefEqProofs (disch := omega) only [go_sem, hde, Tm.enc]; rfl) : P := e ▸ h
theorem mI1 {P Q : Prop} (h : Q) (e : P = Q := by simp -implicitDefEqProofs (disch := omega) only [go_sem, Option.getD_none, Option.isSome_none, zeroT, Tm.enc, Tm.encs]; rfl) : P := e ▸ h
theorem mJ1 {P Q : Prop} (h : Q) (e : P = Q := by simp -implicitDefEqProofs (disch := omega) only [go_sem, Option.getD_some, Option.isSome_some, Tm.enc]; rfl) : P := e ▸ h
theorem sj1 {P Q : Prop} (h : Q) (e : P = Q := by simp -implicitDefEqProofs (disch := omega) only [go_sem, hrn, List.length_map, List.map_nil, List.length_nil]; rfl) : P := e ▸ h
theorem cr1 {P Q : Prop} (h : Q) (e : P = Q := by simp -implicitDefEqProofs only [go_sem, GGuard.enc, Tm.enc, encI, List.cons_append, List.nil_append]; rfl) : P := e ▸ h
theorem sk1 {P Q : Prop} (h : Q) (e : P = Q := by simp -implicitDefEqProofs (disch := omega) only [go_sem, GGuard.enc, Tm.enc, encI, List.cons_append, List.nil_append]; rfl) : P := e ▸ h
theorem cs1 {P Q : Prop} (h : Q) (e : P = Q := by simp -implicitDefEqProofs (disch := omega) only [go_sem, Tm.enc, hde]; rfl) : P := e ▸ h
theorem ct1 {P Q : Prop} (h : Q) (e : P = Q := by simp -implicitDefEqProofs (disch := omega) only [go_sem, machEnc, List.map_cons, List.map_nil]; rfl) : P := e ▸ h
theorem sl1 {P Q : Prop} (h : Q) (e : P = Q := by simp -implicitDefEqProofs (disch := omega) only [go_sem, zeroM, zeroT, machEnc, List.map_nil]; rfl) : P := e ▸ h
theorem mK1 {P Q : Prop} (h : Q) (e : P = Q := by simp -implicitDefEqProofs (disch := omega) only [go_sem, hg, hg', hlt, hlt']; rfl) : P := e ▸ h
theorem mL1 {P Q : Prop} (h : Q) (e : P = Q := by simp -implicitDefEqProofs only [go_sem, List.getElem?_cons_succ, List.getElem?_cons_zero]; rfl) : P := e ▸ h
theorem mM1 {P Q : Prop} (h : Q) (e : P = Q := by simp -implicitDefEqProofs (disch := omega) only [go_sem, hlr, Nat.lt_irrefl, List.length_nil, List.length_cons, List.take_length]; rfl) : P := e ▸ h
theorem mN1 {P Q : Prop} (h : Q) (e : P = Q := by simp -implicitDefEqProofs (disch := omega) only [go_sem, hlr, Nat.lt_irrefl, List.length_nil, List.length_cons, c0, c1, c2, Int.reduceEq, Int.reduceLT, Int.reduceLE, Int.reduceToNat, Int.reduceBEq, drowsOf_len, List.take_length, Tm.enc, Tm.encs]; rfl) : P := e ▸ h
theorem mO1 {P Q : Prop} (h : Q) (e : P = Q := by simp -implicitDefEqProofs only [go_sem, Tm.enc, GDefinition.enc, GSignature.enc, encL, List.cons_append, List.nil_append]; rfl) : P := e ▸ h
theorem mP1 {P Q : Prop} (h : Q) (e : P = Q := by simp -implicitDefEqProofs (disch := omega) only [go_sem, GRule.enc, Tm.enc, encS, encL, List.cons_append, List.nil_append]; rfl) : P := e ▸ h
theorem sm1 {P Q : Prop} (h : Q) (e : P = Q := by simp -implicitDefEqProofs (disch := omega) only [go_sem, GFrame.enc, Tm.enc, encB, encI, encL, encS, List.cons_append, List.nil_append, List.append_nil]; rfl) : P := e ▸ h
theorem sn1 {P Q : Prop} (h : Q) (e : P = Q := by simp -implicitDefEqProofs (disch := omega) only [go_sem, List.length_map, hg, hi, enc_len]; rfl) : P := e ▸ h
theorem mQ1 {P Q : Prop} (h : Q) (e : P = Q := by simp -implicitDefEqProofs (disch := omega) only [go_sem, ei, hg, hlt, List.length_map]; rfl) : P := e ▸ h
theorem so1 {P Q : Prop} (h : Q) (e : P = Q := by simp -implicitDefEqProofs (disch := omega) only [go_sem, Tm.enc, hg, hlt]; rfl) : P := e ▸ h
theorem sp1 {P Q : Prop} (h : Q) (e : P = Q := by simp -implicitDefEqProofs (disch := omega) only [go_sem, Tm.enc, hg, hlt, hln]; rfl) : P := e ▸ h
theorem sq1 {P Q : Prop} (h : Q) (e : P = Q := by simp -implicitDefEqProofs (disch := omega) only [go_sem, hsn, rowsOf_toC, Tm.enc, rowsOf_len]; rfl) : P := e ▸ h
theorem sr1 {P Q : Prop} (h : Q) (e : P = Q := by simp -implicitDefEqProofs only [go_sem, GDefinition.enc, GSignature.enc, Tm.enc, encS, encL, List.cons_append, List.nil_append]; rfl) : P := e ▸ h
theorem ss1 {P Q : Prop} (h : Q) (e : P = Q := by simp -implicitDefEqProofs (disch := omega) only [go_sem, hlr, Nat.lt_irrefl, List.length_nil, List.length_cons, hr', Tm.enc, Tm.encs]; rfl) : P := e ▸ h
theorem st1 {P Q : Prop} (h : Q) (e : P = Q := by simp -implicitDefEqProofs (disch := omega) only [go_sem, hlr, Nat.lt_irrefl, List.length_nil, List.length_cons, hr', List.take_length, Tm.enc, encs_map, List.map_cons]; rfl) : P := e ▸ h
theorem zT2 {P Q : Prop} (h : Q) (e : P = Q := by simp -implicitDefEqProofs (disch := omega) only [go_sem, hlr, Nat.lt_irrefl, List.length_nil, List.length_cons, c0, c1, c2, Int.reduceEq, Int.reduceLT, Int.reduceLE, Int.reduceToNat, Int.reduceBEq, drowsOf_len, List.take_length, Tm.enc, Tm.encs, g0, hb]; rfl) : P := e ▸ h
theorem zU2 {P Q : Prop} (h : Q) (e : P = Q := by simp -implicitDefEqProofs (disch := omega) only [go_sem, hlr, Nat.lt_irrefl, List.length_nil, List.length_cons, c0, c1, c2, Int.reduceEq, Int.reduceLT, Int.reduceLE, Int.reduceToNat, Int.reduceBEq, drowsOf_len, List.take_length, Tm.enc, Tm.encs, g0]; rfl) : P := e ▸ h
theorem su1 {P Q : Prop} (h : Q) (e : P = Q := by simp -implicitDefEqProofs (disch := omega) only [go_sem, List.length_nil, List.length_cons, c0, c1, c2, Int.reduceEq, Int.reduceLT, Int.reduceLE, Int.reduceToNat, Int.reduceBEq, drowsOf_len, g0, g1, Tm.enc, Tm.encs]; rfl) : P := e ▸ h
theorem sv1 {P Q : Prop} (h : Q) (e : P = Q := by simp -implicitDefEqProofs (disch := omega) only [go_sem, Option.getD_some, Option.isSome_some, GOp.enc, encS, encL, List.cons_append, List.nil_append]; rfl) : P := e ▸ h
theorem zV2 {P Q : Prop} (h : Q) (e : P = Q := by simp -implicitDefEqProofs only [go_sem, Int.reduceToNat, Int.reduceLE, Int.reduceLT, decide_true, Bool.and_self, Int.cast_ofNat_Int]; rfl) : P := e ▸ h
theorem sw1 {P Q : Prop} (h : Q) (e : P = Q := by simp -implicitDefEqProofs (disch := omega) only [go_sem, GDefinition.enc, GSignature.enc, encL, List.cons_append, List.nil_append, List.append_nil]; rfl) : P := e ▸ h
theorem zW2 {P Q : Prop} (h : Q) (e : P = Q := by simp -implicitDefEqProofs (disch := omega) only [go_sem, Tm.enc, hgr, hj, hst, rowsOf_len, List.length_map, hll, ei, hg, rowsOf_toC]; rfl) : P := e ▸ h
theorem c0' {Q : Prop} (h : Sat P fid ds r) (hk : Q) (e : κ.default ((s.frzs (vs.flatMap AV.owns)).set d r) = Q := by simp -implicitDefEqProofs (disch := omega) only [go_sem]; rfl) : @CallK P tab x fid True ds vs d s κ := CallK.mk h (e ▸ hk)
theorem c4' {Q : Prop} (h : Sat P fid ds r) (hk : Q) (e : κ.default ((s.frzs (vs.flatMap AV.owns)).set d r) = Q := by simp -implicitDefEqProofs (disch := omega) only [go_sem, Tm.enc]; rfl) : @CallK P tab x fid True ds vs d s κ := CallK.mk h (e ▸ hk)
theorem c7' {Q : Prop} (h : Sat P fid ds r) (hk : Q) (e : κ.default ((s.frzs (vs.flatMap AV.owns)).set d r) = Q := by simp -implicitDefEqProofs only [go_sem, Tm.enc]; rfl) : @CallK P tab x fid True ds vs d s κ := CallK.mk h (e ▸ hk)
theorem c8' {Q : Prop} (h : Sat P fid ds r) (hk : Q) (e : κ.default ((s.frzs (vs.flatMap AV.owns)).set d r) = Q := by simp -implicitDefEqProofs only [go_sem]; rfl) : @CallK P tab x fid True ds vs d s κ := CallK.mk h (e ▸ hk)
theorem ko1 {Q : Prop} (h : Sat P fid ds r) (hk : Q) (e : κ.default ((s.frzs (vs.flatMap AV.owns)).set d r) = Q := by simp -implicitDefEqProofs (disch := omega) only [go_sem, List.length_map]; rfl) : @CallK P tab x fid True ds vs d s κ := CallK.mk h (e ▸ hk)
theorem bT1 {Q : Prop} (h : Sat P fid ds r) (hk : Q) (e : κ.default ((s.frzs (vs.flatMap AV.owns)).set d r) = Q := by simp -implicitDefEqProofs (disch := omega) only [go_sem, hgd, hlt, List.length_map]; rfl) : @CallK P tab x fid True ds vs d s κ := CallK.mk h (e ▸ hk)
theorem CallK.bor (h : Sat P fid ds r) (hp : jP0 r = true) (hk : κ.default (s.set d r)) : @CallK P tab x fid nt ds vs d s κ := .inr (.inl ⟨r, h, hp, hk⟩)
theorem CallK.own {t : Tmp} (h : SatF P fid ds r) (hf : s.lb t = none) (hk : κ.default ((s.put t (.tok (flR r))).set (some t) (tkR t r))) : @CallK P tab x fid nt ds vs (some t) s κ := .inr (.inr (.inl ⟨r, t, h, rfl, hf, hk⟩))
theorem CallK.outN {t : Tmp} {e : TypeId} {sz : Nat} {rows : List (List AC)} (h : SatO P fid ds e sz rows r) (hno : vs.flatMap AV.owns = []) (hf : s.lb t = none)
  (hk : κ.default ((s.put t (.arr e sz rows false)).set (some t) (nJ0 t r))) : @CallK P tab x fid True ds vs (some t) s κ := .inr (.inr (.inr (.inl ⟨trivial, hno, e, sz, rows, r, t, h, rfl, hf, hk⟩)))
theorem CallK.newN {t : Tmp} {cells : List AC} (h : xe1 P fid ds cells) (hno : vs.flatMap AV.owns = []) (hf : s.lb t = none)
  (hk : κ.default ((s.put t (.var cells)).set (some t) (.one (.ptr t 0)))) : @CallK P tab x fid True ds vs (some t) s κ := .inr (.inr (.inr (.inr (.inr (.inl ⟨trivial, hno, cells, t, h, rfl, hf, hk⟩)))))
theorem CallK.new {t : Tmp} {cells : List AC} (hx : x = true) (h : xe1 P fid ds cells) (hno : vs.flatMap AV.owns = []) (hf : s.lb t = none)
  (hk : κ.default ((s.put t (.var cells)).set (some t) (.one (.ptr t 0)))) : @CallK P tab x fid True ds vs (some t) s κ := CallK.newN h hno hf hk
theorem CallK.sem {s' : St} (hx : x = true) (h : sW1 P tab fid nt ds vs d s s') (hk : κ.default s') : @CallK P tab x fid nt ds vs d s κ := .inr (.inr (.inr (.inr (.inr (.inr ⟨hx, s', h, hk⟩)))))
theorem CallK.accD {t : Tmp} {e : TypeId} {sz : Nat} {rows rows' : List (List AC)} {rest : List AV} (j : Nat) (hx : x = true) (h : bo0 P fid (ds.take j) (ds.drop (j + 1)) e sz rows rows' rest) (ha : kn1 vs j e sz rows s) (hf : s.lb t = none)
  (hk : κ.default (((yb0 vs j s).put t (.arr e sz rows' false)).set (some t) (vC1 t rows'.length rest))) : @CallK P tab x fid True ds vs (some t) s κ :=
 CallK.sem hx (fun o args ts f hop hfn hvs hd hdst _ hv => ⟨qQ0 hop, fun _ w0 M0 F0 F g a w hs K Q hK => nM0 hs ⟨⟨.value f, args, ts⟩, f, fid, ds, j, e, sz, rows, rows', rest, t, hop, rfl, hfn, by rw [hd]; exact hdst, by rw [hvs]; exact hv trivial, h, by rw [hvs]; exact ha, hd, hf, by rw [hvs, hd]⟩ hK⟩) hk
theorem CallK.acc {t : Tmp} {e : TypeId} {sz : Nat} {rows rows' : List (List AC)} {rest : List AV} (j : Nat) (h : bo0 P fid (ds.take j) (ds.drop (j + 1)) e sz rows rows' rest) (ha : kn1 vs j e sz rows s) (hf : s.lb t = none)
  (hk : κ.default (((yb0 vs j s).put t (.arr e sz rows' false)).set (some t) (vC1 t rows'.length rest))) : @CallK P tab true fid True ds vs (some t) s κ := CallK.accD j rfl h ha hf hk
theorem CallK.outD {t : Tmp} {e : TypeId} {sz : Nat} {rows : List (List AC)} (hx : x = true) (h : SatO P fid ds e sz rows r) (hf : s.lb t = none)
  (hk : κ.default (((s.frzs (vs.flatMap AV.owns)).put t (.arr e sz rows false)).set (some t) (nJ0 t r))) : @CallK P tab x fid True ds vs (some t) s κ :=
 CallK.sem hx (fun o args ts f hop hfn hvs hd hdst _ hv => ⟨qQ0 hop, fun _ w0 M0 F0 F g a w hs K Q hK => nS0 hs ⟨⟨.value f, args, ts⟩, f, fid, ds, e, sz, rows, r, t, hop, rfl, hfn, by rw [hd]; exact hdst, by rw [hvs]; exact hv trivial, h, hd, hf, by rw [hvs, hd]⟩ hK⟩) hk
theorem CallK.out {t : Tmp} {e : TypeId} {sz : Nat} {rows : List (List AC)} (h : SatO P fid ds e sz rows r) (hf : s.lb t = none)
  (hk : κ.default (((s.frzs (vs.flatMap AV.owns)).put t (.arr e sz rows false)).set (some t) (nJ0 t r))) : @CallK P tab true fid True ds vs (some t) s κ := CallK.outD rfl h hf hk
theorem CallK.lost {e : TypeId} {sz : Nat} {rows : List (List AC)} {rest : List AV} (j : Nat) (hx : x = true) (h : km1 P fid (ds.take j) (ds.drop (j + 1)) e sz rows rest) (ha : kn1 vs j e sz rows s)
  (hk : κ.default ((yb0 vs j s).set d (jJ1 rest))) : @CallK P tab x fid True ds vs d s κ :=
 CallK.sem hx (fun o args ts f hop hfn hvs hd hdst _ hv => ⟨qQ0 hop, fun _ w0 M0 F0 F g a w hs K Q hK => nR0 hs ⟨⟨.value f, args, ts⟩, f, fid, ds, j, e, sz, rows, rest, hop, rfl, hfn, by rw [hd]; exact hdst, by rw [hvs]; exact hv trivial, h, by rw [hvs]; exact ha, by rw [hvs, hd]⟩ hK⟩) hk
theorem CallK.shown {e : TypeId} {sz : Nat} {rows : List (List AC)} (j : Nat) (hx : x = true) (h : cc1 P fid (ds.take j) (ds.drop (j + 1)) e sz rows r) (ha : kn1 vs j e sz rows s)
  (hk : κ.default (s.set d r)) : @CallK P tab x fid True ds vs d s κ :=
 CallK.sem hx (fun o args ts f hop hfn hvs hd hdst _ hv => ⟨qQ0 hop, fun _ w0 M0 F0 F g a w hs K Q hK => nX0 hs ⟨⟨.value f, args, ts⟩, f, fid, ds, j, e, sz, rows, r, hop, rfl, hfn, by rw [hd]; exact hdst, by rw [hvs]; exact hv trivial, h, by rw [hvs]; exact ha, by rw [hd]⟩ hK⟩) hk
theorem CallK.give {t : Tmp} {y : C} (j : Nat) (hx : x = true) (h : cb1 P fid (ds.take j) (ds.drop (j + 1)) y r) (ha : pl1 vs j y s) (hf : s.lb t = none)
  (hk : κ.default (((yb0 vs j s).put t (.tok (flR r))).set (some t) (tkR t r))) : @CallK P tab x fid True ds vs (some t) s κ :=
 CallK.sem hx (fun o args ts f hop hfn hvs hd hdst _ hv => ⟨qQ0 hop, fun _ w0 M0 F0 F g a w hs K Q hK => nP0 hs ⟨⟨.value f, args, ts⟩, f, fid, ds, j, y, r, t, hop, rfl, hfn, by rw [hd]; exact hdst, by rw [hvs]; exact hv trivial, h, by rw [hvs]; exact ha, hd, hf, by rw [hvs, hd]⟩ hK⟩) hk
theorem CallK.accF {t : Tmp} {e : TypeId} {sz : Nat} {rows rows' : List (List AC)} {rest : List AV} (j : Nat) (hx : x = true) (h : bo0 P fid (ds.take j) (ds.drop (j + 1)) e sz rows rows' rest) (ha : Ai.accF vs j e sz rows s) (hf : s.lb t = none)
  (hk : κ.default (((yb0 vs j (s.frzs (qK0 vs j))).put t (.arr e sz rows' false)).set (some t) (vC1 t rows'.length rest))) : @CallK P tab x fid True ds vs (some t) s κ :=
 CallK.sem hx (fun o args ts f hop hfn hvs hd hdst _ hv => ⟨qQ0 hop, fun _ w0 M0 F0 F g a w hs K Q hK => ge0 hs ⟨⟨.value f, args, ts⟩, f, fid, ds, j, e, sz, rows, rows', rest, t, hop, rfl, hfn, by rw [hd]; exact hdst, by rw [hvs]; exact hv trivial, h, by rw [hvs]; exact ha, hd, hf, by rw [hvs, hd]⟩ hK⟩) hk
theorem yK1 {args : List AV} {Bs Bs' : List LB} {ls ns : List Nat} (h : wM0 P fid args Bs Bs' r) (ha : lA0 vs args Bs Bs' ls ns s) {o : Oper} {as : Array Operand} {ts : Array TypeId} {f : Operand} (hop : o.op = .call ⟨.value f, as, ts⟩) (hfn : xr0 (opv s f) = some fid) (hvs : as.toList.map (opv s) = vs) (hd : o.dst = d) (hdst : ∀ t, d = some t → t < s.n) : gY0 P tab o s (ba0 vs args Bs' r ls ns s d) := by
 obtain ⟨c1, c2, c3, c4, c5⟩ := ha
 exact ⟨qQ0 hop, fun _ w0 M0 F0 F g a w hs K Q hK => pr0 hs ⟨⟨.value f, as, ts⟩, f, fid, args, Bs, Bs', r, ls, ns, hop, rfl, hfn, by rw [hd]; exact hdst, h, c1, c2, by rw [hvs]; exact dH0 c3, c4, c5, by rw [hvs, hd]⟩ hK⟩
theorem CallK.con {args : List AV} {Bs Bs' : List LB} (ls ns : List Nat) (hx : x = true) (h : wM0 P fid args Bs Bs' r) (ha : lA0 vs args Bs Bs' ls ns s)
  (hk : κ.default (ba0 vs args Bs' r ls ns s d)) : @CallK P tab x fid nt ds vs d s κ := CallK.sem hx (fun _ _ _ _ hop hfn hvs hd hdst _ _ => yK1 h ha hop hfn hvs hd hdst) hk
end
def kw1 (P : Program) (c : Code) (s : St) [q : Qn] : Prop := jI1 P c q.default s
def jE0 (x : Option (Prop × Eff)) (d : Option Tmp) (s : St) [κ : Kn] : Prop :=
 match x with
 | some (p, e) => p ∧ fF0 e d s ∧ (p → κ.default (e.app d s))
 | none => False
abbrev An := Inhabited (Kn → Prop)
def fP1 (x : Option (Prop × Eff)) (d : Option Tmp) (s : St) [κ : Kn] [α : An] : Prop :=
 match x with
 | some (p, e) => p ∧ fF0 e d s ∧ (p → κ.default (e.app d s))
 | none => α.default κ
def dW1 (x : Bool) (r : Option (Prop × St)) (d : Option Tmp) (s : St) (κ : Kn) : Prop :=
 x = true ∧ match r with
 | some (p, s') => p ∧ dOk d s ∧ (p → κ.default s')
 | none => False
def CloK (P : Program) (x : Bool) (fid : FuncId) (p : Prop) (ds : List AV) (d : Option Tmp) (s : St) [κ : Kn] : Prop := x = true ∧ p ∧ dOk d s ∧ ∃ r, Sat P fid ds r ∧ jP0 r = true ∧ κ.default (s.set d r)
theorem CloK.mk {x : Bool} {fid : FuncId} {p : Prop} {ds : List AV} {d : Option Tmp} {s : St} {κ : Kn} {r : AV} (h : Sat P fid ds r) (hx : x = true) (hp : p) (hd : dOk d s) (hr : jP0 r = true) (hk : κ.default (s.set d r)) : @CloK P x fid p ds d s κ := ⟨hx, hp, hd, r, h, hr, hk⟩
def SelfK (P : Program) (fid : FuncId) (ds : List AV) (d : Option Tmp) (s : St) [κ : Kn] : Prop := ∃ r, Sat P fid ds r ∧ jP0 r = true ∧ κ.default (s.set d r)
theorem SelfK.mk {fid : FuncId} {ds : List AV} {d : Option Tmp} {s : St} {κ : Kn} {r : AV} (h : Sat P fid ds r) (hr : jP0 r = true) (hk : κ.default (s.set d r)) : @SelfK P fid ds d s κ := ⟨r, h, hr, hk⟩
def LoanK (P : Program) (tab : Tab) (x : Bool) (fid : FuncId) (ds1 ds2 vs : List AV) (d : Option Tmp) (s : St) [κ : Kn] : Prop := bV1 P tab x fid ds1 ds2 vs d s κ.default
theorem LoanK.mk {x : Bool} {fid : FuncId} {ds1 ds2 vs : List AV} {d : Option Tmp} {s : St} {κ : Kn} {r : AV} {B B' : LB} (h : dU1 P fid ds1 ds2 B B' r) (hx : x = true) (ha : vs1 vs (jR0 vs) B s)
  (hk : κ.default (((s.frzs (qK0 vs (jR0 vs))).put (lt0 vs (jR0 vs)) B').set d r)) : @LoanK P tab x fid ds1 ds2 vs d s κ :=
 ⟨hx, _, fun o args ts f hop hfn hvs hd hdst v1 v2 => ⟨qQ0 hop, fun _ w0 M0 F0 F g a w hs K Q hK => nT0 hs ⟨⟨.value f, args, ts⟩, f, fid, jR0 vs, _, _, B, B', r, hop, rfl, hfn, by rw [hd]; exact hdst, by rw [hvs]; exact v1, by rw [hvs]; exact v2, h, by rw [hvs]; exact ha, by rw [hvs, hd]⟩ hK⟩, hk⟩
theorem LoanK.con {x : Bool} {fid : FuncId} {ds1 ds2 vs : List AV} {d : Option Tmp} {s : St} {κ : Kn} {r : AV} {args : List AV} {Bs Bs' : List LB} (ls ns : List Nat) (h : wM0 P fid args Bs Bs' r) (hx : x = true) (ha : lA0 vs args Bs Bs' ls ns s)
  (hk : κ.default (ba0 vs args Bs' r ls ns s d)) : @LoanK P tab x fid ds1 ds2 vs d s κ := ⟨hx, _, fun _ _ _ _ hop hfn hvs hd hdst _ _ => yK1 h ha hop hfn hvs hd hdst, hk⟩
def bv0 (P : Program) (tab : Tab) (x : Bool) (fid : Option FuncId) (vs : List AV) (d : Option Tmp) (s : St) [κ : Kn] : Prop :=
 match fid with
 | none => False
 | some fid => if lW0 vs = true then pY0 s.lb (vs.take (jR0 vs)) ∧ pY0 s.lb (vs.drop (jR0 vs + 1)) ∧ dOk d s ∧ @LoanK P tab x fid (gX0 s.lb (vs.take (jR0 vs))) (gX0 s.lb (vs.drop (jR0 vs + 1))) vs d s κ else if lV0 vs = true then @CloK P x fid (qL1 s.lb vs) (bF1 s.lb vs) d s κ else dm0 s.lb vs ∧ dOk d s ∧ CallK P tab x fid (cQ0 vs) (gX0 s.lb vs) vs d s
def gr0 (P : Program) (tab : Tab) (x : Bool) (fv : AV) (vs : List AV) (d : Option Tmp) (s : St) [κ : Kn] : Prop :=
 match fv with
 | .one (.clo fid caps) => x = true ∧ dm0 s.lb vs ∧ dOk d s ∧ bX0 caps ∧ @SelfK P fid (gX0 s.lb vs ++ caps.map .one) d s κ
 | fv => @bv0 P tab x (xr0 fv) vs d s κ
def lB0 (v : AV) (s : St) [p : Kn] [q : Kn] : Prop :=
 match v with
 | .one (.c (.v (.bool t))) => (t = true → p.default s) ∧ (t = false → q.default s)
 | _ => False
def jT0 (d : Tmp) (v : AV) (wnt : Bool) (s : St) [p : Kn] [q : Kn] : Prop :=
 match v with
 | .one (.c (.v (.bool x))) => (x = wnt → p.default (s.set (some d) (.one (.c (.v (.bool wnt)))))) ∧ (x = (!wnt) → q.default (s.set (some d) (.one (.c (.v (.bool (!wnt)))))))
 | .tup [] => q.default s
 | _ => False
def pW1 (ops : Array Oper) (j : Nat) : Option Tmp := (ops[j]?).bind (·.dst)
def fo1 (d : Option Tmp) (wnt : Bool) (s : St) [p : Kn] [q : Kn] : Prop :=
 match d with
 | none => False
 | some d => @jT0 d (s.sl d) wnt s p q
def bh0 (P : Program) (tab : Tab) (x : Bool) (ops : Array Oper) (l : List Oper) (s : St) [κ : Kn] : Prop := wQ1 P tab x ops l s κ.default
section eqs
variable {s : St} {k : St → Prop} {Q : Exit → St → Prop} {κ κ' : Kn}
theorem zZ1 : qn0 P tab .skip Q s = Q .normal s := rfl
theorem gy0 {id : Nat} {ops : Array Oper} : qn0 P tab (.region id ops false) Q s = @bh0 P tab true ops ops.toList s ⟨Q .normal⟩ := rfl
theorem dG0 {id : Nat} {ops : Array Oper} : qn0 P tab (.region id ops true) Q s = @bh0 P tab (yx0 ops) ops ops.toList s ⟨Q .normal⟩ := rfl
theorem yG1 {a b : Code} : qn0 P tab (.seq a b) Q s = qn0 P tab a (xl0 (qn0 P tab b Q) Q) s := rfl
theorem zW1 {c : Operand} {a b : Code} : qn0 P tab (.cond c a b) Q s = @lB0 (opv s c) s ⟨fun s => qn0 P tab a Q s⟩ ⟨fun s => qn0 P tab b Q s⟩ := rfl
theorem ni0 {id : Nat} {c : Code} : qn0 P tab (.block id c) Q s = qn0 P tab c (jt0 id Q) s := rfl
theorem zX1 {id : Nat} : qn0 P tab (.exit id) Q s = Q (.exit id) s := rfl
theorem yF1 : qn0 P tab .ret Q s = Q .ret s := rfl
theorem zY1 {c : Code} : qn0 P tab (.loop c) Q s = @kw1 P c s ⟨Q⟩ := rfl
theorem mt0 : xl0 k Q .normal s = k s := rfl
theorem wM1 {id : Nat} : xl0 k Q (.exit id) s = Q (.exit id) s := rfl
theorem kW1 : xl0 k Q .ret s = Q .ret s := rfl
theorem dA0 {id : Nat} : jt0 id Q .normal s = Q .normal s := rfl
theorem zO1 {id : Nat} : jt0 id Q .ret s = Q .ret s := rfl
theorem nb0 {id : Nat} : jt0 id Q (.exit id) s = Q .normal s := by simp [jt0]
theorem xJ1 {rs : List ResultVar} {r : AV} : xH1 tab rs r .ret s = fX1 tab rs r s := rfl
theorem jr1 {rs : List ResultVar} {ds : List AV} : qm1 tab rs ds .ret s = qn1 tab rs ds s := rfl
theorem xC1 {bx : Bool} {ops : Array Oper} : @bh0 P tab bx ops [] s κ = κ.default s := rfl
theorem xD1 {bx : Bool} {ops : Array Oper} {d : Option Tmp} {op : Op} {ty : TypeId} {pos : String} {aft : Array Edge} {os : List Oper} :
  @bh0 P tab bx ops (⟨d, op, ty, pos, aft, none⟩ :: os) s κ = xE0 P tab bx ⟨d, op, ty, pos, aft, none⟩ s (fun s' => @bh0 P tab bx ops os s' κ) := by simp [bh0, wQ1, kd1]
theorem qf1 {bx : Bool} {ops : Array Oper} {d : Option Tmp} {op : Op} {ty : TypeId} {pos : String} {aft : Array Edge} {j : Nat} {wnt : Bool} {os : List Oper} :
  @bh0 P tab bx ops (⟨d, op, ty, pos, aft, some (j, wnt)⟩ :: os) s κ =
   @fo1 (pW1 ops j) wnt s ⟨fun s => xE0 P tab bx ⟨d, op, ty, pos, aft, some (j, wnt)⟩ s (fun s' => @bh0 P tab bx ops os s' κ)⟩ ⟨fun s => dOk d s ∧ @bh0 P tab bx ops os (s.set d (.tup [])) κ⟩ := by
 simp only [bh0, wQ1, kd1, fo1, pW1]
 cases (ops[j]?).bind (·.dst) with
 | none => rfl
 | some t =>
  have same : ∀ v, s.sl t = v → s.set (some t) v = s := by
   intro v hv
   subst hv
   obtain ⟨n, sl, lb, gh⟩ := s
   simp only [St.set, St.mk.injEq, true_and, and_true]
   funext k
   split
   ·rename_i e; subst e; rfl
   ·rfl
  simp only [jT0, if_true, Bool.false_eq_true, if_false]
  cases hv : s.sl t with
  | one a =>
   cases a with
   | c x =>
    cases x with
    | v x =>
     cases x with
     | bool x =>
      simp only
      cases x <;> cases wnt <;> simp <;> rw [same _ hv] <;> simp [bh0]
     | _ => rfl
    | sl rows => rfl
   | _ => rfl
  | agg as => rfl
  | tup vs => cases vs <;> simp [bh0]
  | any => rfl
theorem wN1 {d : Tmp} {wnt : Bool} : @fo1 (some d) wnt s κ κ' = @jT0 d (s.sl d) wnt s κ κ' := rfl
theorem sL0 {d : Tmp} {x wnt : Bool} : @jT0 d (.one (.c (.v (.bool x)))) wnt s κ κ' = ((x = wnt → κ.default (s.set (some d) (.one (.c (.v (.bool wnt)))))) ∧ (x = (!wnt) → κ'.default (s.set (some d) (.one (.c (.v (.bool (!wnt)))))))) := rfl
theorem ki1 {d : Tmp} {wnt : Bool} : @jT0 d (.tup []) wnt s κ κ' = κ'.default s := rfl
theorem kh1 {d : Tmp} : @jT0 d (.one (.c (.v (.bool true)))) true s κ κ' = κ.default (s.set (some d) (.one (.c (.v (.bool true))))) := by simp [jT0]
theorem kg1 {d : Tmp} : @jT0 d (.one (.c (.v (.bool true)))) false s κ κ' = κ'.default (s.set (some d) (.one (.c (.v (.bool true))))) := by simp [jT0]
theorem kf1 {d : Tmp} : @jT0 d (.one (.c (.v (.bool false)))) true s κ κ' = κ'.default (s.set (some d) (.one (.c (.v (.bool false))))) := by simp [jT0]
theorem ke1 {d : Tmp} : @jT0 d (.one (.c (.v (.bool false)))) false s κ κ' = κ.default (s.set (some d) (.one (.c (.v (.bool false))))) := by simp [jT0]
theorem zh1 : @lB0 (.one (.c (.v (.bool true)))) s κ κ' = κ.default s := by simp [lB0]
theorem nl0 : @lB0 (.one (.c (.v (.bool false)))) s κ κ' = κ'.default s := by simp [lB0]
theorem zg1 {t : Bool} : @lB0 (.one (.c (.v (.bool t)))) s κ κ' = ((t = true → κ.default s) ∧ (t = false → κ'.default s)) := rfl
theorem qS1 {p : Prop} {e : Eff} {d : Option Tmp} : @jE0 (some (p, e)) d s κ = (p ∧ fF0 e d s ∧ (p → κ.default (e.app d s))) := rfl
theorem qP1 {p : Prop} {e : Eff} {d : Option Tmp} {α : An} : @fP1 (some (p, e)) d s κ α = (p ∧ fF0 e d s ∧ (p → κ.default (e.app d s))) := rfl
theorem qO1 {d : Option Tmp} {α : An} : @fP1 none d s κ α = α.default κ := rfl
theorem ne0 {x : Bool} {vs : List AV} {d : Option Tmp} {fid : FuncId} : @bv0 P tab x (some fid) vs d s κ = (if lW0 vs = true then pY0 s.lb (vs.take (jR0 vs)) ∧ pY0 s.lb (vs.drop (jR0 vs + 1)) ∧ dOk d s ∧ @LoanK P tab x fid (gX0 s.lb (vs.take (jR0 vs))) (gX0 s.lb (vs.drop (jR0 vs + 1))) vs d s κ else if lV0 vs = true then @CloK P x fid (qL1 s.lb vs) (bF1 s.lb vs) d s κ else dm0 s.lb vs ∧ dOk d s ∧ @CallK P tab x fid (cQ0 vs) (gX0 s.lb vs) vs d s κ) := rfl
theorem nf0 {x : Bool} {vs : List AV} {d : Option Tmp} {fid : FuncId} : @gr0 P tab x (.one (.c (.v (.func (.func fid) #[] #[])))) vs d s κ = @bv0 P tab x (some fid) vs d s κ := rfl
section ops
variable {bx : Bool} {d : Option Tmp} {ty : TypeId} {pos : String} {aft : Array Edge} {g : Option (Nat × Bool)}
theorem wc1 {f : Operand} {args : Array Operand} {ts : Array TypeId} : xE0 P tab bx ⟨d, .call ⟨.value f, args, ts⟩, ty, pos, aft, g⟩ s k = @gr0 P tab bx (opv s f) (args.toList.map (opv s)) d s ⟨k⟩ := by
 simp only [xE0, pL1]
 generalize opv s f = fv
 cases hf : xr0 fv with
 | none =>
  cases fv with
  | one y =>
   cases y with
   | clo fid caps => rfl
   | _ => simp only [gr0, hf, bv0]
  | _ => simp only [gr0, hf, bv0]
 | some fid =>
  cases fv with
  | one y =>
   cases y with
   | clo f2 caps => simp [xr0] at hf
   | _ => simp only [gr0, hf, bv0]; rfl
  | _ => simp [xr0] at hf
theorem vF1 {args : Array Operand} {ts : Array TypeId} : xE0 P tab bx ⟨d, .call ⟨.builtin .len, args, ts⟩, ty, pos, aft, g⟩ s k = @jE0 (pR0 tab ⟨d, .call ⟨.builtin .len, args, ts⟩, ty, pos, aft, g⟩ s ⟨.builtin .len, args, ts⟩) d s ⟨k⟩ := rfl
theorem vG1 {args : Array Operand} {ts : Array TypeId} : xE0 P tab bx ⟨d, .call ⟨.builtin .max, args, ts⟩, ty, pos, aft, g⟩ s k = @jE0 (pR0 tab ⟨d, .call ⟨.builtin .max, args, ts⟩, ty, pos, aft, g⟩ s ⟨.builtin .max, args, ts⟩) d s ⟨k⟩ := rfl
theorem nK0 {args : Array Operand} {ts : Array TypeId} : xE0 P tab bx ⟨d, .call ⟨.builtin .append, args, ts⟩, ty, pos, aft, g⟩ s k = @fP1 (pR0 tab ⟨d, .call ⟨.builtin .append, args, ts⟩, ty, pos, aft, g⟩ s ⟨.builtin .append, args, ts⟩) d s ⟨k⟩ ⟨dW1 bx (fs1 tab ⟨d, .call ⟨.builtin .append, args, ts⟩, ty, pos, aft, g⟩ s) d s⟩ := rfl
theorem zA1 {t : TypeId} : xE0 P tab bx ⟨d, .alloc t, ty, pos, aft, g⟩ s k = @jE0 ((tab t).map fun ti => (True, .new (.one (.ptr (d.getD 0) 0)) (.var ti.zero))) d s ⟨k⟩ := rfl
theorem vE1 {t : TypeId} {x : Operand} : xE0 P tab bx ⟨d, .box t x, ty, pos, aft, g⟩ s k = @jE0 ((opv s x).cs.map fun cs => (True, .new (.one (.ptr (d.getD 0) 0)) (.var cs))) d s ⟨k⟩ := rfl
theorem zF1 {t : TypeId} {p x : Operand} : xE0 P tab bx ⟨d, .store t p x, ty, pos, aft, g⟩ s k = @jE0 (vw0 tab s.lb t (opv s p) (opv s x)) d s ⟨k⟩ := rfl
def wS1 (x : Option (Prop × AV)) : Option (Prop × Eff) := x.map fun (p, v) => (p, .val v)
theorem kc1 {p : Prop} {v : AV} : wS1 (some (p, v)) = some (p, .val v) := rfl
theorem we1 {x : Operand} : xE0 P tab bx ⟨d, .move x, ty, pos, aft, g⟩ s k = @jE0 (some (True, .val (opv s x))) d s ⟨k⟩ := rfl
theorem nL0 {x : Operand} : xE0 P tab bx ⟨d, .assign x, ty, pos, aft, g⟩ s k = @jE0 (some (True, .val (opv s x))) d s ⟨k⟩ := rfl
theorem wd1 {t : TypeId} {x : Operand} : xE0 P tab bx ⟨d, .load t x, ty, pos, aft, g⟩ s k = @jE0 (wS1 (di0 tab s.lb t (opv s x))) d s ⟨k⟩ := rfl
theorem zB1 {op : BinOp} {t t' : TypeId} {x y : Operand} : xE0 P tab bx ⟨d, .binOp op t x y t', ty, pos, aft, g⟩ s k = @jE0 (wS1 (bS1 tab op t (opv s x) (opv s y))) d s ⟨k⟩ := rfl
theorem bV0 {t : TypeId} {x : Operand} {f : Nat} : xE0 P tab bx ⟨d, .fieldAddr t x f, ty, pos, aft, g⟩ s k = @jE0 (wS1 (wC0 s.lb (tab t) (opv s x) f)) d s ⟨k⟩ := rfl
theorem vU0 {x : Operand} : xE0 P tab bx ⟨d, .nilCheck x, ty, pos, aft, g⟩ s k = @jE0 (wS1 (pO1 s.lb (opv s x))) d s ⟨k⟩ := rfl
theorem bW0 {t : TypeId} {x i : Operand} : xE0 P tab bx ⟨d, .indexAddr t x i, ty, pos, aft, g⟩ s k = @jE0 (wS1 (wE0 tab s.lb t (opv s x) (opv s i))) d s ⟨k⟩ := rfl
theorem zD1 {t : TypeId} {x i : Operand} : xE0 P tab bx ⟨d, .index t x i, ty, pos, aft, g⟩ s k = @jE0 (wS1 (lg0 (tab t) (opv s x) (opv s i))) d s ⟨k⟩ := rfl
def sg1 (v : AV) : Option (Prop × AV) := match v with
 | .one (.c (.v (.bool b))) => some (True, jz0 (!b))
 | _ => none
theorem vH1 {t : TypeId} {x : Operand} : xE0 P tab bx ⟨d, .unOp .not t x, ty, pos, aft, g⟩ s k = @jE0 (wS1 (sg1 (opv s x))) d s ⟨k⟩ := rfl
theorem jS1 {b : Bool} : sg1 (.one (.c (.v (.bool b)))) = some (True, .one (.c (.v (.bool (!b))))) := rfl
def cD1 (c a b : AV) : Option (Prop × AV) := match c with
 | .one (.c (.v (.bool t))) => some (True, if t then a else b)
 | _ => none
theorem wf1 {c a b : Operand} : xE0 P tab bx ⟨d, .pick c a b, ty, pos, aft, g⟩ s k = @jE0 (wS1 (cD1 (opv s c) (opv s a) (opv s b))) d s ⟨k⟩ := rfl
theorem qU1 {t : Bool} {a b : AV} : cD1 (.one (.c (.v (.bool t)))) a b = some (True, if t = true then a else b) := rfl
theorem gc0 {t t' : TypeId} {x : Operand} : xE0 P tab bx ⟨d, .convert t t' x, ty, pos, aft, g⟩ s k = @jE0 (wS1 (lC0 tab s.lb t t' (opv s x))) d s ⟨k⟩ := rfl
theorem zE1 {t : TypeId} {x : Operand} {lo hi : Option Operand} : xE0 P tab bx ⟨d, .slice t x lo hi none, ty, pos, aft, g⟩ s k = @jE0 (wS1 (pG0 tab (tab t) (opv s x) (lo.map (opv s)) (hi.map (opv s)))) d s ⟨k⟩ := rfl
def sw0 (v : AV) (i : Nat) : Option (Prop × AV) := match v with
 | .tup vs => (vs[i]?).map fun v => (True, v)
 | _ => none
theorem gd0 {x : Operand} {i : Nat} : xE0 P tab bx ⟨d, .extract x i, ty, pos, aft, g⟩ s k = @jE0 (wS1 (sw0 (opv s x) i)) d s ⟨k⟩ := rfl
theorem lK0 {vs : List AV} {i : Nat} : sw0 (.tup vs) i = (vs[i]?).map fun v => (True, v) := rfl
theorem pq0 {t : TypeId} {len : Nat} {parts : Array (Nat × Operand)} : xE0 P tab bx ⟨d, .buildSlice t len parts, ty, pos, aft, g⟩ s k = @jE0 (vm0 tab ⟨d, .buildSlice t len parts, ty, pos, aft, g⟩ s) d s ⟨k⟩ := rfl
theorem zC1 {t : TypeId} {parts : Array (Nat × Operand)} : xE0 P tab bx ⟨d, .build t parts, ty, pos, aft, g⟩ s k = @jE0 (vm0 tab ⟨d, .build t parts, ty, pos, aft, g⟩ s) d s ⟨k⟩ := rfl
end ops
theorem pb1 {v : AV} {d : Option Tmp} : (Eff.val v).app d s = s.set d v := rfl
theorem pZ1 {v : AV} {B : LB} {d : Tmp} : (Eff.new v B).app (some d) s = (s.put d B).set (some d) v := rfl
theorem pa1 {v : AV} {B : LB} {l : Nat} {d : Option Tmp} : (Eff.upd v l B).app d s = (s.put l B).set d v := rfl
theorem yR1 {v : AV} {d : Tmp} : fF0 (.val v) (some d) s = (d < s.n) := rfl
theorem yP1 {v : AV} {B : LB} {d : Tmp} : fF0 (.new v B) (some d) s = (d < s.n ∧ s.lb d = none) := rfl
theorem yQ1 {v : AV} {B : LB} {l : Nat} {d : Tmp} : fF0 (.upd v l B) (some d) s = (d < s.n) := rfl
theorem zn1 {v : AV} {B : LB} {l : Nat} : fF0 (.upd v l B) none s = True := rfl
theorem vW1 {d : Tmp} : dOk (some d) s = (d < s.n) := rfl
theorem fO1 {t : Tmp} : opv s (.tmp t) = s.sl t := rfl
theorem vy1 {f : FuncId} : opv s (.func f) = .one (.c (.v (.func (.func f) #[] #[]))) := rfl
theorem fM1 {n : Int} {i : IntKind} : opv s (.const (.int i n)) = .one (.c (.v (.int i n))) := rfl
theorem vx1 {b : Bool} : opv s (.const (.bool b)) = .one (.c (.v (.bool b))) := rfl
theorem qN1 {b : ByteArray} : opv s (.const (.string b)) = .one (.c (.v (.string b))) := rfl
theorem fL1 {xs : Array Value} : opv s (.const (.agg xs)) = sm0 (wy0 xs.toList) := rfl
theorem zi1 {n : Int} {i : IntKind} : yD0 (.int i n) = some (.c (.v (.int i n))) := rfl
theorem dI0 {b : ByteArray} : yD0 (.string b) = some (.c (.v (.string b))) := rfl
theorem zj1 : yD0 (.slice none 0 0) = some .nil := rfl
theorem fN1 : opv s (.const (.slice none 0 0)) = .one .nil := rfl
theorem yY1 {f : FuncId} : xr0 (.one (.c (.v (.func (.func f) #[] #[])))) = some f := rfl
end eqs
theorem zB0 {ι : Type} {c : Code} {Q : Exit → St → Prop} {s : St} (S : ι → St) (I : ι → Prop) (μ : ι → Nat) (i0 : ι) (hI : I i0) (h0 : Wk s (S i0)) (hT : zS0 P tab) (hm : P.follows .mixedOrders = true) (hok : qm0 c = true)
  (round : ∀ i, I i → qn0 P tab c (xl0 (fun s' => ∃ j, I j ∧ μ j < μ i ∧ Wk s' (S j)) Q) (S i)) : @kw1 P c s ⟨Q⟩ :=
 lu0 (ι := {i : ι // I i}) (fun i => S i.1) (fun i => μ i.1) ⟨i0, hI⟩ h0 (fun i => AWP.mono (zh0 hT hm c _ _ hok (round i.1 i.2)) (fun e s hq => by
  cases e with
  | normal => obtain ⟨j, h1, h2, h3⟩ := hq; exact ⟨⟨j, h1⟩, h3, h2⟩
  | _ => exact hq))
theorem cC1 (cs : List C) : (cs.map AC.c).flatMap AC.owns = [] := by
 induction cs with
 | nil => rfl
 | cons c cs ih => simp [AC.owns]
theorem ng0 (n : Nat) : (0 ≤ (n : Int)) = True := eq_true (Int.natCast_nonneg n)
theorem pN1 (m n : Nat) : ((m : Int) < (n : Int)) = (m < n) := propext Int.ofNat_lt
theorem pM1 (m n : Nat) : ((m : Int) ≤ (n : Int)) = (m ≤ n) := propext Int.ofNat_le
theorem vR1 (n : Nat) : ((n : Int) < 0) = False := eq_false (by omega)
theorem zS1 (n : Nat) : ((n : Int)).toNat = n := rfl
attribute [go_sem high] kh1 kg1 kf1 ke1 zh1 nl0
attribute [go_sem ↓] reduceIte
attribute [go_sem] reduceCtorEq Nat.reduceEqDiff Nat.reduceLT Nat.reduceLeDiff Nat.reduceAdd Nat.reduceSub Nat.reduceMul
attribute [go_sem] IntWalk.i64_in AV.one.injEq AC.c.injEq C.v.injEq Value.int.injEq Value.bool.injEq beq_self_eq_true bne_self_eq_false
attribute [go_sem] cC1 ng0 pN1 pM1 vR1 zS1
attribute [go_sem ↓] gc0
attribute [go_sem] lC0 pz1
attribute [go_sem ↓] nb0 zZ1 gy0 dG0 yG1 zW1 ni0 zX1 yF1 zY1 mt0 wM1 kW1 dA0 zO1 xJ1 wc1 vF1 vG1 nK0 zA1 vE1 zF1 we1 nL0 wd1 zB1 bV0 vU0 vU0 bW0 zD1 vH1 wf1 zE1 gd0 pq0 zC1
attribute [go_sem] by1 fC1 dl1 kb1 tkR tkV cY1 tkC cX1 flR flV flC qn1 jv1 dA1 cJ1 jq1 fV1 bN1 kU1 cV1 kT1 fe1 ym1 bh1 yl1 pk1 bc1 sc1 va1 se1 hoV ci1 toC dm0 bx1 okB fy1 cQ0 fB1 cm1 jQ1 leG List.set_cons_zero List.set_cons_succ jr1 or_true true_or or_false false_or
attribute [go_sem] xC1 xD1 qf1 wN1 sL0 ki1 zg1 qS1 qP1 qO1 fs1 dV1 cd1 ne0 nf0 lW0 pq1 jR0 lV0 bj1 qL1 mS1 cu1 okK bF1 vKV vKs vK ck1 pK1 bX0 dB0 Bool.or_false Bool.false_or kc1 jS1 qU1 lK0 pb1 pZ1 pa1 yR1 yP1 yQ1 zn1 vW1 fO1 vy1 fM1 vx1 qN1 fN1 fL1 zi1 dI0 zj1 wy0 sm0 yY1 xt1 px1 bq1 bp1 dk0 qj0 jH1 qE1 jE1 vg1 yd1 tO0 kF0 LB.frz di0 bS1 vT1 sZ0 sd0 pv1 wC0 pO1 sb0 wE0 lg0 pG0 gB0 vw0 pR0 yn0 cl1 jy0 fa0 vm0 kK0 jK1 splice jI0 kk0 AV.cs TyD.agg AV.owns AC.owns pY0 fH1 okC bA1 gX0 vAV vC vCs sQ1 bz1 pW1 fX1 vL0 tA1 qi0 yr1 unD qU0 leL leB inV inC inB List.map_cons List.map_nil List.toList_toArray Option.map_some Option.map_none Option.getD_some Option.getD_none Option.bind_some List.flatMap_cons List.flatMap_nil List.append_nil List.nil_append List.cons_append List.length_cons List.length_nil List.take_succ_cons List.take_zero List.drop_succ_cons List.drop_zero List.getElem?_cons_succ List.getElem?_cons_zero List.getElem?_toArray List.getElem?_nil List.getD_cons_succ List.getD_cons_zero ite_true ite_false if_true if_false true_and and_true and_false false_and and_self true_implies false_implies implies_true forall_const not_true_eq_false not_false_eq_true Bool.not_true Bool.not_false Bool.false_eq_true Bool.true_eq_false decide_eq_true_eq decide_eq_false_iff_not Bool.not_eq_true' Bool.not_eq_false' beq_iff_eq bne_iff_ne ne_eq Nat.zero_add Nat.add_zero Nat.zero_le Nat.le_refl
inductive Tm where
 | mk (k n : Int) (s : ByteArray) (as : List Tm)
theorem Tm.ind {p : Tm → Prop} (h : ∀ k n s as, (∀ a, a ∈ as → p a) → p (.mk k n s as)) : ∀ t, p t
 | .mk k n s as => h k n s as (fun a _ => Tm.ind h a)
mutual
def Tm.enc : Tm → List C
 | .mk k n s as => [.v (.int .i64 k), .v (.int .i64 n), .v (.string s), .sl (Tm.encs as)]
def Tm.encs : List Tm → List (List C)
 | [] => []
 | a :: as => a.enc :: Tm.encs as
end
end Go.Ai
