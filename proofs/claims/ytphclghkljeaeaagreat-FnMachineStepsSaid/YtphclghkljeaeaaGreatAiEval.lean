/- Running a function's code on abstract states, by simp: the equations, and what simp is not to look into. -/
import Derived.Test.YtphclghkljeaeaaGreatAiTab
import Derived.Test.YtphclghkljeaeaaGreatAiMoves
import Derived.Attr
set_option linter.unusedVariables false
set_option linter.unusedSimpArgs false
namespace Go.Ai
open Go.RowKit
variable {P : Program} {tab : Tab}
abbrev Kn := Inhabited (St → Prop)
abbrev Qn := Inhabited (Exit → St → Prop)
def CallK (P : Program) (tab : Tab) (x : Bool) (fid : FuncId) (nt : Prop) (ds vs : List AV) (d : Option Tmp) (s : St) [κ : Kn] : Prop := pV1 P tab x fid nt ds vs d s κ.default
section
variable {x : Bool} {fid : FuncId} {nt : Prop} {ds vs : List AV} {d : Option Tmp} {s : St} {κ : Kn} {r : AV}
theorem CallK.mk (h : Sat P fid ds r) (hk : κ.default ((s.frzs (vs.flatMap AV.owns)).set d r)) : @CallK P tab x fid True ds vs d s κ := .inl ⟨r, h, trivial, hk⟩
theorem qI0 {P Q : Prop} (h : Q) (e : P = Q := by simp -implicitDefEqProofs (disch := omega) only [go_sem]; rfl) : P := e ▸ h
theorem zr0 {P Q : Prop} (h : Q) (e : P = Q := by simp -implicitDefEqProofs only [go_sem]; rfl) : P := e ▸ h
theorem qK0 {P Q : Prop} (h : Q) (e : P = Q := by simp -implicitDefEqProofs (disch := omega) only [go_sem, hn, hm1]; rfl) : P := e ▸ h
theorem jj0 {P Q : Prop} (h : Q) (e : P = Q := by simp -implicitDefEqProofs (disch := omega) only [go_sem, Tm.enc]; rfl) : P := e ▸ h
theorem fC0 {P Q : Prop} (h : Q) (e : P = Q := by simp -implicitDefEqProofs only [go_sem, Tm.enc]; rfl) : P := e ▸ h
theorem nZ0 {P Q : Prop} (h : Q) (e : P = Q := by simp -implicitDefEqProofs (disch := omega) only [go_sem, we_ne, hn, hm1]; rfl) : P := e ▸ h
theorem na0 {P Q : Prop} (h : Q) (e : P = Q := by simp -implicitDefEqProofs only [go_sem, hn]; rfl) : P := e ▸ h
theorem xE0 {P Q : Prop} (h : Q) (e : P = Q := by simp -implicitDefEqProofs (disch := omega) only [go_sem, hg, hlt, enc_len]; rfl) : P := e ▸ h
theorem da0 {P Q : Prop} (h : Q) (e : P = Q := by simp -implicitDefEqProofs (disch := omega) only [go_sem, List.length_map]; rfl) : P := e ▸ h
theorem fD0 {P Q : Prop} (h : Q) (e : P = Q := by simp -implicitDefEqProofs (disch := omega) only [go_sem, hg, hlt, List.length_map]; rfl) : P := e ▸ h
theorem pp1 {P Q : Prop} (h : Q) (e : P = Q := by simp -implicitDefEqProofs (disch := omega) only [go_sem, h1m]; rfl) : P := e ▸ h
theorem fr0 {P Q : Prop} (h : Q) (e : P = Q := by simp -implicitDefEqProofs (disch := omega) only [go_sem, hn]; rfl) : P := e ▸ h
theorem lA0 {P Q : Prop} (h : Q) (e : P = Q := by simp -implicitDefEqProofs (disch := omega) only [go_sem, hgd, hlt, List.length_map]; rfl) : P := e ▸ h
theorem kM1 {P Q : Prop} (h : Q) (e : P = Q := by simp -implicitDefEqProofs only [go_sem, we_ne, hn]; rfl) : P := e ▸ h
theorem jJ1 {P Q : Prop} (h : Q) (e : P = Q := by simp -implicitDefEqProofs (disch := omega) only [go_sem, hd]; rfl) : P := e ▸ h
theorem lB0 {P Q : Prop} (h : Q) (e : P = Q := by simp -implicitDefEqProofs (disch := omega) only [go_sem, hde]; rfl) : P := e ▸ h
theorem mD0 {P Q : Prop} (h : Q) (e : P = Q := by simp -implicitDefEqProofs (disch := omega) only [go_sem, Nat.not_lt.2 hge, List.length_map]; rfl) : P := e ▸ h
theorem jK1 {P Q : Prop} (h : Q) (e : P = Q := by simp -implicitDefEqProofs only [go_sem, List.length_map]; rfl) : P := e ▸ h
theorem xy1 {P Q : Prop} (h : Q) (e : P = Q := by simp -implicitDefEqProofs only [go_sem, nex10, nex11, nex12, nex13, nex14, nex15, nex16, nex17]; rfl) : P := e ▸ h
theorem jL1 {P Q : Prop} (h : Q) (e : P = Q := by simp -implicitDefEqProofs (disch := omega) only [go_sem, hg, hlt]; rfl) : P := e ▸ h
theorem jM1 {P Q : Prop} (h : Q) (e : P = Q := by simp -implicitDefEqProofs (disch := omega) only [go_sem, List.getElem?_cons_succ, List.getElem?_cons_zero]; rfl) : P := e ▸ h
theorem jN1 {P Q : Prop} (h : Q) (e : P = Q := by simp -implicitDefEqProofs (disch := omega) only [go_sem, Nat.lt_irrefl, List.length_map]; rfl) : P := e ▸ h
theorem xz1 {P Q : Prop} (h : Q) (e : P = Q := by simp -implicitDefEqProofs (disch := omega) only [go_sem, GOp.enc, encS, encL, List.cons_append, List.nil_append]; rfl) : P := e ▸ h
theorem pA1 {P Q : Prop} (h : Q) (e : P = Q := by simp -implicitDefEqProofs (disch := omega) only [go_sem, we_ne, hn, hm1, nex30, nex31]; rfl) : P := e ▸ h
theorem xK1 {P Q : Prop} (h : Q) (e : P = Q := by simp -implicitDefEqProofs (disch := omega) only [go_sem, Nat.not_lt.2 hge]; rfl) : P := e ▸ h
theorem xL1 {P Q : Prop} (h : Q) (e : P = Q := by simp -implicitDefEqProofs (disch := omega) only [go_sem, Nat.lt_irrefl]; rfl) : P := e ▸ h
theorem dq1 {P Q : Prop} (h : Q) (e : P = Q := by simp -implicitDefEqProofs (disch := omega) only [go_sem, hdl]; rfl) : P := e ▸ h
theorem fk1 {P Q : Prop} (h : Q) (e : P = Q := by simp -implicitDefEqProofs (disch := omega) only [go_sem, List.length_nil, List.length_cons, c0, c1, c2, Int.reduceEq, Int.reduceLT, Int.reduceLE, Int.reduceToNat, Int.reduceBEq]; rfl) : P := e ▸ h
theorem fl1 {P Q : Prop} (h : Q) (e : P = Q := by simp -implicitDefEqProofs (disch := omega) only [go_sem, hg, hg', hlt, hlt', enc_len, List.length_map]; rfl) : P := e ▸ h
theorem pB1 {P Q : Prop} (h : Q) (e : P = Q := by simp -implicitDefEqProofs only [go_sem, List.getElem?_cons_succ, List.getElem?_cons_zero, rowsOf_toC]; rfl) : P := e ▸ h
theorem dr1 {P Q : Prop} (h : Q) (e : P = Q := by simp -implicitDefEqProofs (disch := omega) only [go_sem, hgd, hlt, List.length_map, List.length_take, hml]; rfl) : P := e ▸ h
theorem dt1 {P Q : Prop} (h : Q) (e : P = Q := by simp -implicitDefEqProofs (disch := omega) only [go_sem, List.length_map, hnx]; rfl) : P := e ▸ h
theorem du1 {P Q : Prop} (h : Q) (e : P = Q := by simp -implicitDefEqProofs (disch := omega) only [go_sem, Tm.enc, hnx]; rfl) : P := e ▸ h
theorem tE1 {P Q : Prop} (h : Q) (e : P = Q := by simp -implicitDefEqProofs (disch := omega) only [go_sem, hnx]; rfl) : P := e ▸ h
theorem dv1 {P Q : Prop} (h : Q) (e : P = Q := by simp -implicitDefEqProofs (disch := omega) only [go_sem, List.length_map, hhp]; rfl) : P := e ▸ h
theorem pq1 {P Q : Prop} (h : Q) (e : P = Q := by simp -implicitDefEqProofs (disch := omega) only [go_sem, Nat.lt_irrefl, List.take_length]; rfl) : P := e ▸ h
theorem pr1 {P Q : Prop} (h : Q) (e : P = Q := by simp -implicitDefEqProofs (disch := omega) only [go_sem, Tm.enc, hdl]; rfl) : P := e ▸ h
theorem ps1 {P Q : Prop} (h : Q) (e : P = Q := by simp -implicitDefEqProofs (disch := omega) only [go_sem, ei, hg, hlt, List.length_map]; rfl) : P := e ▸ h
theorem dw1 {P Q : Prop} (h : Q) (e : P = Q := by simp -implicitDefEqProofs (disch := omega) only [go_sem, Tm.enc, List.length_map]; rfl) : P := e ▸ h
theorem nV1 {P Q : Prop} (h : Q) (e : P = Q := by simp -implicitDefEqProofs (disch := omega) only [go_sem, h1m, nex40, nex41, nex42, nex43, nex44]; rfl) : P := e ▸ h
theorem dx1 {P Q : Prop} (h : Q) (e : P = Q := by simp -implicitDefEqProofs (disch := omega) only [go_sem, hlt, ← hb]; rfl) : P := e ▸ h
theorem dy1 {P Q : Prop} (h : Q) (e : P = Q := by simp -implicitDefEqProofs only [go_sem, GOp.enc, encS, encL, List.cons_append, List.nil_append]; rfl) : P := e ▸ h
theorem fm1 {P Q : Prop} (h : Q) (e : P = Q := by simp -implicitDefEqProofs (disch := omega) only [go_sem, Tm.enc, hse]; rfl) : P := e ▸ h
theorem nW1 {P Q : Prop} (h : Q) (e : P = Q := by simp -implicitDefEqProofs only [go_sem, Tm.enc, List.length_map, hgr, hj]; rfl) : P := e ▸ h
theorem dz1 {P Q : Prop} (h : Q) (e : P = Q := by simp -implicitDefEqProofs (disch := omega) only [go_sem, Option.getD_none, Option.isSome_none, zeroT, Tm.enc, Tm.encs]; rfl) : P := e ▸ h
theorem gA1 {P Q : Prop} (h : Q) (e : P = Q := by simp -implicitDefEqProofs (disch := omega) only [go_sem, Option.getD_some, Option.isSome_some, Tm.enc]; rfl) : P := e ▸ h
theorem nX1 {P Q : Prop} (h : Q) (e : P = Q := by simp -implicitDefEqProofs (disch := omega) only [go_sem, List.length_map, Tm.enc]; rfl) : P := e ▸ h
theorem nY1 {P Q : Prop} (h : Q) (e : P = Q := by simp -implicitDefEqProofs (disch := omega) only [go_sem, hrn, List.length_map, List.map_nil, List.length_nil]; rfl) : P := e ▸ h
theorem fn1 {P Q : Prop} (h : Q) (e : P = Q := by simp -implicitDefEqProofs only [go_sem, GGuard.enc, Tm.enc, encI, List.cons_append, List.nil_append]; rfl) : P := e ▸ h
theorem nZ1 {P Q : Prop} (h : Q) (e : P = Q := by simp -implicitDefEqProofs (disch := omega) only [go_sem, GGuard.enc, Tm.enc, encI, List.cons_append, List.nil_append]; rfl) : P := e ▸ h
theorem na1 {P Q : Prop} (h : Q) (e : P = Q := by simp -implicitDefEqProofs (disch := omega) only [go_sem, GDefinition.enc, GSignature.enc, Tm.enc, encS, encL, List.cons_append, List.nil_append]; rfl) : P := e ▸ h
theorem gB1 {P Q : Prop} (h : Q) (e : P = Q := by simp -implicitDefEqProofs (disch := omega) only [go_sem, hg, hg', hlt, hlt']; rfl) : P := e ▸ h
theorem gC1 {P Q : Prop} (h : Q) (e : P = Q := by simp -implicitDefEqProofs only [go_sem, List.getElem?_cons_succ, List.getElem?_cons_zero]; rfl) : P := e ▸ h
theorem gD1 {P Q : Prop} (h : Q) (e : P = Q := by simp -implicitDefEqProofs (disch := omega) only [go_sem, hlr, Nat.lt_irrefl, List.length_nil, List.length_cons, List.take_length]; rfl) : P := e ▸ h
theorem gE1 {P Q : Prop} (h : Q) (e : P = Q := by simp -implicitDefEqProofs (disch := omega) only [go_sem, hlr, Nat.lt_irrefl, List.length_nil, List.length_cons, c0, c1, c2, Int.reduceEq, Int.reduceLT, Int.reduceLE, Int.reduceToNat, Int.reduceBEq, drowsOf_len, List.take_length, Tm.enc, Tm.encs]; rfl) : P := e ▸ h
theorem gF1 {P Q : Prop} (h : Q) (e : P = Q := by simp -implicitDefEqProofs only [go_sem, Tm.enc, GDefinition.enc, GSignature.enc, encL, List.cons_append, List.nil_append]; rfl) : P := e ▸ h
theorem gG1 {P Q : Prop} (h : Q) (e : P = Q := by simp -implicitDefEqProofs (disch := omega) only [go_sem, GRule.enc, Tm.enc, encS, encL, List.cons_append, List.nil_append]; rfl) : P := e ▸ h
theorem gH1 {P Q : Prop} (h : Q) (e : P = Q := by simp -implicitDefEqProofs (disch := omega) only [go_sem, zeroT, Tm.enc, Tm.encs]; rfl) : P := e ▸ h
theorem nb1 {P Q : Prop} (h : Q) (e : P = Q := by simp -implicitDefEqProofs (disch := omega) only [go_sem, List.length_map, hg, hi, enc_len]; rfl) : P := e ▸ h
theorem nc1 {P Q : Prop} (h : Q) (e : P = Q := by simp -implicitDefEqProofs (disch := omega) only [go_sem, Tm.enc, hg, hlt]; rfl) : P := e ▸ h
theorem nd1 {P Q : Prop} (h : Q) (e : P = Q := by simp -implicitDefEqProofs (disch := omega) only [go_sem, Tm.enc, hg, hlt, hln]; rfl) : P := e ▸ h
theorem ne1 {P Q : Prop} (h : Q) (e : P = Q := by simp -implicitDefEqProofs (disch := omega) only [go_sem, hsn, rowsOf_toC, Tm.enc, rowsOf_len]; rfl) : P := e ▸ h
theorem nf1 {P Q : Prop} (h : Q) (e : P = Q := by simp -implicitDefEqProofs (disch := omega) only [go_sem, hlr, Nat.lt_irrefl, List.length_nil, List.length_cons, hr', Tm.enc, Tm.encs]; rfl) : P := e ▸ h
theorem ng1 {P Q : Prop} (h : Q) (e : P = Q := by simp -implicitDefEqProofs (disch := omega) only [go_sem, hlr, Nat.lt_irrefl, List.length_nil, List.length_cons, hr', List.take_length, Tm.enc, encs_map, List.map_cons]; rfl) : P := e ▸ h
theorem rt1 {P Q : Prop} (h : Q) (e : P = Q := by simp -implicitDefEqProofs (disch := omega) only [go_sem, hlr, Nat.lt_irrefl, List.length_nil, List.length_cons, c0, c1, c2, Int.reduceEq, Int.reduceLT, Int.reduceLE, Int.reduceToNat, Int.reduceBEq, drowsOf_len, List.take_length, Tm.enc, Tm.encs, g0, hb]; rfl) : P := e ▸ h
theorem ru1 {P Q : Prop} (h : Q) (e : P = Q := by simp -implicitDefEqProofs (disch := omega) only [go_sem, hlr, Nat.lt_irrefl, List.length_nil, List.length_cons, c0, c1, c2, Int.reduceEq, Int.reduceLT, Int.reduceLE, Int.reduceToNat, Int.reduceBEq, drowsOf_len, List.take_length, Tm.enc, Tm.encs, g0]; rfl) : P := e ▸ h
theorem nh1 {P Q : Prop} (h : Q) (e : P = Q := by simp -implicitDefEqProofs (disch := omega) only [go_sem, List.length_nil, List.length_cons, c0, c1, c2, Int.reduceEq, Int.reduceLT, Int.reduceLE, Int.reduceToNat, Int.reduceBEq, drowsOf_len, g0, g1, Tm.enc, Tm.encs]; rfl) : P := e ▸ h
theorem ni1 {P Q : Prop} (h : Q) (e : P = Q := by simp -implicitDefEqProofs (disch := omega) only [go_sem, Option.getD_some, Option.isSome_some, GOp.enc, encS, encL, List.cons_append, List.nil_append]; rfl) : P := e ▸ h
theorem rv1 {P Q : Prop} (h : Q) (e : P = Q := by simp -implicitDefEqProofs only [go_sem, Int.reduceToNat, Int.reduceLE, Int.reduceLT, decide_true, Bool.and_self, Int.cast_ofNat_Int]; rfl) : P := e ▸ h
theorem nj1 {P Q : Prop} (h : Q) (e : P = Q := by simp -implicitDefEqProofs (disch := omega) only [go_sem, GDefinition.enc, GSignature.enc, encL, List.cons_append, List.nil_append, List.append_nil]; rfl) : P := e ▸ h
theorem rw1 {P Q : Prop} (h : Q) (e : P = Q := by simp -implicitDefEqProofs (disch := omega) only [go_sem, Tm.enc, hgr, hj, hst, rowsOf_len, List.length_map, hll, ei, hg, rowsOf_toC, take_snoc]; rfl) : P := e ▸ h
theorem c0' {Q : Prop} (h : Sat P fid ds r) (hk : Q) (e : κ.default ((s.frzs (vs.flatMap AV.owns)).set d r) = Q := by simp -implicitDefEqProofs (disch := omega) only [go_sem]; rfl) : @CallK P tab x fid True ds vs d s κ := CallK.mk h (e ▸ hk)
theorem c5' {Q : Prop} (h : Sat P fid ds r) (hk : Q) (e : κ.default ((s.frzs (vs.flatMap AV.owns)).set d r) = Q := by simp -implicitDefEqProofs (disch := omega) only [go_sem, Tm.enc]; rfl) : @CallK P tab x fid True ds vs d s κ := CallK.mk h (e ▸ hk)
theorem c7' {Q : Prop} (h : Sat P fid ds r) (hk : Q) (e : κ.default ((s.frzs (vs.flatMap AV.owns)).set d r) = Q := by simp -implicitDefEqProofs only [go_sem, Tm.enc]; rfl) : @CallK P tab x fid True ds vs d s κ := CallK.mk h (e ▸ hk)
theorem c8' {Q : Prop} (h : Sat P fid ds r) (hk : Q) (e : κ.default ((s.frzs (vs.flatMap AV.owns)).set d r) = Q := by simp -implicitDefEqProofs only [go_sem]; rfl) : @CallK P tab x fid True ds vs d s κ := CallK.mk h (e ▸ hk)
theorem jm1 {Q : Prop} (h : Sat P fid ds r) (hk : Q) (e : κ.default ((s.frzs (vs.flatMap AV.owns)).set d r) = Q := by simp -implicitDefEqProofs (disch := omega) only [go_sem, List.length_map]; rfl) : @CallK P tab x fid True ds vs d s κ := CallK.mk h (e ▸ hk)
theorem xw1 {Q : Prop} (h : Sat P fid ds r) (hk : Q) (e : κ.default ((s.frzs (vs.flatMap AV.owns)).set d r) = Q := by simp -implicitDefEqProofs (disch := omega) only [go_sem, hnx]; rfl) : @CallK P tab x fid True ds vs d s κ := CallK.mk h (e ▸ hk)
theorem pU1 {Q : Prop} (h : Sat P fid ds r) (hk : Q) (e : κ.default ((s.frzs (vs.flatMap AV.owns)).set d r) = Q := by simp -implicitDefEqProofs (disch := omega) only [go_sem, hgd, hlt, List.length_map]; rfl) : @CallK P tab x fid True ds vs d s κ := CallK.mk h (e ▸ hk)
theorem CallK.bor (h : Sat P fid ds r) (hp : jH0 r = true) (hk : κ.default (s.set d r)) : @CallK P tab x fid nt ds vs d s κ := .inr (.inl ⟨r, h, hp, hk⟩)
theorem CallK.own {t : Tmp} (h : SatF P fid ds r) (hf : s.lb t = none) (hk : κ.default ((s.put t (.tok (flR r))).set (some t) (tkR t r))) : @CallK P tab x fid nt ds vs (some t) s κ := .inr (.inr (.inl ⟨r, t, h, rfl, hf, hk⟩))
theorem CallK.outN {t : Tmp} {e : TypeId} {sz : Nat} {rows : List (List AC)} (h : SatO P fid ds e sz rows r) (hno : vs.flatMap AV.owns = []) (hf : s.lb t = none)
  (hk : κ.default ((s.put t (.arr e sz rows false)).set (some t) (mE0 t r))) : @CallK P tab x fid True ds vs (some t) s κ := .inr (.inr (.inr (.inl ⟨trivial, hno, e, sz, rows, r, t, h, rfl, hf, hk⟩)))
theorem CallK.newN {t : Tmp} {cells : List AC} (h : kv1 P fid ds cells) (hno : vs.flatMap AV.owns = []) (hf : s.lb t = none)
  (hk : κ.default ((s.put t (.var cells)).set (some t) (.one (.ptr t 0)))) : @CallK P tab x fid True ds vs (some t) s κ := .inr (.inr (.inr (.inr (.inr (.inl ⟨trivial, hno, cells, t, h, rfl, hf, hk⟩)))))
theorem CallK.new {t : Tmp} {cells : List AC} (hx : x = true) (h : kv1 P fid ds cells) (hno : vs.flatMap AV.owns = []) (hf : s.lb t = none)
  (hk : κ.default ((s.put t (.var cells)).set (some t) (.one (.ptr t 0)))) : @CallK P tab x fid True ds vs (some t) s κ := CallK.newN h hno hf hk
theorem CallK.sem {s' : St} (hx : x = true) (h : nN1 P tab fid nt ds vs d s s') (hk : κ.default s') : @CallK P tab x fid nt ds vs d s κ := .inr (.inr (.inr (.inr (.inr (.inr ⟨hx, s', h, hk⟩)))))
theorem CallK.accD {t : Tmp} {e : TypeId} {sz : Nat} {rows rows' : List (List AC)} {rest : List AV} (j : Nat) (hx : x = true) (h : cI0 P fid (ds.take j) (ds.drop (j + 1)) e sz rows rows' rest) (ha : jG1 vs j e sz rows s) (hf : s.lb t = none)
  (hk : κ.default (((yS0 vs j s).put t (.arr e sz rows' false)).set (some t) (jV1 t rows'.length rest))) : @CallK P tab x fid True ds vs (some t) s κ :=
 CallK.sem hx (fun o args ts f hop hfn hvs hd hdst _ hv => ⟨qU0 hop, fun _ w0 M0 F0 F g a w hs K Q hK => mH0 hs ⟨⟨.value f, args, ts⟩, f, fid, ds, j, e, sz, rows, rows', rest, t, hop, rfl, hfn, by rw [hd]; exact hdst, by rw [hvs]; exact hv trivial, h, by rw [hvs]; exact ha, hd, hf, by rw [hvs, hd]⟩ hK⟩) hk
theorem CallK.acc {t : Tmp} {e : TypeId} {sz : Nat} {rows rows' : List (List AC)} {rest : List AV} (j : Nat) (h : cI0 P fid (ds.take j) (ds.drop (j + 1)) e sz rows rows' rest) (ha : jG1 vs j e sz rows s) (hf : s.lb t = none)
  (hk : κ.default (((yS0 vs j s).put t (.arr e sz rows' false)).set (some t) (jV1 t rows'.length rest))) : @CallK P tab true fid True ds vs (some t) s κ := CallK.accD j rfl h ha hf hk
theorem CallK.outD {t : Tmp} {e : TypeId} {sz : Nat} {rows : List (List AC)} (hx : x = true) (h : SatO P fid ds e sz rows r) (hf : s.lb t = none)
  (hk : κ.default (((s.frzs (vs.flatMap AV.owns)).put t (.arr e sz rows false)).set (some t) (mE0 t r))) : @CallK P tab x fid True ds vs (some t) s κ :=
 CallK.sem hx (fun o args ts f hop hfn hvs hd hdst _ hv => ⟨qU0 hop, fun _ w0 M0 F0 F g a w hs K Q hK => mN0 hs ⟨⟨.value f, args, ts⟩, f, fid, ds, e, sz, rows, r, t, hop, rfl, hfn, by rw [hd]; exact hdst, by rw [hvs]; exact hv trivial, h, hd, hf, by rw [hvs, hd]⟩ hK⟩) hk
theorem CallK.out {t : Tmp} {e : TypeId} {sz : Nat} {rows : List (List AC)} (h : SatO P fid ds e sz rows r) (hf : s.lb t = none)
  (hk : κ.default (((s.frzs (vs.flatMap AV.owns)).put t (.arr e sz rows false)).set (some t) (mE0 t r))) : @CallK P tab true fid True ds vs (some t) s κ := CallK.outD rfl h hf hk
theorem CallK.lost {e : TypeId} {sz : Nat} {rows : List (List AC)} {rest : List AV} (j : Nat) (hx : x = true) (h : jF1 P fid (ds.take j) (ds.drop (j + 1)) e sz rows rest) (ha : jG1 vs j e sz rows s)
  (hk : κ.default ((yS0 vs j s).set d (wk1 rest))) : @CallK P tab x fid True ds vs d s κ :=
 CallK.sem hx (fun o args ts f hop hfn hvs hd hdst _ hv => ⟨qU0 hop, fun _ w0 M0 F0 F g a w hs K Q hK => mM0 hs ⟨⟨.value f, args, ts⟩, f, fid, ds, j, e, sz, rows, rest, hop, rfl, hfn, by rw [hd]; exact hdst, by rw [hvs]; exact hv trivial, h, by rw [hvs]; exact ha, by rw [hvs, hd]⟩ hK⟩) hk
theorem CallK.shown {e : TypeId} {sz : Nat} {rows : List (List AC)} (j : Nat) (hx : x = true) (h : fZ1 P fid (ds.take j) (ds.drop (j + 1)) e sz rows r) (ha : jG1 vs j e sz rows s)
  (hk : κ.default (s.set d r)) : @CallK P tab x fid True ds vs d s κ :=
 CallK.sem hx (fun o args ts f hop hfn hvs hd hdst _ hv => ⟨qU0 hop, fun _ w0 M0 F0 F g a w hs K Q hK => mS0 hs ⟨⟨.value f, args, ts⟩, f, fid, ds, j, e, sz, rows, r, hop, rfl, hfn, by rw [hd]; exact hdst, by rw [hvs]; exact hv trivial, h, by rw [hvs]; exact ha, by rw [hd]⟩ hK⟩) hk
theorem CallK.give {t : Tmp} {y : C} (j : Nat) (hx : x = true) (h : fY1 P fid (ds.take j) (ds.drop (j + 1)) y r) (ha : vu1 vs j y s) (hf : s.lb t = none)
  (hk : κ.default (((yS0 vs j s).put t (.tok (flR r))).set (some t) (tkR t r))) : @CallK P tab x fid True ds vs (some t) s κ :=
 CallK.sem hx (fun o args ts f hop hfn hvs hd hdst _ hv => ⟨qU0 hop, fun _ w0 M0 F0 F g a w hs K Q hK => mK0 hs ⟨⟨.value f, args, ts⟩, f, fid, ds, j, y, r, t, hop, rfl, hfn, by rw [hd]; exact hdst, by rw [hvs]; exact hv trivial, h, by rw [hvs]; exact ha, hd, hf, by rw [hvs, hd]⟩ hK⟩) hk
theorem CallK.accF {t : Tmp} {e : TypeId} {sz : Nat} {rows rows' : List (List AC)} {rest : List AV} (j : Nat) (hx : x = true) (h : cI0 P fid (ds.take j) (ds.drop (j + 1)) e sz rows rows' rest) (ha : Ai.accF vs j e sz rows s) (hf : s.lb t = none)
  (hk : κ.default (((yS0 vs j (s.frzs (qO0 vs j))).put t (.arr e sz rows' false)).set (some t) (jV1 t rows'.length rest))) : @CallK P tab x fid True ds vs (some t) s κ :=
 CallK.sem hx (fun o args ts f hop hfn hvs hd hdst _ hv => ⟨qU0 hop, fun _ w0 M0 F0 F g a w hs K Q hK => dj0 hs ⟨⟨.value f, args, ts⟩, f, fid, ds, j, e, sz, rows, rows', rest, t, hop, rfl, hfn, by rw [hd]; exact hdst, by rw [hvs]; exact hv trivial, h, by rw [hvs]; exact ha, hd, hf, by rw [hvs, hd]⟩ hK⟩) hk
theorem qm1 {args : List AV} {Bs Bs' : List LB} {ls ns : List Nat} (h : qy0 P fid args Bs Bs' r) (ha : mB0 vs args Bs Bs' ls ns s) {o : Oper} {as : Array Operand} {ts : Array TypeId} {f : Operand} (hop : o.op = .call ⟨.value f, as, ts⟩) (hfn : xY0 (opv s f) = some fid) (hvs : as.toList.map (opv s) = vs) (hd : o.dst = d) (hdst : ∀ t, d = some t → t < s.n) : dd0 P tab o s (bW0 vs args Bs' r ls ns s d) := by
 obtain ⟨c1, c2, c3, c4, c5⟩ := ha
 exact ⟨qU0 hop, fun _ w0 M0 F0 F g a w hs K Q hK => pV0 hs ⟨⟨.value f, as, ts⟩, f, fid, args, Bs, Bs', r, ls, ns, hop, rfl, hfn, by rw [hd]; exact hdst, h, c1, c2, by rw [hvs]; exact cW0 c3, c4, c5, by rw [hvs, hd]⟩ hK⟩
theorem CallK.con {args : List AV} {Bs Bs' : List LB} (ls ns : List Nat) (hx : x = true) (h : qy0 P fid args Bs Bs' r) (ha : mB0 vs args Bs Bs' ls ns s)
  (hk : κ.default (bW0 vs args Bs' r ls ns s d)) : @CallK P tab x fid nt ds vs d s κ := CallK.sem hx (fun _ _ _ _ hop hfn hvs hd hdst _ _ => qm1 h ha hop hfn hvs hd hdst) hk
end
def jQ1 (P : Program) (c : Code) (s : St) [q : Qn] : Prop := wj1 P c q.default s
def yh0 (x : Option (Prop × Eff)) (d : Option Tmp) (s : St) [κ : Kn] : Prop :=
 match x with
 | some (p, e) => p ∧ pg0 e d s ∧ (p → κ.default (e.app d s))
 | none => False
abbrev An := Inhabited (Kn → Prop)
def xS1 (x : Option (Prop × Eff)) (d : Option Tmp) (s : St) [κ : Kn] [α : An] : Prop :=
 match x with
 | some (p, e) => p ∧ pg0 e d s ∧ (p → κ.default (e.app d s))
 | none => α.default κ
def bQ1 (x : Bool) (r : Option (Prop × St)) (d : Option Tmp) (s : St) (κ : Kn) : Prop :=
 x = true ∧ match r with
 | some (p, s') => p ∧ dOk d s ∧ (p → κ.default s')
 | none => False
def CloK (P : Program) (x : Bool) (fid : FuncId) (p : Prop) (ds : List AV) (d : Option Tmp) (s : St) [κ : Kn] : Prop := x = true ∧ p ∧ dOk d s ∧ ∃ r, Sat P fid ds r ∧ jH0 r = true ∧ κ.default (s.set d r)
theorem CloK.mk {x : Bool} {fid : FuncId} {p : Prop} {ds : List AV} {d : Option Tmp} {s : St} {κ : Kn} {r : AV} (h : Sat P fid ds r) (hx : x = true) (hp : p) (hd : dOk d s) (hr : jH0 r = true) (hk : κ.default (s.set d r)) : @CloK P x fid p ds d s κ := ⟨hx, hp, hd, r, h, hr, hk⟩
def SelfK (P : Program) (fid : FuncId) (ds : List AV) (d : Option Tmp) (s : St) [κ : Kn] : Prop := ∃ r, Sat P fid ds r ∧ jH0 r = true ∧ κ.default (s.set d r)
theorem SelfK.mk {fid : FuncId} {ds : List AV} {d : Option Tmp} {s : St} {κ : Kn} {r : AV} (h : Sat P fid ds r) (hr : jH0 r = true) (hk : κ.default (s.set d r)) : @SelfK P fid ds d s κ := ⟨r, h, hr, hk⟩
def LoanK (P : Program) (tab : Tab) (x : Bool) (fid : FuncId) (ds1 ds2 vs : List AV) (d : Option Tmp) (s : St) [κ : Kn] : Prop := pW1 P tab x fid ds1 ds2 vs d s κ.default
theorem LoanK.mk {x : Bool} {fid : FuncId} {ds1 ds2 vs : List AV} {d : Option Tmp} {s : St} {κ : Kn} {r : AV} {B B' : LB} (h : bO1 P fid ds1 ds2 B B' r) (hx : x = true) (ha : kK1 vs (jJ0 vs) B s)
  (hk : κ.default (((s.frzs (qO0 vs (jJ0 vs))).put (gs0 vs (jJ0 vs)) B').set d r)) : @LoanK P tab x fid ds1 ds2 vs d s κ :=
 ⟨hx, _, fun o args ts f hop hfn hvs hd hdst v1 v2 => ⟨qU0 hop, fun _ w0 M0 F0 F g a w hs K Q hK => mO0 hs ⟨⟨.value f, args, ts⟩, f, fid, jJ0 vs, _, _, B, B', r, hop, rfl, hfn, by rw [hd]; exact hdst, by rw [hvs]; exact v1, by rw [hvs]; exact v2, h, by rw [hvs]; exact ha, by rw [hvs, hd]⟩ hK⟩, hk⟩
theorem LoanK.con {x : Bool} {fid : FuncId} {ds1 ds2 vs : List AV} {d : Option Tmp} {s : St} {κ : Kn} {r : AV} {args : List AV} {Bs Bs' : List LB} (ls ns : List Nat) (h : qy0 P fid args Bs Bs' r) (hx : x = true) (ha : mB0 vs args Bs Bs' ls ns s)
  (hk : κ.default (bW0 vs args Bs' r ls ns s d)) : @LoanK P tab x fid ds1 ds2 vs d s κ := ⟨hx, _, fun _ _ _ _ hop hfn hvs hd hdst _ _ => qm1 h ha hop hfn hvs hd hdst, hk⟩
def bT0 (P : Program) (tab : Tab) (x : Bool) (fid : Option FuncId) (vs : List AV) (d : Option Tmp) (s : St) [κ : Kn] : Prop :=
 match fid with
 | none => False
 | some fid => if gZ0 vs = true then pG0 s.lb (vs.take (jJ0 vs)) ∧ pG0 s.lb (vs.drop (jJ0 vs + 1)) ∧ dOk d s ∧ @LoanK P tab x fid (dc0 s.lb (vs.take (jJ0 vs))) (dc0 s.lb (vs.drop (jJ0 vs + 1))) vs d s κ else if gY0 vs = true then @CloK P x fid (tn0 s.lb vs) (pH1 s.lb vs) d s κ else cv0 s.lb vs ∧ dOk d s ∧ CallK P tab x fid (bk0 vs) (dc0 s.lb vs) vs d s
def dv0 (P : Program) (tab : Tab) (x : Bool) (fv : AV) (vs : List AV) (d : Option Tmp) (s : St) [κ : Kn] : Prop :=
 match fv with
 | .one (.clo fid caps) => x = true ∧ cv0 s.lb vs ∧ dOk d s ∧ fu0 caps ∧ @SelfK P fid (dc0 s.lb vs ++ caps.map .one) d s κ
 | fv => @bT0 P tab x (xY0 fv) vs d s κ
def gE0 (v : AV) (s : St) [p : Kn] [q : Kn] : Prop :=
 match v with
 | .one (.c (.v (.bool t))) => (t = true → p.default s) ∧ (t = false → q.default s)
 | _ => False
def jM0 (d : Tmp) (v : AV) (wnt : Bool) (s : St) [p : Kn] [q : Kn] : Prop :=
 match v with
 | .one (.c (.v (.bool x))) => (x = wnt → p.default (s.set (some d) (.one (.c (.v (.bool wnt)))))) ∧ (x = (!wnt) → q.default (s.set (some d) (.one (.c (.v (.bool (!wnt)))))))
 | .tup [] => q.default s
 | _ => False
def vk1 (ops : Array Oper) (j : Nat) : Option Tmp := (ops[j]?).bind (·.dst)
def xs1 (d : Option Tmp) (wnt : Bool) (s : St) [p : Kn] [q : Kn] : Prop :=
 match d with
 | none => False
 | some d => @jM0 d (s.sl d) wnt s p q
def bF0 (P : Program) (tab : Tab) (x : Bool) (ops : Array Oper) (l : List Oper) (s : St) [κ : Kn] : Prop := zv1 P tab x ops l s κ.default
section eqs
variable {s : St} {k : St → Prop} {Q : Exit → St → Prop} {κ κ' : Kn}
theorem tF0 : qn0 P tab .skip Q s = Q .normal s := rfl
theorem gC0 {id : Nat} {ops : Array Oper} : qn0 P tab (.region id ops false) Q s = @bF0 P tab true ops ops.toList s ⟨Q .normal⟩ := rfl
theorem cV0 {id : Nat} {ops : Array Oper} : qn0 P tab (.region id ops true) Q s = @bF0 P tab (yr0 ops) ops ops.toList s ⟨Q .normal⟩ := rfl
theorem qi1 {a b : Code} : qn0 P tab (.seq a b) Q s = qn0 P tab a (xS0 (qn0 P tab b Q) Q) s := rfl
theorem tC0 {c : Operand} {a b : Code} : qn0 P tab (.cond c a b) Q s = @gE0 (opv s c) s ⟨fun s => qn0 P tab a Q s⟩ ⟨fun s => qn0 P tab b Q s⟩ := rfl
theorem mc0 {id : Nat} {c : Code} : qn0 P tab (.block id c) Q s = qn0 P tab c (ji0 id Q) s := rfl
theorem tD0 {id : Nat} : qn0 P tab (.exit id) Q s = Q (.exit id) s := rfl
theorem qh1 : qn0 P tab .ret Q s = Q .ret s := rfl
theorem tE0 {c : Code} : qn0 P tab (.loop c) Q s = @jQ1 P c s ⟨Q⟩ := rfl
theorem lp0 : xS0 k Q .normal s = k s := rfl
theorem zp1 {id : Nat} : xS0 k Q (.exit id) s = Q (.exit id) s := rfl
theorem yr1 : xS0 k Q .ret s = Q .ret s := rfl
theorem cP0 {id : Nat} : ji0 id Q .normal s = Q .normal s := rfl
theorem ss0 {id : Nat} : ji0 id Q .ret s = Q .ret s := rfl
theorem mV0 {id : Nat} : ji0 id Q (.exit id) s = Q .normal s := by simp [ji0]
theorem ka1 {rs : List ResultVar} {r : AV} : kY1 tab rs r .ret s = xa1 tab rs r s := rfl
theorem yS1 {rs : List ResultVar} {ds : List AV} : zP1 tab rs ds .ret s = zQ1 tab rs ds s := rfl
theorem kT1 {bx : Bool} {ops : Array Oper} : @bF0 P tab bx ops [] s κ = κ.default s := rfl
theorem kU1 {bx : Bool} {ops : Array Oper} {d : Option Tmp} {op : Op} {ty : TypeId} {pos : String} {aft : Array Edge} {os : List Oper} :
  @bF0 P tab bx ops (⟨d, op, ty, pos, aft, none⟩ :: os) s κ = vG0 P tab bx ⟨d, op, ty, pos, aft, none⟩ s (fun s' => @bF0 P tab bx ops os s' κ) := by simp [bF0, zv1, yy1]
theorem zI1 {bx : Bool} {ops : Array Oper} {d : Option Tmp} {op : Op} {ty : TypeId} {pos : String} {aft : Array Edge} {j : Nat} {wnt : Bool} {os : List Oper} :
  @bF0 P tab bx ops (⟨d, op, ty, pos, aft, some (j, wnt)⟩ :: os) s κ =
   @xs1 (vk1 ops j) wnt s ⟨fun s => vG0 P tab bx ⟨d, op, ty, pos, aft, some (j, wnt)⟩ s (fun s' => @bF0 P tab bx ops os s' κ)⟩ ⟨fun s => dOk d s ∧ @bF0 P tab bx ops os (s.set d (.tup [])) κ⟩ := by
 simp only [bF0, zv1, yy1, xs1, vk1]
 cases (ops[j]?).bind (·.dst) with
 | none => rfl
 | some t =>
  have same : ∀ v, s.sl t = v → s.set (some t) v = s := by
   intro v hv
   subst hv
   obtain ⟨n, sl, lb, gh⟩ := s
   simp only [St.set, St.mk.injEq, true_and, and_true]
   funext k
   split
   ·rename_i e; subst e; rfl
   ·rfl
  simp only [jM0, if_true, Bool.false_eq_true, if_false]
  cases hv : s.sl t with
  | one a =>
   cases a with
   | c x =>
    cases x with
    | v x =>
     cases x with
     | bool x =>
      simp only
      cases x <;> cases wnt <;> simp <;> rw [same _ hv] <;> simp [bF0]
     | _ => rfl
    | sl rows => rfl
   | _ => rfl
  | agg as => rfl
  | tup vs => cases vs <;> simp [bF0]
  | any => rfl
theorem zr1 {d : Tmp} {wnt : Bool} : @xs1 (some d) wnt s κ κ' = @jM0 d (s.sl d) wnt s κ κ' := rfl
theorem rF0 {d : Tmp} {x wnt : Bool} : @jM0 d (.one (.c (.v (.bool x)))) wnt s κ κ' = ((x = wnt → κ.default (s.set (some d) (.one (.c (.v (.bool wnt)))))) ∧ (x = (!wnt) → κ'.default (s.set (some d) (.one (.c (.v (.bool (!wnt)))))))) := rfl
theorem jD1 {d : Tmp} {wnt : Bool} : @jM0 d (.tup []) wnt s κ κ' = κ'.default s := rfl
theorem jC1 {d : Tmp} : @jM0 d (.one (.c (.v (.bool true)))) true s κ κ' = κ.default (s.set (some d) (.one (.c (.v (.bool true))))) := by simp [jM0]
theorem jB1 {d : Tmp} : @jM0 d (.one (.c (.v (.bool true)))) false s κ κ' = κ'.default (s.set (some d) (.one (.c (.v (.bool true))))) := by simp [jM0]
theorem jA1 {d : Tmp} : @jM0 d (.one (.c (.v (.bool false)))) true s κ κ' = κ'.default (s.set (some d) (.one (.c (.v (.bool false))))) := by simp [jM0]
theorem yz1 {d : Tmp} : @jM0 d (.one (.c (.v (.bool false)))) false s κ κ' = κ.default (s.set (some d) (.one (.c (.v (.bool false))))) := by simp [jM0]
theorem tN0 : @gE0 (.one (.c (.v (.bool true)))) s κ κ' = κ.default s := by simp [gE0]
theorem mf0 : @gE0 (.one (.c (.v (.bool false)))) s κ κ' = κ'.default s := by simp [gE0]
theorem tM0 {t : Bool} : @gE0 (.one (.c (.v (.bool t)))) s κ κ' = ((t = true → κ.default s) ∧ (t = false → κ'.default s)) := rfl
theorem tw0 {p : Prop} {e : Eff} {d : Option Tmp} : @yh0 (some (p, e)) d s κ = (p ∧ pg0 e d s ∧ (p → κ.default (e.app d s))) := rfl
theorem tt0 {p : Prop} {e : Eff} {d : Option Tmp} {α : An} : @xS1 (some (p, e)) d s κ α = (p ∧ pg0 e d s ∧ (p → κ.default (e.app d s))) := rfl
theorem ts0 {d : Option Tmp} {α : An} : @xS1 none d s κ α = α.default κ := rfl
theorem mY0 {x : Bool} {vs : List AV} {d : Option Tmp} {fid : FuncId} : @bT0 P tab x (some fid) vs d s κ = (if gZ0 vs = true then pG0 s.lb (vs.take (jJ0 vs)) ∧ pG0 s.lb (vs.drop (jJ0 vs + 1)) ∧ dOk d s ∧ @LoanK P tab x fid (dc0 s.lb (vs.take (jJ0 vs))) (dc0 s.lb (vs.drop (jJ0 vs + 1))) vs d s κ else if gY0 vs = true then @CloK P x fid (tn0 s.lb vs) (pH1 s.lb vs) d s κ else cv0 s.lb vs ∧ dOk d s ∧ @CallK P tab x fid (bk0 vs) (dc0 s.lb vs) vs d s κ) := rfl
theorem mZ0 {x : Bool} {vs : List AV} {d : Option Tmp} {fid : FuncId} : @dv0 P tab x (.one (.c (.v (.func (.func fid) #[] #[])))) vs d s κ = @bT0 P tab x (some fid) vs d s κ := rfl
section ops
variable {bx : Bool} {d : Option Tmp} {ty : TypeId} {pos : String} {aft : Array Edge} {g : Option (Nat × Bool)}
theorem qE1 {f : Operand} {args : Array Operand} {ts : Array TypeId} : vG0 P tab bx ⟨d, .call ⟨.value f, args, ts⟩, ty, pos, aft, g⟩ s k = @dv0 P tab bx (opv s f) (args.toList.map (opv s)) d s ⟨k⟩ := by
 simp only [vG0, vb1]
 generalize opv s f = fv
 cases hf : xY0 fv with
 | none =>
  cases fv with
  | one y =>
   cases y with
   | clo fid caps => rfl
   | _ => simp only [dv0, hf, bT0]
  | _ => simp only [dv0, hf, bT0]
 | some fid =>
  cases fv with
  | one y =>
   cases y with
   | clo f2 caps => simp [xY0] at hf
   | _ => simp only [dv0, hf, bT0]; rfl
  | _ => simp [xY0] at hf
theorem jY1 {args : Array Operand} {ts : Array TypeId} : vG0 P tab bx ⟨d, .call ⟨.builtin .len, args, ts⟩, ty, pos, aft, g⟩ s k = @yh0 (xz0 tab ⟨d, .call ⟨.builtin .len, args, ts⟩, ty, pos, aft, g⟩ s ⟨.builtin .len, args, ts⟩) d s ⟨k⟩ := rfl
theorem jZ1 {args : Array Operand} {ts : Array TypeId} : vG0 P tab bx ⟨d, .call ⟨.builtin .max, args, ts⟩, ty, pos, aft, g⟩ s k = @yh0 (xz0 tab ⟨d, .call ⟨.builtin .max, args, ts⟩, ty, pos, aft, g⟩ s ⟨.builtin .max, args, ts⟩) d s ⟨k⟩ := rfl
theorem mF0 {args : Array Operand} {ts : Array TypeId} : vG0 P tab bx ⟨d, .call ⟨.builtin .append, args, ts⟩, ty, pos, aft, g⟩ s k = @xS1 (xz0 tab ⟨d, .call ⟨.builtin .append, args, ts⟩, ty, pos, aft, g⟩ s ⟨.builtin .append, args, ts⟩) d s ⟨k⟩ ⟨bQ1 bx (xv1 tab ⟨d, .call ⟨.builtin .append, args, ts⟩, ty, pos, aft, g⟩ s) d s⟩ := rfl
theorem sd0 {t : TypeId} : vG0 P tab bx ⟨d, .alloc t, ty, pos, aft, g⟩ s k = @yh0 ((tab t).map fun ti => (True, .new (.one (.ptr (d.getD 0) 0)) (.var ti.zero))) d s ⟨k⟩ := rfl
theorem jX1 {t : TypeId} {x : Operand} : vG0 P tab bx ⟨d, .box t x, ty, pos, aft, g⟩ s k = @yh0 ((opv s x).cs.map fun cs => (True, .new (.one (.ptr (d.getD 0) 0)) (.var cs))) d s ⟨k⟩ := rfl
theorem sj0 {t : TypeId} {p x : Operand} : vG0 P tab bx ⟨d, .store t p x, ty, pos, aft, g⟩ s k = @yh0 (vg0 tab s.lb t (opv s p) (opv s x)) d s ⟨k⟩ := rfl
def zq1 (x : Option (Prop × AV)) : Option (Prop × Eff) := x.map fun (p, v) => (p, .val v)
theorem yx1 {p : Prop} {v : AV} : zq1 (some (p, v)) = some (p, .val v) := rfl
theorem qG1 {x : Operand} : vG0 P tab bx ⟨d, .move x, ty, pos, aft, g⟩ s k = @yh0 (some (True, .val (opv s x))) d s ⟨k⟩ := rfl
theorem mG0 {x : Operand} : vG0 P tab bx ⟨d, .assign x, ty, pos, aft, g⟩ s k = @yh0 (some (True, .val (opv s x))) d s ⟨k⟩ := rfl
theorem qF1 {t : TypeId} {x : Operand} : vG0 P tab bx ⟨d, .load t x, ty, pos, aft, g⟩ s k = @yh0 (zq1 (ct0 tab s.lb t (opv s x))) d s ⟨k⟩ := rfl
theorem se0 {op : BinOp} {t t' : TypeId} {x y : Operand} : vG0 P tab bx ⟨d, .binOp op t x y t', ty, pos, aft, g⟩ s k = @yh0 (zq1 (pT1 tab op t (opv s x) (opv s y))) d s ⟨k⟩ := rfl
theorem fs0 {t : TypeId} {x : Operand} {f : Nat} : vG0 P tab bx ⟨d, .fieldAddr t x f, ty, pos, aft, g⟩ s k = @yh0 (zq1 (wH0 s.lb (tab t) (opv s x) f)) d s ⟨k⟩ := rfl
theorem vH0 {x : Operand} : vG0 P tab bx ⟨d, .nilCheck x, ty, pos, aft, g⟩ s k = @yh0 (zq1 (ve1 s.lb (opv s x))) d s ⟨k⟩ := rfl
theorem ft0 {t : TypeId} {x i : Operand} : vG0 P tab bx ⟨d, .indexAddr t x i, ty, pos, aft, g⟩ s k = @yh0 (zq1 (wJ0 tab s.lb t (opv s x) (opv s i))) d s ⟨k⟩ := rfl
theorem sh0 {t : TypeId} {x i : Operand} : vG0 P tab bx ⟨d, .index t x i, ty, pos, aft, g⟩ s k = @yh0 (zq1 (gh0 (tab t) (opv s x) (opv s i))) d s ⟨k⟩ := rfl
def nU1 (v : AV) : Option (Prop × AV) := match v with
 | .one (.c (.v (.bool b))) => some (True, jr0 (!b))
 | _ => none
theorem ja1 {t : TypeId} {x : Operand} : vG0 P tab bx ⟨d, .unOp .not t x, ty, pos, aft, g⟩ s k = @yh0 (zq1 (nU1 (opv s x))) d s ⟨k⟩ := rfl
theorem wt1 {b : Bool} : nU1 (.one (.c (.v (.bool b)))) = some (True, .one (.c (.v (.bool (!b))))) := rfl
def pz1 (c a b : AV) : Option (Prop × AV) := match c with
 | .one (.c (.v (.bool t))) => some (True, if t then a else b)
 | _ => none
theorem qH1 {c a b : Operand} : vG0 P tab bx ⟨d, .pick c a b, ty, pos, aft, g⟩ s k = @yh0 (zq1 (pz1 (opv s c) (opv s a) (opv s b))) d s ⟨k⟩ := rfl
theorem ty0 {t : Bool} {a b : AV} : pz1 (.one (.c (.v (.bool t)))) a b = some (True, if t = true then a else b) := rfl
theorem dh0 {t t' : TypeId} {x : Operand} : vG0 P tab bx ⟨d, .convert t t' x, ty, pos, aft, g⟩ s k = @yh0 (zq1 (gF0 tab s.lb t t' (opv s x))) d s ⟨k⟩ := rfl
theorem si0 {t : TypeId} {x : Operand} {lo hi : Option Operand} : vG0 P tab bx ⟨d, .slice t x lo hi none, ty, pos, aft, g⟩ s k = @yh0 (zq1 (fX0 tab (tab t) (opv s x) (lo.map (opv s)) (hi.map (opv s)))) d s ⟨k⟩ := rfl
def re0 (v : AV) (i : Nat) : Option (Prop × AV) := match v with
 | .tup vs => (vs[i]?).map fun v => (True, v)
 | _ => none
theorem di0 {x : Operand} {i : Nat} : vG0 P tab bx ⟨d, .extract x i, ty, pos, aft, g⟩ s k = @yh0 (zq1 (re0 (opv s x) i)) d s ⟨k⟩ := rfl
theorem sg0 {t : TypeId} {x : Operand} {f : Nat} : vG0 P tab bx ⟨d, .field t x f, ty, pos, aft, g⟩ s k = @yh0 (zq1 (gO0 (tab t) (opv s x) f)) d s ⟨k⟩ := rfl
theorem gN0 {vs : List AV} {i : Nat} : re0 (.tup vs) i = (vs[i]?).map fun v => (True, v) := rfl
theorem pU0 {t : TypeId} {len : Nat} {parts : Array (Nat × Operand)} : vG0 P tab bx ⟨d, .buildSlice t len parts, ty, pos, aft, g⟩ s k = @yh0 (vV0 tab ⟨d, .buildSlice t len parts, ty, pos, aft, g⟩ s) d s ⟨k⟩ := rfl
theorem sf0 {t : TypeId} {parts : Array (Nat × Operand)} : vG0 P tab bx ⟨d, .build t parts, ty, pos, aft, g⟩ s k = @yh0 (vV0 tab ⟨d, .build t parts, ty, pos, aft, g⟩ s) d s ⟨k⟩ := rfl
end ops
theorem vp1 {v : AV} {d : Option Tmp} : (Eff.val v).app d s = s.set d v := rfl
theorem vn1 {v : AV} {B : LB} {d : Tmp} : (Eff.new v B).app (some d) s = (s.put d B).set (some d) v := rfl
theorem vo1 {v : AV} {B : LB} {l : Nat} {d : Option Tmp} : (Eff.upd v l B).app d s = (s.put l B).set d v := rfl
theorem qu1 {v : AV} {d : Tmp} : pg0 (.val v) (some d) s = (d < s.n) := rfl
theorem qs1 {v : AV} {B : LB} {d : Tmp} : pg0 (.new v B) (some d) s = (d < s.n ∧ s.lb d = none) := rfl
theorem qt1 {v : AV} {B : LB} {l : Nat} {d : Tmp} : pg0 (.upd v l B) (some d) s = (d < s.n) := rfl
theorem tR0 {v : AV} {B : LB} {l : Nat} : pg0 (.upd v l B) none s = True := rfl
theorem js1 {d : Tmp} : dOk (some d) s = (d < s.n) := rfl
theorem xR1 {t : Tmp} : opv s (.tmp t) = s.sl t := rfl
theorem kP1 {f : FuncId} : opv s (.func f) = .one (.c (.v (.func (.func f) #[] #[]))) := rfl
theorem xP1 {n : Int} {i : IntKind} : opv s (.const (.int i n)) = .one (.c (.v (.int i n))) := rfl
theorem kO1 {b : Bool} : opv s (.const (.bool b)) = .one (.c (.v (.bool b))) := rfl
theorem tr0 {b : ByteArray} : opv s (.const (.string b)) = .one (.c (.v (.string b))) := rfl
theorem xQ1 : opv s (.const (.slice none 0 0)) = .one .nil := rfl
theorem qx1 {f : FuncId} : xY0 (.one (.c (.v (.func (.func f) #[] #[])))) = some f := rfl
end eqs
theorem zB0 {ι : Type} {c : Code} {Q : Exit → St → Prop} {s : St} (S : ι → St) (I : ι → Prop) (μ : ι → Nat) (i0 : ι) (hI : I i0) (h0 : Wk s (S i0)) (hT : zT0 P tab) (hm : P.follows .mixedOrders = true) (hok : qm0 c = true)
  (round : ∀ i, I i → qn0 P tab c (xS0 (fun s' => ∃ j, I j ∧ μ j < μ i ∧ Wk s' (S j)) Q) (S i)) : @jQ1 P c s ⟨Q⟩ :=
 gt0 (ι := {i : ι // I i}) (fun i => S i.1) (fun i => μ i.1) ⟨i0, hI⟩ h0 (fun i => AWP.mono (zf0 hT hm c _ _ hok (round i.1 i.2)) (fun e s hq => by
  cases e with
  | normal => obtain ⟨j, h1, h2, h3⟩ := hq; exact ⟨⟨j, h1⟩, h3, h2⟩
  | _ => exact hq))
theorem py1 (cs : List C) : (cs.map AC.c).flatMap AC.owns = [] := by
 induction cs with
 | nil => rfl
 | cons c cs ih => simp [AC.owns]
theorem ma0 (n : Nat) : (0 ≤ (n : Int)) = True := eq_true (Int.natCast_nonneg n)
theorem vd1 (m n : Nat) : ((m : Int) < (n : Int)) = (m < n) := propext Int.ofNat_lt
theorem vc1 (m n : Nat) : ((m : Int) ≤ (n : Int)) = (m ≤ n) := propext Int.ofNat_le
theorem jn1 (n : Nat) : ((n : Int) < 0) = False := eq_false (by omega)
theorem sx0 (n : Nat) : ((n : Int)).toNat = n := rfl
attribute [go_sem high] jC1 jB1 jA1 yz1 tN0 mf0
attribute [go_sem ↓] reduceIte
attribute [go_sem] reduceCtorEq Nat.reduceEqDiff Nat.reduceLT Nat.reduceLeDiff Nat.reduceAdd Nat.reduceSub Nat.reduceMul
attribute [go_sem] IntWalk.i64_in AV.one.injEq AC.c.injEq C.v.injEq Value.int.injEq Value.bool.injEq beq_self_eq_true bne_self_eq_false
attribute [go_sem] py1 ma0 vd1 vc1 jn1 sx0
attribute [go_sem ↓] dh0
attribute [go_sem] gF0 xG1
attribute [go_sem ↓] mV0 tF0 gC0 cV0 qi1 tC0 mc0 tD0 qh1 tE0 lp0 zp1 yr1 cP0 ss0 ka1 qE1 jY1 jZ1 mF0 sd0 jX1 sj0 qG1 mG0 qF1 se0 fs0 vH0 vH0 ft0 sh0 ja1 qH1 si0 di0 sg0 pU0 sf0
attribute [go_sem] pu1 xJ1 bj1 yw1 tkR tkV fV1 tkC fU1 flR flV flC zQ1 yW1 fu1 fF1 yR1 xY1 pP1 yq1 fS1 yp1 xi1 wK1 pe1 wJ1 vt1 pa1 nR1 jw1 nT1 hoV fe1 toC cv0 pt1 okB pD1 bk0 xI1 fj1 wr1 leG List.set_cons_zero List.set_cons_succ yS1 or_true true_or or_false false_or
attribute [go_sem] kT1 kU1 zI1 zr1 rF0 jD1 tM0 tw0 tt0 ts0 xv1 bP1 fa1 mY0 mZ0 gZ0 vz1 jJ0 gY0 pf1 tn0 gJ1 fo1 okK pH1 vKV vKs vK fg1 va1 fu0 cQ0 Bool.or_false Bool.false_or yx1 wt1 ty0 gN0 gO0 vp1 vn1 vo1 qu1 qs1 qt1 tR0 js1 xR1 kP1 xP1 kO1 tr0 xQ1 yQ0 qo1 qx1 vL1 xF1 pm1 pl1 cu0 wC0 wi1 tg0 wf1 kB1 wD1 rv0 jo0 LB.frz ct0 pT1 jp1 rP0 rR0 xD1 wH0 ve1 rQ0 wJ0 gh0 fX0 dJ0 vg0 xz0 yj0 fh1 jq0 pz0 vV0 kA0 wl1 splice kk0 kZ0 AV.cs TyD.agg AV.owns AC.owns pG0 pC1 okC pE1 dc0 vAV vC vCs nH1 pv1 vk1 xa1 kv0 nm1 qa0 wP1 unD qV0 leL leB inV inC inB List.map_cons List.map_nil List.toList_toArray Option.map_some Option.map_none Option.getD_some Option.getD_none Option.bind_some List.flatMap_cons List.flatMap_nil List.append_nil List.nil_append List.cons_append List.length_cons List.length_nil List.take_succ_cons List.take_zero List.drop_succ_cons List.drop_zero List.getElem?_cons_succ List.getElem?_cons_zero List.getElem?_toArray List.getElem?_nil List.getD_cons_succ List.getD_cons_zero ite_true ite_false if_true if_false true_and and_true and_false false_and and_self true_implies false_implies implies_true forall_const not_true_eq_false not_false_eq_true Bool.not_true Bool.not_false Bool.false_eq_true Bool.true_eq_false decide_eq_true_eq decide_eq_false_iff_not Bool.not_eq_true' Bool.not_eq_false' beq_iff_eq bne_iff_ne ne_eq Nat.zero_add Nat.add_zero Nat.zero_le Nat.le_refl
inductive Tm where
 | mk (k n : Int) (s : ByteArray) (as : List Tm)
theorem Tm.ind {p : Tm → Prop} (h : ∀ k n s as, (∀ a, a ∈ as → p a) → p (.mk k n s as)) : ∀ t, p t
 | .mk k n s as => h k n s as (fun a _ => Tm.ind h a)
mutual
def Tm.enc : Tm → List C
 | .mk k n s as => [.v (.int .i64 k), .v (.int .i64 n), .v (.string s), .sl (Tm.encs as)]
def Tm.encs : List Tm → List (List C)
 | [] => []
 | a :: as => a.enc :: Tm.encs as
end
end Go.Ai
