/- A step of a machine in the reference: the frames are a row of one's own. Written by mk41.py. -/
import Derived.Test.YtphclghkljeaeaaGreatAiZ9
import Derived.Test.YtphclghkljeaeaaGreatAiDw13
import Derived.Test.YtphclghkljeaeaaGreatAiLM2
set_option linter.unusedVariables false
set_option linter.unusedSimpArgs false
namespace Go.Ai
open Go.Proofs
set_option maxRecDepth 100000
def gS1 (tab : Tab) (rs : List ResultVar) (Bs Bs' : List LB) (r : AV) (e : Exit) (s : St) : Prop := ∃ s', Wk s s' ∧ lP0 tab rs Bs Bs' r e s'
theorem bI0 {P : Program} {tab : Tab} (Δ : List (Nat × List Pr × List Nat)) (hT : zT0 P tab) (hm : P.follows .mixedOrders = true) {f : FuncId} {fn : Func} {c : Code} {args : List AV} {Bs Bs' : List LB} {r : AV} {rs : List ResultVar} {n : Nat} (hf : P.funcs[f]? = some fn)
  (h : qX0 P tab Δ c (gS1 tab rs Bs Bs' r) (mk n (qV0 0 (args.map (AV.ren1 (idx (yx0 9000 Bs.length))))) (jE0 (idx (yx0 9000 Bs.length)) (yx0 9000 Bs.length) Bs) (ghX (yx0 9000 Bs.length) Bs)))
  (hb : fn.body = some c := by exact rfl) (hr : fn.results.toList = rs := by exact rfl) (hn : fn.ntmps = n := by exact rfl) (hname : fn.name ≠ "runtime.NumGoroutine" := by decide +kernel)
  (hoc : zs0 Δ c = true := by decide +kernel) (hlen : args.length ≤ n := by exact Nat.le_of_ble_eq_true rfl) (hA : args.all (lC0 Bs.length) = true := by simp [go_sem]) (hok : (Bs.all (okP Bs.length)) = true := by simp [go_sem]) (hok' : (Bs'.all (okX Bs'.length)) = true := by simp [go_sem]) (hrx : zu1 Bs'.length r = true := by simp [go_sem]) (hlike : bC0 Bs Bs' := by simp [go_sem]) (hj : qa0 (yO1 r) = r := by exact rfl) : qy0 P f args Bs Bs' r :=
 jd0 hT hf hb hr hn hname hlen hA hok hok' hrx hlike hj (fun w0 M0 F0 a w hs => wp_mono (zl0 Δ hT hm c _ _ hoc h w0 M0 F0 a w hs) (by
  rintro e a' w' ⟨s', ⟨s2, hw, hq⟩, hs'⟩
  exact ⟨s2, hq, hw _ _ _ _ _ hs'⟩))
abbrev fR (fs : List GFrame) : LB := .arr 124 5 (rowsOf GFrame.enc fs) false
def mO : GMachine → AV
 | ⟨.mk k n s ts, nx, fs, rw_⟩ => .agg [iC k, iC n, sC s, tC ts, iC nx, .own 0 fs.length, iC rw_]
theorem vU0 (k n : Int) (s : ByteArray) (ts : List Tm) (nx : Int) (fs : List GFrame) (rw_ : Int) : mO ⟨.mk k n s ts, nx, fs, rw_⟩ = .agg [iC k, iC n, sC s, tC ts, iC nx, .own 0 fs.length, iC rw_] := rfl
abbrev qw0 (d : GDefinition) (m : GMachine) : Prop := qy0 Tryz.prog 80 [zn0 d.enc, zn0 m.enc] [] [fR ((zy0 d m).getD m).st] (.tup [mO ((zy0 d m).getD m), boolV (zy0 d m).isSome])
theorem nx0 (d : GDefinition) (hls : d.st.length < 1048577) (k n : Int) (s : ByteArray) (ts : List Tm) (nx : Int) (fs : List GFrame) (rw_ : Int) (hz : (Tm.mk k n s ts).size < 1048577) (hfz : ∀ f, f ∈ fs → f.t.size < 1048577) (hl : fs.length < 1048577) (hh : 0 ≤ zg0 d ⟨.mk k n s ts, nx⟩) : qw0 d ⟨.mk k n s ts, nx, fs, rw_⟩ := by
 unfold qw0
 have hcp := qv0 k n s ts nx fs rw_ (by omega) (fun f hf => by have := hfz f hf; omega) (by omega)
 have hho := qf0 d hls ⟨.mk k n s ts, nx⟩ hz
 have hcf := qk0 (.mk k n s ts) hz
 obtain ⟨r, hr⟩ : ∃ r, r = zy0 d ⟨.mk k n s ts, nx, fs, rw_⟩ := ⟨_, rfl⟩
 rw [← hr]
 unfold zy0 at hr
 simp only [if_pos hh] at hr
 have hhx : ∃ (j : Nat), j < ts.length ∧ zg0 d ⟨.mk k n s ts, nx⟩ = (j : Int) := by
  rcases qN0 (if k = 2 then zF0 d.st s else []) nx ts.length with h | ⟨i, j, _, _, _, hj, h⟩
  ·simp only [zg0] at hh; omega
  ·exact ⟨j, hj, h⟩
 obtain ⟨j, hj, h⟩ := hhx
 rw [h] at hr hho
 have e1 : ts.getD j zeroT = ts[j] := by rw [List.getD_eq_getElem?_getD, List.getElem?_eq_getElem hj, Option.getD_some]
 simp only [Tm.args, Int.toNat_natCast] at hr
 rw [e1] at hr
 have hct := qk0 ts[j] (by have := vk0 k n s ts j hj; omega)
 have hgt := zG0 ts j hj
 have hsn := rowsOf_snoc (ec := GFrame.enc) (xs := fs) ⟨.mk k n s ts, nx⟩
 rw [qH0] at hsn hho
 simp only [List.map_cons, List.map_nil] at hsn
 generalize ts[j] = a at hr hct hgt
 obtain ⟨ak, an, as', at_⟩ := a
 simp only [Tm.enc] at hgt
 subst hr
 have hln := zI0 ts
 have hjp : ((j : Int) ≥ 0) = True := eq_true (by omega)
 have hde := dE' d
 simp only [Option.getD_some, Option.isSome_some, zN0, vU0]
 rw [zN0] at hcp
 refine sxv [(21, ([], [4]))] zE0 zA0 Tryz.func80 ?_
 refine lB0 ?_
 refine CallK.out hcp rfl ?_
 refine qI0 ?_
 refine CallK.mk hho ?_
 simp -implicitDefEqProofs (disch := omega) only [go_sem, List.length_map, hgt, hj, enc_len]
 refine c5' hcf ?_
 refine ⟨⟨by simp, by omega, by omega⟩, fun _ => ?_⟩
 simp -implicitDefEqProofs (disch := omega) only [go_sem, hgt, hj, enc_len]
 refine CallK.mk hct ?_
 refine ne1 ?_
 exact ⟨[13], by simp, rfl, by simp [go_sem], rfl⟩
theorem lc0 (d : GDefinition) (hls : d.st.length < 1048577) (hlr : d.ru.length < 100000000) (hd : ∀ x, x ∈ d.ru → ruleOk x ∧ yb0 d.si x = true) (k n : Int) (s : ByteArray) (ts : List Tm) (nx : Int) (fs : List GFrame) (rw_ : Int) (ht : tmOk (.mk k n s ts)) (hfz : ∀ f, f ∈ fs → f.t.size < 1048577) (hl : fs.length < 1048577) (hh : ¬ 0 ≤ zg0 d ⟨.mk k n s ts, nx⟩) (hro : 0 ≤ rootF d (.mk k n s ts)) : qw0 d ⟨.mk k n s ts, nx, fs, rw_⟩ := by
 unfold qw0
 have hcp := qv0 k n s ts nx fs rw_ (by have := ht.1; omega) (fun f hf => by have := hfz f hf; omega) (by omega)
 have hho := qf0 d hls ⟨.mk k n s ts, nx⟩ (by have := ht.1; simp only; omega)
 have hrt := kG0 d hlr (fun x hx => (hd x hx).1) (.mk k n s ts) ht
 have hre : rootI (fun x => (fireS x (.mk k n s ts)).2) d.ru 0 = rootF d (.mk k n s ts) := jb0 _ _ _ _ (fun x hx => fire_same d.si x _ (hd x hx).2)
 rw [hre] at hrt
 obtain ⟨r, hr⟩ : ∃ r, r = zy0 d ⟨.mk k n s ts, nx, fs, rw_⟩ := ⟨_, rfl⟩
 rw [← hr]
 unfold zy0 at hr
 simp only [if_neg hh, if_pos hro] at hr
 obtain ⟨j, hj, e1, e2, e3⟩ := nj0 d (.mk k n s ts) hro
 have hdo := zk1 d hlr hd (.mk k n s ts) (by have := ht.1; omega) ((j : Int), []) ⟨by simp, j, hj, .mk k n s ts, rfl, rfl, ht, e2⟩
 have hdv : doB d (.mk k n s ts) ((j : Int), []) = fireT d.ru[j] (.mk k n s ts) := by
  unfold doB
  simp [ne0, atp, List.getD, hj]
 rw [hdv] at hdo
 rw [e3] at hr
 rw [e1] at hrt
 generalize fireT d.ru[j] (.mk k n s ts) = v at hr hdo
 generalize v.valid = vb at hdo
 obtain ⟨vk, vn, vs, vt⟩ := v
 subst hr
 rw [qH0] at hho
 have hjp : ((j : Int) ≥ 0) = True := eq_true (by omega)
 generalize zg0 d ⟨.mk k n s ts, nx⟩ = h at hho hh
 have hhp : (h ≥ 0) = False := eq_false (by omega)
 have hde := dE' d
 simp only [Option.getD_some, Option.isSome_some, zN0, vU0]
 rw [zN0] at hcp
 refine sxv [(21, ([], [4]))] zE0 zA0 Tryz.func80 ?_
 refine lB0 ?_
 refine CallK.out hcp rfl ?_
 refine qI0 ?_
 refine CallK.mk hho ?_
 refine dv1 ?_
 refine jm1 hrt ?_
 refine c5' hdo ?_
 exact ⟨[13], by simp, rfl, by simp [go_sem], rfl⟩
theorem le0 (d : GDefinition) (hls : d.st.length < 1048577) (hlr : d.ru.length < 100000000) (hd : ∀ x, x ∈ d.ru → ruleOk x ∧ yb0 d.si x = true) (k n : Int) (s : ByteArray) (ts : List Tm) (nx : Int) (rw_ : Int) (ht : tmOk (.mk k n s ts)) (hh : ¬ 0 ≤ zg0 d ⟨.mk k n s ts, nx⟩) (hro : ¬ 0 ≤ rootF d (.mk k n s ts)) : qw0 d ⟨.mk k n s ts, nx, [], rw_⟩ := by
 unfold qw0
 have hcp := qv0 k n s ts nx [] rw_ (by have := ht.1; omega) (fun f hf => by cases hf) (by simp)
 have hho := qf0 d hls ⟨.mk k n s ts, nx⟩ (by have := ht.1; simp only; omega)
 have hrt := kG0 d hlr (fun x hx => (hd x hx).1) (.mk k n s ts) ht
 have hre : rootI (fun x => (fireS x (.mk k n s ts)).2) d.ru 0 = rootF d (.mk k n s ts) := jb0 _ _ _ _ (fun x hx => fire_same d.si x _ (hd x hx).2)
 rw [hre] at hrt
 obtain ⟨r, hr⟩ : ∃ r, r = zy0 d ⟨.mk k n s ts, nx, [], rw_⟩ := ⟨_, rfl⟩
 rw [← hr]
 unfold zy0 at hr
 simp only [if_neg hh, if_neg hro, List.getLast?_nil] at hr
 subst hr
 rw [qH0] at hho
 generalize zg0 d ⟨.mk k n s ts, nx⟩ = h at hho hh
 generalize rootF d (.mk k n s ts) = ro at hrt hro
 have hhp : (h ≥ 0) = False := eq_false (by omega)
 have hrn : (ro ≥ 0) = False := eq_false (by omega)
 have hde := dE' d
 simp only [Option.getD_none, Option.isSome_none, zN0, vU0]
 rw [zN0] at hcp
 refine sxv [(21, ([], [4]))] zE0 zA0 Tryz.func80 ?_
 refine lB0 ?_
 refine CallK.out hcp rfl ?_
 refine qI0 ?_
 refine CallK.mk hho ?_
 refine dv1 ?_
 refine CallK.mk hrt ?_
 refine nY1 ?_
 exact ⟨fun _ => ⟨[13], by simp, rfl, by simp [go_sem], rfl⟩, fun h => by simp at h⟩
theorem ld0 (d : GDefinition) (hls : d.st.length < 1048577) (hlr : d.ru.length < 100000000) (hd : ∀ x, x ∈ d.ru → ruleOk x ∧ yb0 d.si x = true) (k n : Int) (s : ByteArray) (ts : List Tm) (nx : Int) (fs : List GFrame) (rw_ : Int) (ht : tmOk (.mk k n s ts)) (f : GFrame) (hfz : ∀ g, g ∈ fs ++ [f] → g.t.size < 1048577) (hl : (fs ++ [f]).length < 1048577) (hh : ¬ 0 ≤ zg0 d ⟨.mk k n s ts, nx⟩) (hro : ¬ 0 ≤ rootF d (.mk k n s ts)) (hhf : 0 ≤ zg0 d f) : qw0 d ⟨.mk k n s ts, nx, fs ++ [f], rw_⟩ := by
 unfold qw0
 have hcp := qv0 k n s ts nx (fs ++ [f]) rw_ (by have := ht.1; omega) (fun f hf => by have := hfz f hf; omega) (by omega)
 have hho := qf0 d hls ⟨.mk k n s ts, nx⟩ (by have := ht.1; simp only; omega)
 have hrt := kG0 d hlr (fun x hx => (hd x hx).1) (.mk k n s ts) ht
 have hre : rootI (fun x => (fireS x (.mk k n s ts)).2) d.ru 0 = rootF d (.mk k n s ts) := jb0 _ _ _ _ (fun x hx => fire_same d.si x _ (hd x hx).2)
 rw [hre] at hrt
 have hcf := qk0 (.mk k n s ts) (by have := ht.1; omega)
 obtain ⟨r, hr⟩ : ∃ r, r = zy0 d ⟨.mk k n s ts, nx, fs ++ [f], rw_⟩ := ⟨_, rfl⟩
 rw [← hr]
 unfold zy0 at hr
 simp only [if_neg hh, if_neg hro, List.getLast?_append, List.getLast?_singleton, Option.some_or, List.dropLast_concat] at hr
 have hzf := hfz f (by simp)
 have hf2 := qf0 d hls f hzf
 obtain ⟨⟨fk, fn, fss, ft⟩, fx⟩ := f
 have hco := jW0 fk fn fss ft hzf
 have hhx : ∃ (j : Nat), j < ft.length ∧ zg0 d ⟨.mk fk fn fss ft, fx⟩ = (j : Int) ∧ 0 ≤ fx ∧ fx < 1048577 := by
  rcases qN0 (if fk = 2 then zF0 d.st fss else []) fx ft.length with h | ⟨i, j, e, hi, _, hj, h⟩
  ·simp only [zg0] at hhf; omega
  ·have : (if fk = 2 then zF0 d.st fss else []).length ≤ d.st.length := by
    split
    ·have := qM0 d.st fss d.st.length
     rwa [List.take_length] at this
    ·simp
   exact ⟨j, hj, h, by omega, by omega⟩
 obtain ⟨j, hj, hjh, hfx0, hfx1⟩ := hhx
 have hfb : qr0 d ⟨.mk fk fn fss ft, fx⟩ (.mk k n s ts) = some (.mk fk fn fss (ft.set j (.mk k n s ts))) := by
  unfold qr0 km0
  rw [hjh, if_neg (by omega)]
  rfl
 rw [hjh] at hf2
 rw [hfb] at hr
 simp only [Option.map_some] at hr
 subst hr
 rw [qH0] at hho hf2
 generalize zg0 d ⟨.mk k n s ts, nx⟩ = h at hho hh
 generalize rootF d (.mk k n s ts) = ro at hrt hro
 have hhp : (h ≥ 0) = False := eq_false (by omega)
 have hrn : (ro ≥ 0) = False := eq_false (by omega)
 have hg := zD0 (ec := GFrame.enc) (xs := fs ++ [⟨.mk fk fn fss ft, fx⟩]) (i := fs.length) (by simp)
 rw [List.getElem_append_right (Nat.le_refl _)] at hg
 simp only [Nat.sub_self, List.getElem_cons_zero] at hg
 rw [qH0] at hg
 have hgr := wL0 (ec := Tm.enc) hj
 generalize ft[j] = a at hgr
 obtain ⟨ak, an, as', at_⟩ := a
 simp only [Tm.enc, List.map_cons, List.map_nil] at hgr
 have hst := jK0 ft j k n s ts
 have hde := dE' d
 have hll : (fs ++ [(⟨.mk fk fn fss ft, fx⟩ : GFrame)]).length = fs.length + 1 := by simp
 rw [hll] at hl
 have ei : ((fs.length + 1 : Nat) : Int) - 1 = (fs.length : Int) := by omega
 have hne : (((fs.length + 1 : Nat) : Int) == 0) = false := by simp; omega
 have htk : ((fs ++ [(⟨.mk fk fn fss ft, fx⟩ : GFrame)]).map GFrame.enc).take fs.length = fs.map GFrame.enc := by
  rw [List.map_append, List.take_left' (by simp)]
 simp only [Option.getD_some, Option.isSome_some, zN0, vU0]
 rw [zN0] at hcp
 refine bI0 [(21, ([], [4]))] zE0 zA0 Tryz.func80 ?_
 refine lB0 ?_
 refine CallK.out hcp rfl ?_
 refine qI0 ?_
 refine CallK.mk hho ?_
 refine dv1 ?_
 refine CallK.mk hrt ?_
 simp -implicitDefEqProofs (disch := omega) only [go_sem, hrn, List.length_map, hll, ei, hne, hg]
 refine ⟨by omega, fun _ => CallK.mk hf2 ?_⟩
 simp -implicitDefEqProofs (disch := omega) only [go_sem, List.length_map, hll, ei, hg, htk]
 refine ⟨by omega, xh0 _, by omega, fun _ => CallK.out hco rfl ?_⟩
 simp -implicitDefEqProofs (disch := omega) only [go_sem, take_snoc]
 refine CallK.mk hcf ?_
 refine rw1 ?_
 refine ⟨by simp, fun _ => ⟨by omega, fun _ => ?_⟩⟩
 refine ⟨_, wu0 4 3 97 (rows' := (ft.set j (.mk k n s ts)).map Tm.enc) rfl rfl rfl (by simp [rowsOf_len]) qJ0, ?_⟩
 refine qI0 ?_
 exact ⟨[88], by simp, rfl, by simp [go_sem], by rw [← encs_map]; rfl⟩
theorem dS0 (d : GDefinition) (hls : d.st.length < 1048577) (hlr : d.ru.length < 100000000) (hd : ∀ x, x ∈ d.ru → ruleOk x ∧ yb0 d.si x = true) (m : GMachine) (ht : tmOk m.fo) (hfz : ∀ f, f ∈ m.st → f.t.size < 1048577) (hl : m.st.length < 1048577) (hlast : wb1 d m.st) : qw0 d m := by
 obtain ⟨⟨k, n, s, ts⟩, nx, fs, rw_⟩ := m
 simp only at ht hfz hl hlast
 by_cases hh : 0 ≤ zg0 d ⟨.mk k n s ts, nx⟩
 ·exact nx0 d hls k n s ts nx fs rw_ (by have := ht.1; omega) hfz hl hh
 ·by_cases hro : 0 ≤ rootF d (.mk k n s ts)
  ·exact lc0 d hls hlr hd k n s ts nx fs rw_ ht hfz hl hh hro
  ·rcases List.eq_nil_or_concat fs with rfl | ⟨gs, f, rfl⟩
   ·exact le0 d hls hlr hd k n s ts nx rw_ ht hh hro
   ·rw [List.concat_eq_append] at hfz hl hlast ⊢
    exact ld0 d hls hlr hd k n s ts nx gs rw_ ht f hfz hl hh hro (hlast f (by simp))
theorem pI0 (d : GDefinition) (hs : d.st.length < 1048577) (m : GMachine) (hfo : m.fo.size < 4000000) (hfz : ∀ f, f ∈ m.st → f.t.size < 1048577) (hl : m.st.length < 2000000) : qy0 Tryz.prog 78 [zn0 d.enc, mO m] [fR m.st] [fR m.st] (.tup [tmV ((zY0 d m).getD zeroT), boolV (zY0 d m).isSome]) := by
 have hho := fun f (hf : f ∈ m.st) => qf0 d hs f (hfz f hf)
 have hcp := fun f (hf : f ∈ m.st) k n s ts (e : f.t = .mk k n s ts) => jW0 k n s ts (by rw [← e]; exact hfz f hf)
 have hcf := jV0 m.fo hfo
 obtain ⟨r, hr⟩ : ∃ r, r = zY0 d m := ⟨_, rfl⟩
 rw [← hr]
 unfold zY0 at hr
 obtain ⟨⟨k, n, s, ts⟩, nx, fs, rw_⟩ := m
 simp only at hho hcp hl hr hcf
 clear hfo hfz
 have hde := dE' d
 have hme : (GMachine.mk (.mk k n s ts) nx fs rw_).enc = [.v (.int .i64 k), .v (.int .i64 n), .v (.string s), .sl (Tm.encs ts), .v (.int .i64 nx), .sl (fs.map GFrame.enc), .v (.int .i64 rw_)] := rfl
 rw [vU0]
 rw [hde] at *
 refine sxv [] zE0 zA0 Tryz.func78 ?_
 refine da0 ?_
 refine CallK.mk hcf ?_
 refine nX1 ?_
 refine yL0 [] (ι := Nat × Int × Int × ByteArray × List Tm) (fun i => mk 45 [(2, .one (.ptr 2 0)), (3, .one (.ptr 3 0)), (4, .one (.ptr 4 0)), (6, .one (.ptr 6 0)), (7, zH0 ((i.1 : Int) - 1))] [(2, .var [.c (.sl (d.si.so.map encS)), .c (.sl (d.si.op.map GOp.enc)), .c (.sl (d.ru.map GRule.enc)), .c (.sl (d.st.map GStrict.enc))]), (3, .var [iC k, iC n, sC s, tC ts, iC nx, .own 9000 fs.length, iC rw_]), (9000, fR fs), (4, .var zT), (6, .var [iC i.2.1, iC i.2.2.1, sC i.2.2.2.1, tC i.2.2.2.2])] [.one (.own 9000 fs.length)])
  (fun i => i.1 ≤ fs.length ∧ r = jz0 d (.mk i.2.1 i.2.2.1 i.2.2.2.1 i.2.2.2.2) (fs.take i.1).reverse) (fun i => i.1) (fs.length, k, n, s, ts) ⟨Nat.le_refl _, by rw [hr, List.take_length]⟩ ?_ zE0 zA0 (by decide +kernel) ?_
 ·exact t2'
 ·rintro ⟨c, k1, n1, s1, ts1⟩ ⟨hc, he⟩
  simp only at hc he
  cases c with
  | zero =>
   have he : r = some (.mk k1 n1 s1 ts1) := he
   subst he
   refine qI0 ?_
   exact ⟨fun h => absurd h (by omega), fun _ => ⟨[], by simp, rfl, trivial, rfl, rfl⟩⟩
  | succ c =>
   have hlt : c < fs.length := by omega
   rw [dU0 fs c hlt] at he
   simp only [jz0] at he
   have hg := wL0 (ec := GFrame.enc) hlt
   have hm := List.getElem_mem hlt
   generalize fs[c] = f at hg hm he
   have hf := hho f hm
   have hcp := fun k n s ts e => hcp f hm k n s ts e
   obtain ⟨⟨fk, fn, fss, ft⟩, fx⟩ := f
   have hcp := hcp fk fn fss ft rfl
   have hfb : qr0 d ⟨.mk fk fn fss ft, fx⟩ (.mk k1 n1 s1 ts1) = km0 (zg0 d ⟨.mk fk fn fss ft, fx⟩) (.mk fk fn fss ft) (.mk k1 n1 s1 ts1) := rfl
   rw [hfb] at he
   have hhx : zg0 d ⟨.mk fk fn fss ft, fx⟩ = -1 ∨ ∃ (j : Nat), j < ft.length ∧ zg0 d ⟨.mk fk fn fss ft, fx⟩ = (j : Int) := by
    rcases qN0 (if fk = 2 then zF0 d.st fss else []) fx ft.length with h | ⟨i, j, _, _, _, hj, h⟩
    ·exact .inl h
    ·exact .inr ⟨j, hj, h⟩
   generalize zg0 d ⟨.mk fk fn fss ft, fx⟩ = h at hf he hhx
   rw [qH0] at hg hf
   simp only [List.map_cons, List.map_nil] at hg
   have ei : ((c + 1 : Nat) : Int) - 1 = (c : Int) := by omega
   refine ps1 ?_
   refine CallK.mk hf ?_
   rcases hhx with rfl | ⟨j, hj, rfl⟩
   ·have he : r = none := he
    subst he
    refine gH1 ?_
    exact ⟨fun _ => ⟨[], by simp, rfl, trivial, rfl, rfl⟩, fun h => (h (by decide)).elim⟩
   ·have he : r = jz0 d (.mk fk fn fss (ft.set j (.mk k1 n1 s1 ts1))) (fs.take c).reverse := he
    have hgr := wL0 (ec := Tm.enc) hj
    generalize ft[j] = a at hgr
    obtain ⟨ak, an, as', at_⟩ := a
    simp only [Tm.enc, List.map_cons, List.map_nil] at hgr
    have hst := jK0 ft j k1 n1 s1 ts1
    refine ps1 ?_
    refine CallK.out hcp rfl ?_
    simp -implicitDefEqProofs (disch := omega) only [go_sem, hgr, hj, hst, rowsOf_len]
    refine ⟨by simp, fun _ => ⟨(c, fk, fn, fss, ft.set j (.mk k1 n1 s1 ts1)), ⟨by omega, he⟩, by simp only; omega, (wu0 6 3 37 (rows' := (ft.set j (.mk k1 n1 s1 ts1)).map Tm.enc) rfl rfl rfl (by simp [rowsOf_len]) qJ0).trans ?_⟩⟩
    exact le_mk (by simp [go_sem]) (by simp [go_sem, encs_map, jo0, zT])
theorem cE0 (d : GDefinition) (hw : d.wf) (hs : d.size < 1048577) (m : GMachine) (hwm : m.wf) (hz : m.size < 1048577) : qy0 Tryz.prog 21 [zn0 d.enc, zn0 m.enc] [] [fR (zX0 d m).1.st] (.tup [mO (zX0 d m).1, boolV (zX0 d m).2]) := by
 have hl := zz0 GRule.size d.ru
 have hl2 := zz0 GStrict.size d.st
 have hs' := hs
 simp only [GDefinition.size] at hs'
 have hfz := jy0 m hz
 have hfo : m.fo.size < 1048577 := by simp only [GMachine.size] at hz; omega
 have hmt := kx0 d (by omega) m hz
 have hcf := nr0 d hs m.fo (by omega)
 have hcp : SatO Tryz.prog 79 [zn0 m.enc] 124 5 (rowsOf GFrame.enc m.st) (mO m) := by
  obtain ⟨⟨k, n, s, ts⟩, nx, fs, rw_⟩ := m
  exact qv0 k n s ts nx fs rw_ (by simp only at hfo; omega) (fun f hf => by have := hfz.1 f hf; omega) (by simp only at hfz; omega)
 have hok := cfg_ok d hw m.fo hwm.1
 have hmv := fun (h1 : (zY0 d m).isSome = true) (h : vK0 d m.fo = true) => dS0 d (by omega) (by omega) (fun x hx => ⟨(hok h).1 x hx, (hok h).2.2 x hx⟩) m (hok h).2.1 hfz.1 hfz.2 (gv0 d m h1)
 have hmo := fun (h : vK0 d m.fo = true) m' (hm : zy0 d m = some m') => nU0 d (hok h).1 m hwm (hok h).2.1 hz (by omega) m' hm
 have hm2 := fun (h : vK0 d m.fo = true) m' (hm : zy0 d m = some m') => pI0 d (by omega) m' (by have := (hmo h m' hm).1; omega) (hmo h m' hm).2.1 (hmo h m' hm).2.2.1
 have hva := fun (h : vK0 d m.fo = true) m' (hm : zy0 d m = some m') => qP0 ((zY0 d m').getD zeroT) (by have := (pR0 d m' (hmo h m' hm).2.2.2.1).1; have := (hmo h m' hm).2.2.2.2; omega)
 obtain ⟨r, hr⟩ : ∃ r, r = zX0 d m := ⟨_, rfl⟩
 rw [← hr]
 unfold zX0 at hr
 have hde := dE' d
 clear hmo hok
 by_cases hg : ((zY0 d m).isSome && decide (0 ≤ m.nx) && vK0 d m.fo) = true
 ·rw [if_pos hg] at hr
  simp only [Bool.and_eq_true, decide_eq_true_eq] at hg
  obtain ⟨⟨g1, g2⟩, g3⟩ := hg
  have hmv := hmv g1 g3
  have hm2 := hm2 g3
  have hva := hva g3
  rw [g1] at hmt
  rw [g3] at hcf
  unfold qw0 at hmv
  generalize (zY0 d m).getD zeroT = t1 at hmt
  obtain ⟨t1k, t1n, t1s, t1t⟩ := t1
  cases hq : zy0 d m with
  | none =>
   rw [hq] at hr hmv
   subst hr
   clear hm2 hva hq hfz
   obtain ⟨⟨k, n, s, ts⟩, nx, fs, rw_⟩ := m
   rw [zN0] at *
   rw [vU0] at hcp
   have hnx : ¬ nx < 0 := by simp only at g2; omega
   simp only [Option.getD_none, Option.isSome_none, zN0, vU0] at hmv ⊢
   refine sxv [] zE0 zA0 Tryz.func21 ?_
   refine lB0 ?_
   refine c5' hmt ?_
   refine xw1 hcf ?_
   refine CallK.con [] [9101] rfl hmv (by simp [go_sem, hde]) ?_
   refine qI0 ?_
   refine c5' hmt ?_
   refine CallK.out hcp rfl ?_
   refine qI0 ?_
   exact ⟨[54], by simp, rfl, by simp [go_sem], rfl⟩
  | some m' =>
   have hm2 := hm2 m' hq
   have hva := hva m' hq
   rw [hq] at hr hmv
   simp only at hr
   clear hq hfz
   have hzb : (zY0 d m').isSome = false → ((zY0 d m').getD zeroT).valid = false := by
    intro h
    cases hx : zY0 d m' with
    | none => exact ly0
    | some u => rw [hx] at h; cases h
   generalize (zY0 d m').isSome = b1 at hr hm2 hzb
   generalize (zY0 d m').getD zeroT = t2 at hr hm2 hva hzb
   generalize t2.valid = b2 at hr hva hzb
   obtain ⟨⟨k, n, s, ts⟩, nx, fs, rw_⟩ := m
   obtain ⟨⟨k', n', s', ts'⟩, nx', fs', rw_'⟩ := m'
   obtain ⟨t2k, t2n, t2s, t2t⟩ := t2
   have hnx : ¬ nx < 0 := by simp only at g2; omega
   simp only [Option.getD_some, Option.isSome_some, zN0, vU0] at hmv hcp hmt hm2 ⊢
   cases b2 with
   | false =>
    simp only [Bool.false_and, Bool.false_eq_true, if_false] at hr
    subst hr
    simp only [vU0]
    refine sxv [] zE0 zA0 Tryz.func21 ?_
    refine lB0 ?_
    refine c5' hmt ?_
    refine xw1 hcf ?_
    refine CallK.con [] [9101] rfl hmv (by simp [go_sem, hde]) ?_
    refine qI0 ?_
    refine CallK.con [9101] [] rfl hm2 (by simp [go_sem, hde]) ?_
    refine jj0 ?_
    refine c0' hva ?_
    refine CallK.out hcp rfl ?_
    refine qI0 ?_
    exact ⟨[54], by simp, rfl, by simp [go_sem], rfl⟩
   | true =>
    have : b1 = true := by
     cases b1 with
     | true => rfl
     | false => exact absurd (hzb rfl) (by simp)
    subst this
    simp only [Bool.and_self, if_true] at hr
    subst hr
    simp only [vU0]
    refine sxv [] zE0 zA0 Tryz.func21 ?_
    refine lB0 ?_
    refine c5' hmt ?_
    refine xw1 hcf ?_
    refine CallK.con [] [9101] rfl hmv (by simp [go_sem, hde]) ?_
    refine qI0 ?_
    refine CallK.con [9101] [] rfl hm2 (by simp [go_sem, hde]) ?_
    refine jj0 ?_
    refine c0' hva ?_
    exact ⟨[9101], by simp, rfl, by simp [go_sem], rfl⟩
 ·rw [if_neg hg] at hr
  subst hr
  clear hmv hm2 hva hfz
  generalize (zY0 d m).isSome = b1 at hmt hg
  generalize (zY0 d m).getD zeroT = t1 at hmt
  generalize vK0 d m.fo = b2 at hcf hg
  obtain ⟨t1k, t1n, t1s, t1t⟩ := t1
  obtain ⟨⟨k, n, s, ts⟩, nx, fs, rw_⟩ := m
  rw [zN0] at *
  rw [vU0] at *
  refine sxv [] zE0 zA0 Tryz.func21 ?_
  refine lB0 ?_
  refine c5' hmt ?_
  refine c0' hcf ?_
  have hend : ∀ (h : ¬ ((b1 && decide (0 ≤ nx) && b2) = true)), True := fun _ => trivial
  refine ⟨fun h2 => ⟨fun h1 => ⟨fun _ => CallK.out hcp rfl ?_, fun h3 => ?_⟩, fun _ => CallK.out hcp rfl ?_⟩, fun _ => CallK.out hcp rfl ?_⟩
  ·refine qI0 ?_
   exact mp1
  ·exact (hg (by rw [h1, h2]; simp; omega)).elim
  ·refine qI0 ?_
   exact mp1
  ·refine qI0 ?_
   exact mp1
end Go.Ai
namespace Go.Ai
open Go.Proofs
set_option maxRecDepth 100000
def itM (d : GDefinition) : Nat → GMachine → GMachine
 | 0, m => m
 | i + 1, m => (zX0 d (itM d i m)).1
def fa0 (i : Nat) (m : GMachine) : Prop := m.wf ∧ m.fo.size ≤ 1000 ∧ m.st.length ≤ 540 ∧ (∀ f, f ∈ m.st → f.t.size ≤ 1000) ∧ 0 ≤ m.rw ∧ m.rw ≤ i
theorem wR1 (d : GDefinition) (hw : d.wf) (hs : d.size < 1048577) (t : Tm) (htw : t.wf) (hts : t.size ≤ 1000) : ∀ i, i ≤ 12 → (wx1 d (itM d i (qo0 t)) ∧ 0 ≤ (itM d i (qo0 t)).rw ∧ (itM d i (qo0 t)).rw ≤ i) ∨ (itM d i (qo0 t) = qo0 t ∧ vK0 d t = false)
 | 0, _ => by
  cases hc : vK0 d t with
  | true => exact .inl ⟨to0 t (cfg_ok d hw t htw hc).2.1 d, Int.le_refl _, Int.le_refl _⟩
  | false => exact .inr ⟨rfl, rfl⟩
 | i + 1, hi => by
  rcases wR1 d hw hs t htw hts i (by omega) with ⟨h1, h2, h3⟩ | ⟨h1, h2⟩
  ·left
   simp only [itM]
   generalize itM d i (qo0 t) = m at h1 h2 h3
   cases hb : (zX0 d m).2 with
   | true =>
    obtain ⟨k1, k2⟩ := tp0 d hw hs m h1 hb
    refine ⟨k1, ?_⟩
    rcases wm1 d m _ k2 with h | ⟨h, _⟩
    ·rw [h, IntWalk.i64_in _ (by omega)]; omega
    ·rw [h]; omega
   | false =>
    have he : (zX0 d m).1 = m := by
     unfold zX0 at hb ⊢
     split
     ·rename_i hg
      rw [if_pos hg] at hb
      split
      ·rfl
      ·rename_i m' hm
       rw [hm] at hb
       simp only at hb ⊢
       split
       ·rename_i hv; rw [if_pos hv] at hb; cases hb
       ·rfl
     ·rfl
    rw [he]
    exact ⟨h1, by omega, by omega⟩
  ·right
   simp only [itM, h1]
   refine ⟨?_, h2⟩
   unfold zX0
   rw [if_neg (by simp [qo0, h2])]
theorem wQ1 (d : GDefinition) (hw : d.wf) (hs : d.size < 1048577) (t : Tm) (htw : t.wf) (hts : t.size ≤ 1000) (i : Nat) (hi : i ≤ 12) : fa0 i (itM d i (qo0 t)) := by
 rcases wR1 d hw hs t htw hts i hi with ⟨h1, h2, h3⟩ | ⟨h1, h2⟩
 ·obtain ⟨a, b, c, e⟩ := h1
  exact ⟨a, by omega, by omega, fun f hf => by have := e f hf; omega, h2, h3⟩
 ·rw [h1]
  exact ⟨⟨htw, kJ0 0 (by omega) (by omega), ⟨Nat.zero_le _, fun _ h => by cases h⟩, kJ0 0 (by omega) (by omega)⟩, hts, by simp [qo0], (fun f hf => by cases hf), by simp [qo0], by simp [qo0]⟩
theorem xM0 {i : Nat} {m : GMachine} (h : fa0 i m) : m.size < 600000 := by
 obtain ⟨_, h1, h2, h3, _⟩ := h
 have := rB0 GFrame.size 1000 m.st (fun f hf => by have := h3 f hf; simp only [GFrame.size, szI]; omega)
 have h4 : (1000 + 1) * m.st.length ≤ 1001 * 540 := Nat.mul_le_mul_left 1001 h2
 simp only [GMachine.size, szI]; omega
def gM (m : GMachine) : Prop := m.wf ∧ m.size < 700000 ∧ 0 ≤ m.rw ∧ m.rw ≤ 12
theorem vr1 {i : Nat} {m : GMachine} (hi : i ≤ 12) (h : fa0 i m) : gM m := ⟨h.1, by have := xM0 h; omega, h.2.2.2.2.1, by have := h.2.2.2.2.2; omega⟩
theorem bY1 {i : Nat} {m : GMachine} (hi : i ≤ 12) (h : fa0 i m) (x : Int) (h0 : -100 ≤ x) (h1 : x ≤ 100) : gM { m with nx := x } := by
 have := vr1 hi h
 exact ⟨⟨h.1.1, qb0 x h0 h1, h.1.2.2.1, h.1.2.2.2⟩, this.2⟩
theorem bX1 {i : Nat} {m : GMachine} (hi : i ≤ 12) (h : fa0 i m) (t : Tm) (ht : gT 1000 t) : gM { m with fo := t } := by
 have h2 : fa0 i { m with fo := t } := ⟨⟨ht.1, h.1.2⟩, ht.2, h.2.2⟩
 exact vr1 hi h2
theorem bZ1 {i : Nat} {m : GMachine} (hi : i ≤ 12) (h : fa0 i m) (t : Tm) (ht : gT 1000 t) (x : Int) (h0 : 0 ≤ x) (h1 : x ≤ 100) : gM { m with st := m.st ++ [⟨t, x⟩] } := by
 have h3 := xM0 h
 have h4 := ht.2
 refine ⟨⟨h.1.1, h.1.2.1, ⟨by have := h.2.2.1; simp only [List.length_append, List.length_singleton, maxLen]; omega, fun f hf => ?_⟩, h.1.2.2.2⟩, ?_, h.2.2.2.2.1, by have := h.2.2.2.2.2; simp only; omega⟩
 ·rcases List.mem_append.1 hf with hf | hf
  ·exact h.1.2.2.1.2 f hf
  ·rw [List.mem_singleton.1 hf]; exact ⟨ht.1, qb0 x (by omega) h1⟩
 ·simp only [GMachine.size, szI, fk0, szL, GFrame.size] at h3 ⊢
  omega
def mC9 : GMachine → List AC
 | ⟨.mk k n s ts, nx, fs, rw_⟩ => [iC k, iC n, sC s, tC ts, iC nx, .own 9105 fs.length, iC rw_]
theorem rt0 (k n : Int) (s : ByteArray) (ts : List Tm) (nx : Int) (fs : List GFrame) (rw_ : Int) : mC9 ⟨.mk k n s ts, nx, fs, rw_⟩ = [iC k, iC n, sC s, tC ts, iC nx, .own 9105 fs.length, iC rw_] := rfl
theorem nu0 (t : Tm) (h : t.size < 1048577) : qy0 Tryz.prog 84 [tmV t] [] [] (match t with | .mk k n s ts => .agg [iC k, iC n, sC s, tC ts, iC 0, .nil, iC 0]) := by
 have hc := qk0 t h
 obtain ⟨k, n, s, ts⟩ := t
 refine sxv [] zE0 zA0 Tryz.func84 ?_
 refine jj0 ?_
 refine c5' hc ?_
 exact t8'
theorem ta0 (bs : List Int) (hb : wr0 bs) (c : Cur) (hc : c.i ≤ bs.length) : ∃ c' d m, c'.i ≤ bs.length ∧ gD 30000 d ∧ gM m ∧ qy0 Tryz.prog 72 [.one (.ptr 0 0)] [qq0 bs c] [qq0 bs c'] (.tup [zn0 (GDefinition.enc d), zn0 (GMachine.enc m)]) := by
 obtain ⟨c1, rs, st, i1, grs, lrs, gst, lst, s1⟩ := wU1 bs hb c hc
 obtain ⟨c2, t, i2, gt, s2⟩ := xc0 bs hb c1 i1
 obtain ⟨c3, x3, i3, x3a, x3b, s3⟩ := zP0 bs hb c2 i2 12 (by omega)
 obtain ⟨c4, x4, i4, x4a, x4b, s4⟩ := zP0 bs hb c3 i3 16 (by omega)
 obtain ⟨N, rfl⟩ : ∃ N : Nat, x3 = (N : Int) := ⟨x3.toNat, by omega⟩
 have gd : gD 30000 ⟨baseS, rs, st⟩ := bd1 gS_base grs (Nat.le_trans lrs (by decide)) gst (Nat.le_trans lst (by decide))
 have hds : (GDefinition.mk baseS rs st).size < 1048577 := by have := gd.2; omega
 have hsm := fun i hi => wQ1 ⟨baseS, rs, st⟩ gd.1 hds t gt.1 gt.2 i hi
 have hst := fun i (hi : i ≤ 12) => cE0 ⟨baseS, rs, st⟩ gd.1 hds (itM ⟨baseS, rs, st⟩ i (qo0 t)) (hsm i hi).1 (by have := xM0 (hsm i hi); omega)
 have hsN := hsm N (by omega)
 have hld := nu0 t (by have := gt.2; omega)
 have htail : ∃ c' m, c'.i ≤ bs.length ∧ gM m ∧ ((x4 = 0 ∧ ∃ v, m = { itM ⟨baseS, rs, st⟩ N (qo0 t) with nx := v } ∧ qy0 Tryz.prog 146 [.one (.ptr 0 0), slV ([-1, 0, 1, 9].map encI)] [qq0 bs c4] [qq0 bs c'] (zH0 v)) ∨
   (x4 = 1 ∧ ∃ c5 u v, m = { itM ⟨baseS, rs, st⟩ N (qo0 t) with st := (itM ⟨baseS, rs, st⟩ N (qo0 t)).st ++ [⟨u, v⟩] } ∧ qy0 Tryz.prog 115 [.one (.ptr 0 0)] [qq0 bs c4] [qq0 bs c5] (tmV u) ∧ qy0 Tryz.prog 92 [.one (.ptr 0 0), zH0 3] [qq0 bs c5] [qq0 bs c'] (zH0 v)) ∨
   (x4 = 2 ∧ ∃ u, m = { itM ⟨baseS, rs, st⟩ N (qo0 t) with fo := u } ∧ qy0 Tryz.prog 81 [.one (.ptr 0 0)] [qq0 bs c4] [qq0 bs c'] (tmV u)) ∨
   (3 ≤ x4 ∧ c' = c4 ∧ m = itM ⟨baseS, rs, st⟩ N (qo0 t))) := by
  rcases (by omega : x4 = 0 ∨ x4 = 1 ∨ x4 = 2 ∨ 3 ≤ x4) with h | h | h | h
  ·obtain ⟨c5, v, i5, hv, s5⟩ := xG0 bs hb c4 i4 [-1, 0, 1, 9] (by simp) (by decide)
   exact ⟨c5, _, i5, bY1 (by omega) hsN v (by simp at hv; omega) (by simp at hv; omega), .inl ⟨h, v, rfl, s5⟩⟩
  ·obtain ⟨c5, u, i5, gu, s5⟩ := xc0 bs hb c4 i4
   obtain ⟨c6, v, i6, va, vb, s6⟩ := zP0 bs hb c5 i5 3 (by omega)
   exact ⟨c6, _, i6, bZ1 (by omega) hsN u gu v va (by omega), .inr (.inl ⟨h, c5, u, v, rfl, s5, s6⟩)⟩
  ·obtain ⟨c5, u, i5, gu, s5⟩ := pt0 bs hb c4 i4
   exact ⟨c5, _, i5, bX1 (by omega) hsN u gu, .inr (.inr (.inl ⟨h, u, rfl, s5⟩))⟩
  ·exact ⟨c4, _, i4, vr1 (by omega) hsN, .inr (.inr (.inr ⟨h, rfl, rfl⟩))⟩
 obtain ⟨c', m, i', gm, htail⟩ := htail
 refine ⟨c', _, m, i', gd, gm, ?_⟩
 have hde : (GDefinition.mk baseS rs st).enc = [.sl (baseS.so.map encS), .sl (baseS.op.map GOp.enc), .sl (rs.map GRule.enc), .sl (st.map GStrict.enc)] := rfl
 have hse : ∀ i, itM ⟨baseS, rs, st⟩ (i + 1) (qo0 t) = (zX0 ⟨baseS, rs, st⟩ (itM ⟨baseS, rs, st⟩ i (qo0 t))).1 := fun i => rfl
 have hi0 : itM ⟨baseS, rs, st⟩ 0 (qo0 t) = qo0 t := rfl
 have hfl : ∀ i, i ≤ 12 → (itM ⟨baseS, rs, st⟩ i (qo0 t)).st.length ≤ 540 := fun i hi => (hsm i hi).2.2.1
 clear gd hds hsm hsN gm
 generalize GDefinition.mk baseS rs st = dd at hst hse hi0 hde htail hfl ⊢
 rw [hde]
 obtain ⟨tk, tn, tz, ta⟩ := t
 refine sxv [(12, ([⟨0, 3, [5], [38]⟩, ⟨1, 3, [36], [38]⟩, ⟨0, 5, [5], [40]⟩, ⟨1, 5, [36], [40]⟩], [3, 5])), (15, ([⟨1, 2, [5], [2]⟩], []))] zE0 zA0 Tryz.func72 ?_
 refine qI0 ?_
 refine LoanK.con [9000] [9101, 9102, 9103, 9104] s1 rfl (by simp [go_sem, encS, encI]) ?_
 refine qI0 ?_
 refine LoanK.con [9000] [] s2 rfl (by simp [go_sem, encS, encI]) ?_
 refine qI0 ?_
 refine CallK.con [] [] rfl hld (by simp [go_sem, Tm.enc]) ?_
 refine qI0 ?_
 refine LoanK.con [9000] [] s3 rfl (by simp [go_sem, encS, encI]) ?_
 refine qI0 ?_
 refine yL0 [(12, ([⟨0, 3, [5], [38]⟩, ⟨1, 3, [36], [38]⟩, ⟨0, 5, [5], [40]⟩, ⟨1, 5, [36], [40]⟩], [3, 5])), (15, ([⟨1, 2, [5], [2]⟩], []))] (ι := Nat) (fun i => mk 53 [(0, .one (.ptr 9000 0)), (2, .one (.ptr 2 0)), (3, .one (.ptr 3 0)), (4, .one (.ptr 4 0)), (5, .one (.ptr 5 0)), (6, zH0 N), (7, zH0 i)] [(9000, qq0 bs c3), (2, .var [.nil, .nil, .nil, .nil]), (3, .var [iC 0, iC 0, sC ⟨#[]⟩, .nil, iC 0, .nil, iC 0]), (4, .var [.c (.sl (baseS.so.map encS)), .c (.sl (baseS.op.map GOp.enc)), .c (.sl (rs.map GRule.enc)), .c (.sl (st.map GStrict.enc))]), (5, .var (mC9 (itM dd i (qo0 (.mk tk tn tz ta))))), (9105, fR (itM dd i (qo0 (.mk tk tn tz ta))).st)] [.one (.ptr 9000 0)])
  (fun i => i ≤ N) (fun i => N - i) 0 (Nat.zero_le _) ?_ zE0 zA0 (by decide +kernel) ?_
 ·refine (wu0 4 0 9101 (rows' := baseS.so.map encS) rfl rfl rfl rfl rfl).trans ?_
  refine (wu0 4 1 9102 (rows' := baseS.op.map GOp.enc) rfl rfl rfl rfl rfl).trans ?_
  refine (wu0 4 2 9103 (rows' := rs.map GRule.enc) rfl rfl rfl (by simp [rowsOf_len]) qJ0).trans ?_
  refine (wu0 4 3 9104 (rows' := st.map GStrict.enc) rfl rfl rfl (by simp [rowsOf_len]) qJ0).trans ?_
  refine (fp0 5 5 9105 124 5 (by simp [zJ0, jo0]; rfl) (by simp) (by simp [zJ0, jo0]) (by decide)).trans ?_
  exact le_mk (by simp [go_sem]) (by simp [go_sem, itM, qo0, rt0, rowsOf])
 ·intro i hi
  have hsi := hst i (by omega)
  have hfl := hfl i (by omega)
  rcases Nat.lt_or_ge i N with hlt | hge
  ·rw [hde, ← hse i] at hsi
   generalize hm1 : itM dd (i + 1) (qo0 (.mk tk tn tz ta)) = m1 at hsi
   generalize itM dd i (qo0 (.mk tk tn tz ta)) = m0 at hsi hfl ⊢
   generalize (zX0 dd m0).2 = b at hsi
   obtain ⟨⟨ak, an, az, aa⟩, ax, af, ar⟩ := m0
   obtain ⟨⟨ek, en, ez, ea⟩, ex, ef, er⟩ := m1
   rw [zN0] at hsi
   simp only [vU0] at hsi
   simp only [rt0]
   simp -implicitDefEqProofs (disch := omega) only [go_sem, hlt]
   refine CallK.con [] [9106] rfl hsi (by simp [go_sem]) ?_
   refine qI0 ?_
   refine ⟨i + 1, hlt, by omega, ?_⟩
   rw [hm1]
   refine (le_mk (L' := [(0, .one (.ptr 9000 0)), (2, .one (.ptr 2 0)), (3, .one (.ptr 3 0)), (4, .one (.ptr 4 0)), (5, .one (.ptr 5 0)), (6, zH0 N), (7, zH0 (i + 1 : Nat))]) (B' := [(9000, qq0 bs c3), (2, .var [.nil, .nil, .nil, .nil]), (3, .var [iC 0, iC 0, sC ⟨#[]⟩, .nil, iC 0, .nil, iC 0]), (4, .var [.c (.sl (baseS.so.map encS)), .c (.sl (baseS.op.map GOp.enc)), .c (.sl (rs.map GRule.enc)), .c (.sl (st.map GStrict.enc))]), (5, .var [iC ek, iC en, sC ez, tC ea, iC ex, .own 9106 ef.length, iC er]), (9106, fR ef)]) (by simp [go_sem]) (by simp [go_sem])).trans ((lw0 (e := 124) (sz := 5) (rows := rowsOf GFrame.enc ef) 5 9106 9105 (by simp [zJ0]; rfl) (by simp [zJ0]) (by simp [zJ0]) zk0 zd0).trans (le_mk (by simp [go_sem]) (by simp [go_sem, xX1, rowsOf_len, rt0])))
  ·have : i = N := by omega
   subst this
   clear hsi hst hse hi0
   generalize itM dd i (qo0 (.mk tk tn tz ta)) = m0 at htail hfl ⊢
   obtain ⟨⟨ak, an, az, aa⟩, ax, af, ar⟩ := m0
   simp only at hfl
   simp only [rt0]
   simp -implicitDefEqProofs (disch := omega) only [go_sem, Int.lt_irrefl, Nat.lt_irrefl]
   refine LoanK.con [9000] [] s4 rfl (by simp [go_sem, encS, encI]) ?_
   rcases htail with ⟨rfl, v, rfl, h1⟩ | ⟨rfl, c5, u, v, rfl, h1, h2⟩ | ⟨rfl, u, rfl, h1⟩ | ⟨hx, rfl, rfl⟩
   ·refine qI0 ?_
    refine LoanK.con [9000] [] h1 rfl (by simp [go_sem, encS, encI]) ?_
    simp -implicitDefEqProofs (disch := omega) only [go_sem, zN0]
    exact mm1
   ·obtain ⟨uk, un, uz, ua⟩ := u
    refine qI0 ?_
    refine UvC.mk [9000] h1 (by simp [go_sem, encS, encI]) (by simp [go_sem]) ?_
    simp -implicitDefEqProofs (disch := omega) only [go_sem, zN0]
    refine UvC.mk [9000] h2 (by simp [go_sem, encS, encI]) (by simp [go_sem]) ?_
    simp -implicitDefEqProofs (disch := omega) only [go_sem, zN0, Tm.enc, List.length_map]
    refine ⟨⟨by simp, by omega, by omega⟩, fun _ => ⟨[], by simp, rfl, trivial, rfl, ⟨fun r hr a ha => ?_, ?_⟩, by simp⟩⟩
    ·rcases List.mem_append.1 hr with hr | hr
     ·obtain ⟨x, _, rfl⟩ := List.mem_map.1 hr
      obtain ⟨y, _, rfl⟩ := List.mem_map.1 ha
      rfl
     ·rw [List.mem_singleton.1 hr] at ha
      simp only [List.mem_cons, List.not_mem_nil, or_false] at ha
      rcases ha with rfl | rfl | rfl | rfl | rfl <;> rfl
    ·simp only [List.map_append, rowsOf_toC, List.map_cons, List.map_nil, toC, qH0]
     rfl
   ·obtain ⟨uk, un, uz, ua⟩ := u
    refine qI0 ?_
    refine LoanK.con [9000] [] h1 rfl (by simp [go_sem, encS, encI]) ?_
    simp -implicitDefEqProofs (disch := omega) only [go_sem, zN0, Tm.enc]
    exact mm1
   ·have n0 : (x4 == 0) = false := by simp only [beq_eq_false_iff_ne, ne_eq]; omega
    have n1 : (x4 == 1) = false := by simp only [beq_eq_false_iff_ne, ne_eq]; omega
    have n2 : (x4 == 2) = false := by simp only [beq_eq_false_iff_ne, ne_eq]; omega
    simp -implicitDefEqProofs (disch := omega) only [go_sem, n0, n1, n2, zN0]
    exact mm1
theorem vE0 (bs : List Int) (hb : wr0 bs) : ∃ d m, gD 30000 d ∧ gM m ∧ Sat Tryz.prog 19 [slV (bs.map mC0)] (.tup [zn0 (GDefinition.enc d), zn0 (GMachine.enc m)]) := by
 obtain ⟨c, hc, s0⟩ := wV1 bs hb
 obtain ⟨c', d, m, hc', gd, gm, s1⟩ := ta0 bs hb c hc
 refine ⟨d, m, gd, gm, ?_⟩
 obtain ⟨⟨dso, dop⟩, dru, dst⟩ := d
 obtain ⟨⟨k, n, s, ts⟩, nx, fs, rw_⟩ := m
 refine svc [] zE0 zA0 Tryz.func19 ?_
 refine qI0 ?_
 refine CallK.newN s0 rfl rfl ?_
 refine qI0 ?_
 refine LoanK.con [5] [] s1 rfl (by simp [go_sem, encS, encI]) ?_
 refine qI0 ?_
 rfl
theorem vD0 (bs : List Int) (hb : wr0 bs) : ∃ t, gT 1000 t ∧ Sat Tryz.prog 24 [slV (bs.map mC0)] (tmV t) := by
 obtain ⟨c, hc, s0⟩ := wV1 bs hb
 obtain ⟨c', t, hc', gt, s1⟩ := pt0 bs hb c hc
 refine ⟨t, gt, ?_⟩
 obtain ⟨k, n, s, ts⟩ := t
 refine svc [] zE0 zA0 Tryz.func24 ?_
 refine qI0 ?_
 refine CallK.newN s0 rfl rfl ?_
 refine qI0 ?_
 refine LoanK.con [4] [] s1 rfl (by simp [go_sem, encS, encI]) ?_
 refine qI0 ?_
 rfl
end Go.Ai
