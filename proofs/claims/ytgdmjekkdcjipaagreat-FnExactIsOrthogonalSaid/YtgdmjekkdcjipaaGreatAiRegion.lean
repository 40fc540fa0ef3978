/- One step of an operation in the abstract machine, and that the model makes it. -/
import Derived.Test.YtgdmjekkdcjipaaGreatAiCon
set_option linter.unusedVariables false
set_option linter.unusedSimpArgs false
namespace Go.Ai
open Go.RowKit
variable {P : Program} {tab : Tab} {w0 : World} {M0 : Ms} {F0 F F' : Fz} {g : Gh} {s s' : St} {a : Act} {w w' : World} {lb : Lk}
def xq0 : AV → Option FuncId
 | .one (.c (.v (.func (.func f) fst cap))) => if fst.size = 0 ∧ cap.size = 0 then some f else none
 | _ => none
def dg1 (s : St) (c : Call) : List Nat := (c.args.toList.map (opv s)).flatMap AV.owns
def tb0 (tab : Tab) (o : Oper) (s s' : St) : Prop := ∃ pr e, kQ0 tab o s = some (pr, e) ∧ pr ∧ e.ok o.dst s ∧ s' = e.app o.dst s
def td0 (P : Program) (fid : FuncId) (vs : List AV) (d : Option Tmp) (s s' : St) : Prop :=
 (∃ ds r, zJ0 s.lb vs ds ∧ Sat P fid ds r ∧ s' = (s.frzs (vs.flatMap AV.owns)).set d r) ∨
 (∃ ds r, qb0 s.lb vs ds ∧ Sat P fid ds r ∧ yu0 r = true ∧ s' = s.set d r) ∨
 (∃ ds r t, qb0 s.lb vs ds ∧ SatF P fid ds r ∧ d = some t ∧ s.lb t = none ∧ s' = (s.put t (.tok (flR r))).set d (tkR t r)) ∨
 (∃ ds e sz rows r t, zJ0 s.lb vs ds ∧ vs.flatMap AV.owns = [] ∧ SatO P fid ds e sz rows r ∧ d = some t ∧ s.lb t = none ∧ s' = (s.put t (.arr e sz rows false)).set d (lK0 t r)) ∨
 (∃ ds e sz rows n t, qb0 s.lb vs ds ∧ SatO P fid ds e sz rows (.one (.own 0 n)) ∧ pd0 rows = true ∧ d = some t ∧ s.lb t = none ∧ s' = (s.put t (.arr e sz rows false)).set d (.one (.own t n))) ∨
 (∃ ds cells t, zJ0 s.lb vs ds ∧ vs.flatMap AV.owns = [] ∧ vD1 P fid ds cells ∧ d = some t ∧ s.lb t = none ∧ s' = (s.put t (.var cells)).set d (.one (.ptr t 0)))
def xi0 (P : Program) (o : Oper) (s s' : St) : Prop := ∃ c f fid, o.op = .call c ∧ c.callee = .value f ∧ xq0 (opv s f) = some fid ∧ (∀ t, o.dst = some t → t < s.n) ∧ td0 P fid (c.args.toList.map (opv s)) o.dst s s'
def dT1 (P : Program) (o : Oper) (s s' : St) : Prop := ∃ c f fid ds ds' r, o.op = .call c ∧ c.callee = .value f ∧ xq0 (opv s f) = some fid ∧ (∀ t, o.dst = some t → t < s.n) ∧ do1 P fid ds ds' r ∧
 wJ1 (c.args.toList.map (opv s)) ds s.lb (fun lb => zj1 (c.args.toList.map (opv s)) ds' lb (fun lb' => s' = (s.withLb lb').set o.dst r))
def xl1 (P : Program) (o : Oper) (s s' : St) : Prop := ∃ c f fid ds k e sz rows rows' rest t, o.op = .call c ∧ c.callee = .value f ∧ xq0 (opv s f) = some fid ∧ (∀ t, o.dst = some t → t < s.n) ∧ zJ0 s.lb (c.args.toList.map (opv s)) ds ∧
 ff0 P fid (ds.take k) (ds.drop (k + 1)) e sz rows rows' rest ∧ yz1 (c.args.toList.map (opv s)) k e sz rows s ∧ o.dst = some t ∧ s.lb t = none ∧ s' = ((ye0 (c.args.toList.map (opv s)) k s).put t (.arr e sz rows' false)).set o.dst (wj1 t rows'.length rest)
def xp1 (P : Program) (o : Oper) (s s' : St) : Prop := ∃ c f fid ds e sz rows r t, o.op = .call c ∧ c.callee = .value f ∧ xq0 (opv s f) = some fid ∧ (∀ t, o.dst = some t → t < s.n) ∧ zJ0 s.lb (c.args.toList.map (opv s)) ds ∧
 SatO P fid ds e sz rows r ∧ o.dst = some t ∧ s.lb t = none ∧ s' = ((s.frzs ((c.args.toList.map (opv s)).flatMap AV.owns)).put t (.arr e sz rows false)).set o.dst (lK0 t r)
def dm1 (P : Program) (o : Oper) (s s' : St) : Prop := ∃ c f fid ds k e sz rows rest, o.op = .call c ∧ c.callee = .value f ∧ xq0 (opv s f) = some fid ∧ (∀ t, o.dst = some t → t < s.n) ∧ zJ0 s.lb (c.args.toList.map (opv s)) ds ∧
 dU1 P fid (ds.take k) (ds.drop (k + 1)) e sz rows rest ∧ yz1 (c.args.toList.map (opv s)) k e sz rows s ∧ s' = (ye0 (c.args.toList.map (opv s)) k s).set o.dst (vk1 rest)
def xr1 (P : Program) (o : Oper) (s s' : St) : Prop := ∃ c f fid ds k e sz rows r, o.op = .call c ∧ c.callee = .value f ∧ xq0 (opv s f) = some fid ∧ (∀ t, o.dst = some t → t < s.n) ∧ zJ0 s.lb (c.args.toList.map (opv s)) ds ∧
 xu1 P fid (ds.take k) (ds.drop (k + 1)) e sz rows r ∧ yz1 (c.args.toList.map (opv s)) k e sz rows s ∧ s' = s.set o.dst r
def xn1 (P : Program) (o : Oper) (s s' : St) : Prop := ∃ c f fid ds k x r t, o.op = .call c ∧ c.callee = .value f ∧ xq0 (opv s f) = some fid ∧ (∀ t, o.dst = some t → t < s.n) ∧ zJ0 s.lb (c.args.toList.map (opv s)) ds ∧
 xT1 P fid (ds.take k) (ds.drop (k + 1)) x r ∧ jz1 (c.args.toList.map (opv s)) k x s ∧ o.dst = some t ∧ s.lb t = none ∧ s' = ((ye0 (c.args.toList.map (opv s)) k s).put t (.tok (flR r))).set o.dst (tkR t r)
def xk1 (P : Program) (tab : Tab) (o : Oper) (s s' : St) : Prop := tb0 tab o s s' ∨ xi0 P o s s'
def cs0 (ops : Array Oper) (o : Oper) (s : St) (b : Bool) : Prop :=
 match o.guard with
 | none => b = true
 | some (j, wnt) => ∃ d, ((ops[j]?).bind (·.dst)) = some d ∧ ((∃ x, s.sl d = .one (.c (.v (.bool x))) ∧ b = (x == wnt)) ∨ (s.sl d = .tup [] ∧ b = false))
def fM0 (P : Program) (tab : Tab) (ops : Array Oper) (o : Oper) (s s' : St) : Prop :=
 (cs0 ops o s true ∧ xk1 P tab o s s') ∨ (cs0 ops o s false ∧ (∀ t, o.dst = some t → t < s.n) ∧ s' = s.set o.dst (.tup []))
def wT0 (w0 : World) (M0 : Ms) (F0 : Fz) (s : St) (a : Act) (w : World) : Prop := ∃ F g, Sim w0 M0 F0 F g s a w
theorem ya0 (h : Sim w0 M0 F0 F g s a w) {ops : Array Oper} {o : Oper} {b : Bool} (hw : cs0 ops o s b) : Region.wanted o (yielded ops a.tmps) = b := by
 unfold cs0 at hw
 unfold Region.wanted
 cases hg : o.guard with
 | none => rw [hg] at hw; simp only at hw ⊢; exact hw.symm
 | some p =>
  obtain ⟨j, wnt⟩ := p
  rw [hg] at hw
  simp only at hw ⊢
  obtain ⟨d, hd, hw⟩ := hw
  have hs := h.sl d
  unfold yielded
  rw [hd]
  simp only [Option.bind_some]
  rcases hw with ⟨x, hx, rfl⟩ | ⟨hx, rfl⟩
  ·rw [hx] at hs
   have hs := hs.c_v
   have : a.tmps[d]? = some (.bool x) := by
    cases hq : a.tmps[d]? with
    | none => simp [Array.getD_eq_getD_getElem?, hq, undef] at hs
    | some v => simpa [Array.getD_eq_getD_getElem?, hq] using hs
   rw [this]
   cases x <;> cases wnt <;> rfl
  ·rw [hx] at hs
   simp only [RepAV, RepAVs] at hs
   obtain ⟨us, hu, rfl⟩ := hs
   cases hq : a.tmps[d]? with
   | none => cases wnt <;> rfl
   | some v =>
    simp [Array.getD_eq_getD_getElem?, hq] at hu
    rw [hu]; cases wnt <;> rfl
theorem qc0 (h : Sim w0 M0 F0 F g s a w) : ∀ (xs : List Operand), RepAVs w F s.lb g (xs.map (opv s)) (xs.map a.eval)
 | [] => by simp [RepAVs]
 | x :: xs => ⟨_, _, rfl, zm0 h x, qc0 h xs⟩
theorem kc0 (h : Sim w0 M0 F0 F g s a w) {f : Operand} {fid : FuncId} (hfn : xq0 (opv s f) = some fid) : a.eval f = .func (.func fid) #[] #[] := by
 have Ef := zm0 h f
 unfold xq0 at hfn
 split at hfn
 ·rename_i f' fst cap heq
  split at hfn
  ·rename_i hz
   obtain rfl := Option.some.inj hfn
   rw [heq] at Ef
   have Ef := Ef.c_v
   rw [Ef, Array.eq_empty_of_size_eq_zero hz.1, Array.eq_empty_of_size_eq_zero hz.2]
  ·cases hfn
 ·cases hfn
theorem zt0 {o : Oper} {f : Operand} {args : Array Operand} {ts : Array TypeId} {fid : FuncId} (hop : o.op = .call ⟨.value f, args, ts⟩) (hfv : a.eval f = .func (.func fid) #[] #[]) (hc : qG0 P fid) :
  (execOp a.eval o).run P w = .ok (.enter fid (args.toList.map a.eval).toArray) w := by
 obtain ⟨fn, hfun, hname, hbody⟩ := hc
 have he : (args.toList.map a.eval).toArray = args.map a.eval := by rw [← Array.toList_map, Array.toArray_toList]
 rw [he]
 simp [execOp, hop, resolve, hfv, Deferred.ofValue, invoke, callFunc, hfun, hname, hbody]
theorem rl0 (hT : zU0 P tab) (h : Sim w0 M0 F0 F g s a w) {o : Oper} (hs : xk1 P tab o s s') {K : Act → World → Prop} {Q : Exit → Act → World → Prop} (hK : ∀ a' w', wT0 w0 M0 F0 s' a' w' → K a' w') : o.wp P a w K Q := by
 rcases hs with ⟨pr, e, ho, hp, hk, rfl⟩ | ⟨c, f, fid, hop, hcal, hfn, hdst, hby⟩
 ·obtain ⟨v, w', g', hsim, hr⟩ := sk0 (P := P) hT h ho hp hk
  unfold Oper.wp
  rcases hr with hr | ⟨rfl, hr⟩
  ·rw [hr]; exact hK _ _ ⟨F, g', hsim⟩
  ·rw [hr]; exact hK _ _ ⟨F, g', hsim⟩
 ·obtain ⟨callee, args, ts⟩ := c
  simp only at hcal
  subst hcal
  have hfv := kc0 h hfn
  have hargs := qc0 h args.toList
  unfold Oper.wp
  rcases hby with ⟨ds, r, hview, hsat, rfl⟩ | ⟨ds, r, hview, hsat, hpl, rfl⟩ | ⟨ds, r, t, hview, hsat, hd, hfr, rfl⟩ | ⟨ds, e, sz, rows, r, t, hview, hno, hsat, hd, hfr, rfl⟩ | ⟨ds, e, sz, rows, n, t, hview, hsat, hpl, hd, hfr, rfl⟩ | ⟨ds, cells, t, hview, hno, hsat, hd, hfr, rfl⟩
  ·rw [zt0 hop hfv hsat.1]
   obtain ⟨F1, hF1, u1, p1⟩ := h.freezes ((args.toList.map (opv s)).flatMap AV.owns)
   have hds : RepAVs w F1 noLk g0 ds (args.toList.map a.eval) := by
    have hargs1 := RepAVs.mono (w := w) (w' := w) ⟨u1, fun _ _ _ => rfl⟩ (Keeps.refl s.lb g) _ _ hargs
    exact zW0 h u1 _ _ _ hview hargs1 (fun l hl => p1 l hl)
   refine (hsat.2 w F1 (args.toList.map a.eval) hF1.fz hds).mono ?_
   rintro e w' ⟨v, F', rfl, hbel, hup, hnew, hlt, hrep⟩
   refine hK _ _ ⟨F', g, ?_⟩
   have hgr : Sim w0 M0 F0 F' g (s.frzs ((args.toList.map (opv s)).flatMap AV.owns)) a w' := by
    refine hF1.grows ⟨⟨hup, fun b o hb => zL0 (hbel.block b (hF1.f2 b o hb)) o⟩, fun l B hl b hb => hbel.block b (hF1.nw l B hl b hb).2, fun l B hl => ?_, fun b o hb => (hnew b o hb).imp id (fun hq => .inl (Nat.le_trans hF1.size hq)), hlt,
     hbel.os, hbel.tape, hbel.output, hbel.size, fun k hk _ => hbel.block k (Nat.lt_of_lt_of_le hk hF1.size)⟩
    have hso := hF1.so l B hl
    have hnw := hF1.nw l B hl
    have hlb := hF1.lb l B hl
    cases B with
    | var cells =>
     simp only [SoftOk] at hso ⊢
     obtain ⟨_, _, _, _, hd⟩ := hlb
     intro o hf
     rcases hnew _ o hf with hf | hf
     ·exact hso o hf
     ·have := (hnw (g.bl l) (by rw [hd]; simp)).2; omega
    | arr e sz rows fz =>
     simp only [SoftOk] at hso ⊢
     obtain ⟨_, _, _, _, _, _, hd⟩ := hlb
     refine ⟨fun b hb o hcz hf => ?_, fun hz hn b hb o hf => ?_⟩
     ·rcases hnew _ o hf with hf | hf
      ·exact hso.1 b hb o hcz hf
      ·have := (hnw b (by rw [hd]; simp [hb])).2; omega
     ·rcases hnew _ o hf with hf | hf
      ·exact hso.2 hz hn b hb o hf
      ·have := (hnw b hb).2; omega
    | tok x =>
     simp only [SoftOk] at hso ⊢
     intro b hb o hf
     rcases hnew _ o hf with hf | hf
     ·exact hso b hb o hf
     ·have := (hnw b hb).2; omega
    | dead => trivial
   exact hgr.set? (by simpa using hdst) (RepAV.mono (Stays.refl w' F') ⟨fun l B hl => by simp [noLk] at hl⟩ _ _ hrep)
  ·rw [zt0 hop hfv hsat.1]
   have hds := qk0 h _ _ _ hview hargs
   refine (hsat.2 w (jk0 s g F) (args.toList.map a.eval) (pR0 h) hds).mono ?_
   rintro e w' ⟨v, F', rfl, hbel, hup, hnew, hlt, hrep⟩
   exact hK _ _ ⟨F, g, (h.below hbel).set? hdst (vZ0 hpl hrep)⟩
  ·rw [zt0 hop hfv hsat.1]
   have hds := qk0 h _ _ _ hview hargs
   refine (hsat.2 w (jk0 s g F) (args.toList.map a.eval) (pR0 h) hds).mono ?_
   rintro e w' ⟨v, S, rfl, hbel, hown, hnd, hS⟩
   obtain ⟨g', hg'⟩ := h.taken hbel hfr (hdst t hd) hown hnd hS
   refine hK _ _ ⟨F, g', ?_⟩
   rw [hd]; exact hg'
  ·rw [zt0 hop hfv hsat.1]
   refine (nv0 h hsat (qW0 h hno hview hargs) hfr).mono ?_
   rintro ex w' ⟨v, F', g', rfl, h', hr⟩
   exact hK _ _ ⟨F', g', h'.set? (fun t' ht' => by rw [St.put_n]; exact hdst t' ht') hr⟩
  ·rw [zt0 hop hfv hsat.1]
   refine (yN1 h hsat hpl (qk0 h _ _ _ hview hargs) hfr).mono ?_
   rintro ex w' ⟨v, g', rfl, h', hr⟩
   exact hK _ _ ⟨F, g', h'.set? (fun t' ht' => by rw [St.put_n]; exact hdst t' ht') hr⟩
  ·rw [zt0 hop hfv hsat.1]
   refine (qL1 h (qW0 h hno hview hargs) hsat hfr).mono ?_
   rintro ex w' ⟨v, F', g', rfl, h', hr⟩
   exact hK _ _ ⟨F', g', h'.set? (fun t' ht' => by rw [St.put_n]; exact hdst t' ht') hr⟩
theorem zO1 (vs : List AV) (k : Nat) (s : St) : (ye0 vs k s).n = s.n := by unfold ye0; split <;> rfl
theorem lO0 (h : Sim w0 M0 F0 F g s a w) {o : Oper} (hs : xl1 P o s s') {K : Act → World → Prop} {Q : Exit → Act → World → Prop} (hK : ∀ a' w', wT0 w0 M0 F0 s' a' w' → K a' w') : o.wp P a w K Q := by
 obtain ⟨c, f, fid, ds, k, e, sz, rows, rows', rest, t, hop, hcal, hfn, hdst, hview, hsat, hk, hd, ht, rfl⟩ := hs
 obtain ⟨callee, args, ts⟩ := c
 simp only at hcal
 subst hcal
 unfold Oper.wp
 rw [zt0 hop (kc0 h hfn) hsat.1]
 refine (tg0 h (qc0 h args.toList) hview hsat hk ht).mono ?_
 rintro e w' ⟨v, F', g', rfl, h', hr⟩
 exact hK _ _ ⟨F', g', h'.set? (fun t' ht' => by rw [St.put_n, zO1]; exact hdst t' ht') hr⟩
theorem lT0 (h : Sim w0 M0 F0 F g s a w) {o : Oper} (hs : xp1 P o s s') {K : Act → World → Prop} {Q : Exit → Act → World → Prop} (hK : ∀ a' w', wT0 w0 M0 F0 s' a' w' → K a' w') : o.wp P a w K Q := by
 obtain ⟨c, f, fid, ds, e, sz, rows, r, t, hop, hcal, hfn, hdst, hview, hsat, hd, ht, rfl⟩ := hs
 obtain ⟨callee, args, ts⟩ := c
 simp only at hcal
 subst hcal
 unfold Oper.wp
 rw [zt0 hop (kc0 h hfn) hsat.1]
 refine (qW1 h (qc0 h args.toList) hview hsat ht).mono ?_
 rintro e w' ⟨v, F', g', rfl, h', hr⟩
 exact hK _ _ ⟨F', g', h'.set? (fun t' ht' => by rw [St.put_n, St.frzs_n]; exact hdst t' ht') hr⟩
theorem lY0 (h : Sim w0 M0 F0 F g s a w) {o : Oper} (hs : xr1 P o s s') {K : Act → World → Prop} {Q : Exit → Act → World → Prop} (hK : ∀ a' w', wT0 w0 M0 F0 s' a' w' → K a' w') : o.wp P a w K Q := by
 obtain ⟨c, f, fid, ds, k, e, sz, rows, r, hop, hcal, hfn, hdst, hview, hsat, hk, rfl⟩ := hs
 obtain ⟨callee, args, ts⟩ := c
 simp only at hcal
 subst hcal
 unfold Oper.wp
 rw [zt0 hop (kc0 h hfn) hsat.1]
 refine (mn0 h (qc0 h args.toList) hview hsat hk).mono ?_
 rintro e w' ⟨v, rfl, h', hr⟩
 exact hK _ _ ⟨F, g, h'.set? hdst hr⟩
theorem lR0 (h : Sim w0 M0 F0 F g s a w) {o : Oper} (hs : xn1 P o s s') {K : Act → World → Prop} {Q : Exit → Act → World → Prop} (hK : ∀ a' w', wT0 w0 M0 F0 s' a' w' → K a' w') : o.wp P a w K Q := by
 obtain ⟨c, f, fid, ds, k, x, r, t, hop, hcal, hfn, hdst, hview, hsat, hk, hd, ht, rfl⟩ := hs
 obtain ⟨callee, args, ts⟩ := c
 simp only at hcal
 subst hcal
 unfold Oper.wp
 rw [zt0 hop (kc0 h hfn) hsat.1]
 refine (sQ0 h (qc0 h args.toList) hview hsat hk ht (hdst t hd)).mono ?_
 rintro e w' ⟨v, g', rfl, h'⟩
 rw [hd] at hK ⊢
 exact hK _ _ ⟨F, g', h'⟩
def vK1 (P : Program) (o : Oper) (s s' : St) : Prop := ∃ c f fid ds k e sz rows rows' rest t, o.op = .call c ∧ c.callee = .value f ∧ xq0 (opv s f) = some fid ∧ (∀ t, o.dst = some t → t < s.n) ∧ zJ0 s.lb (c.args.toList.map (opv s)) ds ∧
 ff0 P fid (ds.take k) (ds.drop (k + 1)) e sz rows rows' rest ∧ accF (c.args.toList.map (opv s)) k e sz rows s ∧ o.dst = some t ∧ s.lb t = none ∧ s' = ((ye0 (c.args.toList.map (opv s)) k (s.frzs (zs0 (c.args.toList.map (opv s)) k))).put t (.arr e sz rows' false)).set o.dst (wj1 t rows'.length rest)
def xm1 (P : Program) (o : Oper) (s s' : St) : Prop := ∃ c f fid ds r, o.op = .call c ∧ c.callee = .value f ∧ xq0 (opv s f) = some fid ∧ (∀ t, o.dst = some t → t < s.n) ∧ vH0 s.lb (c.args.toList.map (opv s)) ds ∧ Sat P fid ds r ∧ yu0 r = true ∧ s' = s.set o.dst r
def xo1 (P : Program) (o : Oper) (s s' : St) : Prop := ∃ c f fid caps ds r, o.op = .call c ∧ c.callee = .value f ∧ opv s f = .one (.clo fid caps) ∧ (∀ t, o.dst = some t → t < s.n) ∧ qb0 s.lb (c.args.toList.map (opv s)) ds ∧ fQ0 caps ∧ Sat P fid (ds ++ caps.map .one) r ∧ yu0 r = true ∧ s' = s.set o.dst r
theorem cv0 (h : Sim w0 M0 F0 F g s a w) {o : Oper} (hs : vK1 P o s s') {K : Act → World → Prop} {Q : Exit → Act → World → Prop} (hK : ∀ a' w', wT0 w0 M0 F0 s' a' w' → K a' w') : o.wp P a w K Q := by
 obtain ⟨c, f, fid, ds, k, e, sz, rows, rows', rest, t, hop, hcal, hfn, hdst, hview, hsat, hk, hd, ht, rfl⟩ := hs
 obtain ⟨callee, args, ts⟩ := c
 simp only at hcal
 subst hcal
 unfold Oper.wp
 rw [zt0 hop (kc0 h hfn) hsat.1]
 refine (rc0 h (qc0 h args.toList) hview hsat hk ht).mono ?_
 rintro e w' ⟨v, F', g', rfl, h', hr⟩
 exact hK _ _ ⟨F', g', h'.set? (fun t' ht' => by rw [St.put_n, zO1, St.frzs_n]; exact hdst t' ht') hr⟩
theorem lQ0 (h : Sim w0 M0 F0 F g s a w) {o : Oper} (hs : xm1 P o s s') {K : Act → World → Prop} {Q : Exit → Act → World → Prop} (hK : ∀ a' w', wT0 w0 M0 F0 s' a' w' → K a' w') : o.wp P a w K Q := by
 obtain ⟨c, f, fid, ds, r, hop, hcal, hfn, hdst, hview, hsat, hpl, rfl⟩ := hs
 obtain ⟨callee, args, ts⟩ := c
 simp only at hcal
 subst hcal
 unfold Oper.wp
 rw [zt0 hop (kc0 h hfn) hsat.1]
 have hds := vB0 h _ _ _ hview (qc0 h args.toList)
 refine (hsat.2 w (jk0 s g F) (args.toList.map a.eval) (pR0 h) hds).mono ?_
 rintro e w' ⟨v, F', rfl, hbel, hup, hnew, hlt, hrep⟩
 exact hK _ _ ⟨F, g, (h.below hbel).set? hdst (vZ0 hpl hrep)⟩
theorem tK0 {o : Oper} {f : Operand} {args : Array Operand} {ts : Array TypeId} {fid : FuncId} {us : List Value} (hop : o.op = .call ⟨.value f, args, ts⟩) (hfv : a.eval f = .func (.func fid) #[] us.toArray) (hc : qG0 P fid) :
  (execOp a.eval o).run P w = .ok (.enter fid ((args.toList.map a.eval) ++ us).toArray) w := by
 obtain ⟨fn, hfun, hname, hbody⟩ := hc
 have he : ((args.toList.map a.eval) ++ us).toArray = args.map a.eval ++ us.toArray := by rw [← Array.toList_map]; simp
 rw [he]
 simp [execOp, hop, resolve, hfv, Deferred.ofValue, invoke, callFunc, hfun, hname, hbody]
theorem lS0 (h : Sim w0 M0 F0 F g s a w) {o : Oper} (hs : xo1 P o s s') {K : Act → World → Prop} {Q : Exit → Act → World → Prop} (hK : ∀ a' w', wT0 w0 M0 F0 s' a' w' → K a' w') : o.wp P a w K Q := by
 obtain ⟨c, f, fid, caps, ds, r, hop, hcal, hfn, hdst, hview, hip, hsat, hpl, rfl⟩ := hs
 obtain ⟨callee, args, ts⟩ := c
 simp only at hcal
 subst hcal
 have Ef := zm0 h f
 rw [hfn] at Ef
 simp only [RepAV, RepAC] at Ef
 obtain ⟨us, hfv, hus⟩ := Ef
 unfold Oper.wp
 rw [tK0 hop hfv hsat.1]
 have hds := qk0 h _ _ _ hview (qc0 h args.toList)
 have hcs : RepAVs w (jk0 s g F) noLk g0 (caps.map .one) us := cx0 (fun b o hb => .inl hb) caps us hip hus
 refine (hsat.2 w (jk0 s g F) (args.toList.map a.eval ++ us) (pR0 h) (RepAVs.appL hds hcs)).mono ?_
 rintro e w' ⟨v, F', rfl, hbel, hup, hnew, hlt, hrep⟩
 exact hK _ _ ⟨F, g, (h.below hbel).set? hdst (vZ0 hpl hrep)⟩
def xq1 (P : Program) (o : Oper) (s s' : St) : Prop := ∃ c f fid j ds1 ds2 B B' r, o.op = .call c ∧ c.callee = .value f ∧ xq0 (opv s f) = some fid ∧ (∀ t, o.dst = some t → t < s.n) ∧ zJ0 s.lb ((c.args.toList.map (opv s)).take j) ds1 ∧ zJ0 s.lb ((c.args.toList.map (opv s)).drop (j + 1)) ds2 ∧
 xt1 P fid ds1 ds2 B B' r ∧ yP1 (c.args.toList.map (opv s)) j B s ∧ s' = ((s.frzs (zs0 (c.args.toList.map (opv s)) j)).put (gA0 (c.args.toList.map (opv s)) j) B').set o.dst r
def dn1 (P : Program) (o : Oper) (s s' : St) : Prop := ∃ c f fid ds cells t, o.op = .call c ∧ c.callee = .value f ∧ xq0 (opv s f) = some fid ∧ (∀ t, o.dst = some t → t < s.n) ∧ zJ0 s.lb (c.args.toList.map (opv s)) ds ∧ (c.args.toList.map (opv s)).flatMap AV.owns = [] ∧
 vD1 P fid ds cells ∧ o.dst = some t ∧ s.lb t = none ∧ s' = (s.put t (.var cells)).set o.dst (.one (.ptr t 0))
theorem lU0 (h : Sim w0 M0 F0 F g s a w) {o : Oper} (hs : xq1 P o s s') {K : Act → World → Prop} {Q : Exit → Act → World → Prop} (hK : ∀ a' w', wT0 w0 M0 F0 s' a' w' → K a' w') : o.wp P a w K Q := by
 obtain ⟨c, f, fid, j, ds1, ds2, B, B', r, hop, hcal, hfn, hdst, hv1, hv2, hsat, hk, rfl⟩ := hs
 obtain ⟨callee, args, ts⟩ := c
 simp only at hcal
 subst hcal
 unfold Oper.wp
 rw [zt0 hop (kc0 h hfn) hsat.1]
 refine (sb0 h (qc0 h args.toList) hv1 hv2 hsat hk).mono ?_
 rintro e w' ⟨v, F', g', rfl, h', hr⟩
 exact hK _ _ ⟨F', g', h'.set? (fun t' ht' => by rw [St.put_n, St.frzs_n]; exact hdst t' ht') hr⟩
def vM1 (P : Program) (o : Oper) (s s' : St) : Prop := ∃ c f fid args Bs Bs' r ls ns, o.op = .call c ∧ c.callee = .value f ∧ xq0 (opv s f) = some fid ∧ (∀ t, o.dst = some t → t < s.n) ∧ fL0 P fid args Bs Bs' r ∧ (ls ++ ns).Nodup ∧ lH0 s.lb (idx (ls ++ ns)) ls Bs ∧
 conA (wm0 s.lb) (idx (ls ++ ns)) Bs.length ls (c.args.toList.map (opv s)) args ∧ vp0 s ns ∧ (ls ++ ns).length = Bs'.length ∧ s' = nU0 (c.args.toList.map (opv s)) args Bs' r ls ns s o.dst
theorem xw0 (h : Sim w0 M0 F0 F g s a w) {o : Oper} (hs : vM1 P o s s') {K : Act → World → Prop} {Q : Exit → Act → World → Prop} (hK : ∀ a' w', wT0 w0 M0 F0 s' a' w' → K a' w') : o.wp P a w K Q := by
 obtain ⟨c, f, fid, args', Bs, Bs', r, ls, ns, hop, hcal, hfn, hdst, hsat, hnd, hB, hA, hfr, hlen, rfl⟩ := hs
 obtain ⟨callee, args, ts⟩ := c
 simp only at hcal
 subst hcal
 unfold Oper.wp
 rw [zt0 hop (kc0 h hfn) hsat.1]
 refine (zL1 h (qc0 h args.toList) hsat hnd hB hA hfr hlen).mono ?_
 rintro e w' ⟨v, F', g', rfl, h', hr⟩
 exact hK _ _ ⟨F', g', h'.set? (fun t' ht' => by rw [putsX_n, St.frzs_n]; exact hdst t' ht') hr⟩
def vT0 (o : Oper) : Bool :=
 match o.op with
 | .call ⟨.value _, _, _⟩ => true
 | .call ⟨.builtin .append, _, _⟩ => true
 | _ => false
def cq0 (P : Program) (tab : Tab) (o : Oper) (s s' : St) : Prop := vT0 o = true ∧ (zU0 P tab → ∀ (w0 : World) (M0 : Ms) (F0 F : Fz) (g : Gh) (a : Act) (w : World), Sim w0 M0 F0 F g s a w → ∀ (K : Act → World → Prop) (Q : Exit → Act → World → Prop), (∀ a' w', wT0 w0 M0 F0 s' a' w' → K a' w') → o.wp P a w K Q)
theorem lZ0 (hT : zU0 P tab) (h : Sim w0 M0 F0 F g s a w) {o : Oper} (hs : cq0 P tab o s s') {K : Act → World → Prop} {Q : Exit → Act → World → Prop} (hK : ∀ a' w', wT0 w0 M0 F0 s' a' w' → K a' w') : o.wp P a w K Q := hs.2 hT _ _ _ _ _ _ _ h K Q hK
theorem qJ0 {o : Oper} {f : Operand} {args : Array Operand} {ts : Array TypeId} (h : o.op = .call ⟨.value f, args, ts⟩) : vT0 o = true := by simp [vT0, h]
theorem ActsB.toW {o : Oper} (h : ActsB tab o s s') : cq0 P tab o s s' := by
 refine ⟨?_, fun hT w0 M0 F0 F g a w hs K Q hK => lP0 hT hs h hK⟩
 obtain ⟨p, h, _⟩ := h
 unfold vE1 at h
 split at h
 ·rename_i args ts hop
  simp [vT0, hop]
 ·cases h
end Go.Ai
namespace Go.Ai
open Go.RowKit
variable {P : Program} {tab : Tab}
def AC.refs : AC → List Nat
 | .own l _ => [l]
 | .ptr l _ => [l]
 | .ep l _ _ _ => [l]
 | .tk l _ => [l]
 | _ => []
def AV.refs : AV → List Nat
 | .one a => a.refs
 | .agg as => as.flatMap AC.refs
 | _ => []
def eqv (a b : Option LB) : Prop := a = b ∨ ∃ e sz rows f f', a = some (.arr e sz rows f) ∧ b = some (.arr e sz rows f')
theorem eqv.refl (a : Option LB) : eqv a a := .inl rfl
theorem eqv.symm {a b : Option LB} (h : eqv a b) : eqv b a := by
 rcases h with h | ⟨e, sz, rows, f, f', h1, h2⟩
 ·exact .inl h.symm
 ·exact .inr ⟨e, sz, rows, f', f, h2, h1⟩
theorem mT0 {lb lb' : Lk} {t : TypeId} {p : AV} (h : ∀ l, l ∈ p.refs → eqv (lb l) (lb' l)) : cA0 tab lb' t p = cA0 tab lb t p := by
 unfold cA0
 cases tab t with
 | none => cases p <;> rfl
 | some ti =>
  cases p with
  | one a =>
   cases a with
   | ptr l off =>
    rcases h l (by simp [AV.refs, AC.refs]) with he | ⟨e, sz, rows, f, f', h1, h2⟩
    ·simp only [he]
    ·simp only [h1, h2]
   | ep l n i off =>
    rcases h l (by simp [AV.refs, AC.refs]) with he | ⟨e, sz, rows, f, f', h1, h2⟩
    ·simp only [he]
    ·simp only [h1, h2]
   | _ => rfl
  | _ => rfl
theorem sX0 {lb lb' : Lk} {t : Option TI} {p : AV} (h : ∀ l, l ∈ p.refs → eqv (lb l) (lb' l)) : kJ1 lb' t p = kJ1 lb t p := by
 unfold kJ1
 split <;> try rfl
 ·rename_i l n
  rcases h l (by simp [AV.refs, AC.refs]) with he | ⟨e, sz, rows, f, f', h1, h2⟩
  ·simp only [he]
  ·simp only [h1, h2]
 ·rename_i k i
  rcases h k (by simp [AV.refs, AC.refs]) with he | ⟨e, sz, rows, f, f', h1, h2⟩
  ·simp only [he]
  ·simp only [h1, h2]
theorem xS0 {lb lb' : Lk} {t : Option TI} {p : AV} {f : Nat} (h : ∀ l, l ∈ p.refs → eqv (lb l) (lb' l)) : qV0 lb' t p f = qV0 lb t p f := by
 unfold qV0
 split <;> try rfl
 split <;> try rfl
 cases p with
 | one a =>
  cases a with
  | ptr l off =>
   rcases h l (by simp [AV.refs, AC.refs]) with he | ⟨e, sz, rows, f, f', h1, h2⟩
   ·simp only [he]
   ·simp only [h1, h2]
  | ep l n i off =>
   rcases h l (by simp [AV.refs, AC.refs]) with he | ⟨e, sz, rows, f, f', h1, h2⟩
   ·simp only [he]
   ·simp only [h1, h2]
  | _ => rfl
 | _ => rfl
theorem xZ0 {lb lb' : Lk} {t : TypeId} {p i : AV} (h : ∀ l, l ∈ p.refs → eqv (lb l) (lb' l)) : qX0 tab lb' t p i = qX0 tab lb t p i := by
 unfold qX0
 split <;> try rfl
 split <;> try rfl
 rename_i l n _
 rcases h l (by simp [AV.refs, AC.refs]) with he | ⟨e, sz, rows, f, f', h1, h2⟩
 ·simp only [he]
 ·simp only [h1, h2]
theorem lt0 {lb lb' : Lk} {t t' : TypeId} {p : AV} (h : ∀ l, l ∈ p.refs → eqv (lb l) (lb' l)) : ls0 tab lb' t t' p = ls0 tab lb t t' p := by
 unfold ls0
 split <;> try rfl
 rename_i l n _ _
 rcases h l (by simp [AV.refs, AC.refs]) with he | ⟨e, sz, rows, f, f', h1, h2⟩
 ·simp only [he]
 ·simp only [h1, h2]
def wS0 (xs : Array Operand) : List Tmp := xs.toList.filterMap fun | .tmp t => some t | _ => none
theorem wG0 {s s' : St} {xs : Array Operand} (h : ∀ t, t ∈ wS0 xs → s'.sl t = s.sl t) {x : Operand} (hx : x ∈ xs.toList) : opv s' x = opv s x := by
 cases x with
 | tmp t => exact h t (by simp only [wS0, List.mem_filterMap]; exact ⟨.tmp t, hx, rfl⟩)
 | _ => rfl
def zM0 (o : Oper) : Bool :=
 match o.op with
 | .move _ | .assign _ | .pick _ _ _ | .build _ _ | .binOp _ _ _ _ _ | .unOp _ _ _ | .extract _ _ => true
 | _ => false
def qB0 (o : Oper) : Bool :=
 match o.op with
 | .store _ _ _ => true
 | .call c => (match c.callee with | .builtin _ => (match c.callee with | .builtin .len => false | .builtin .max => false | _ => true) | _ => false)
 | _ => false
theorem rt0 {lb lb' : Lk} {p : AV} (h : ∀ l, l ∈ p.refs → eqv (lb l) (lb' l)) : jj1 lb' p = jj1 lb p := by
 unfold jj1
 cases p with
 | one a =>
  cases a with
  | ptr l off =>
   rcases h l (by simp [AV.refs, AC.refs]) with he | ⟨e, sz, rows, f, f', h1, h2⟩
   ·simp only [he]
   ·simp only [h1, h2]
  | _ => rfl
 | _ => rfl
theorem kE0 {s s' : St} {o : Oper} (hs : ∀ t, t ∈ wS0 o.op.operands → s'.sl t = s.sl t) (hl : ∀ x, x ∈ o.op.operands.toList → ∀ l, l ∈ (opv s x).refs → eqv (s.lb l) (s'.lb l)) :
  jO0 tab o s' = jO0 tab o s := by
 have O : ∀ x, x ∈ o.op.operands.toList → opv s' x = opv s x := fun x hx => wG0 hs hx
 unfold jO0
 split
 ·rename_i x hop; rw [O x (by simp [hop, Op.operands])]
 ·rename_i x hop; rw [O x (by simp [hop, Op.operands])]
 ·rename_i c x y hop; rw [O c (by simp [hop, Op.operands]), O x (by simp [hop, Op.operands]), O y (by simp [hop, Op.operands])]
 ·rename_i t parts hop
  have : (parts.toList.map fun (i, x) => (i, opv s' x)) = (parts.toList.map fun (i, x) => (i, opv s x)) := by
   apply List.map_congr_left
   rintro ⟨i, x⟩ hp
   simp only
   rw [O x (by simp only [hop, Op.operands, List.mem_map]; exact ⟨(i, x), hp, rfl⟩)]
  rw [this]
 ·rename_i t x hop
  have hx : x ∈ o.op.operands.toList := by simp [hop, Op.operands]
  rw [O x hx]; exact mT0 (hl x hx)
 ·rename_i op t x y t' hop; rw [O x (by simp [hop, Op.operands]), O y (by simp [hop, Op.operands])]
 ·rename_i t x hop; rw [O x (by simp [hop, Op.operands])]
 ·rename_i t x f hop
  have hx : x ∈ o.op.operands.toList := by simp [hop, Op.operands]
  rw [O x hx]; exact xS0 (hl x hx)
 ·rename_i x hop
  have hx : x ∈ o.op.operands.toList := by simp [hop, Op.operands]
  rw [O x hx]; exact rt0 (hl x hx)
 ·rename_i t x i hop
  have hx : x ∈ o.op.operands.toList := by simp [hop, Op.operands]
  rw [O x hx, O i (by simp [hop, Op.operands])]; exact xZ0 (hl x hx)
 ·rename_i t x i hop
  rw [O x (by simp [hop, Op.operands]), O i (by simp [hop, Op.operands])]
 ·rename_i t x lo hi hop
  rw [O x (by simp [hop, Op.operands])]
  have h1 : lo.map (opv s') = lo.map (opv s) := by
   cases lo with
   | none => rfl
   | some y => simp only [Option.map_some]; rw [O y (by simp [hop, Op.operands])]
  have h2 : hi.map (opv s') = hi.map (opv s) := by
   cases hi with
   | none => rfl
   | some y => simp only [Option.map_some]; rw [O y (by simp [hop, Op.operands])]
  rw [h1, h2]
 ·rename_i t x lo hi mx hop
  rw [O x (by simp [hop, Op.operands]), O lo (by simp [hop, Op.operands]), O hi (by simp [hop, Op.operands]), O mx (by simp [hop, Op.operands])]
 ·rename_i t t' x hop
  have hx : x ∈ o.op.operands.toList := by simp [hop, Op.operands]
  rw [O x hx]; exact lt0 (hl x hx)
 ·rename_i x i hop; rw [O x (by simp [hop, Op.operands])]
 ·rename_i t x f hop; rw [O x (by simp [hop, Op.operands])]
 ·rename_i f fst caps hop
  have : caps.toList.map (opv s') = caps.toList.map (opv s) := List.map_congr_left (fun x hx => O x (by simp only [hop, Op.operands, Array.toList_append, List.mem_append]; exact .inr hx))
  rw [this]
 ·rename_i c hop
  have C : ∀ x, x ∈ c.args.toList → x ∈ o.op.operands.toList := fun x hx => by
   simp only [hop, Op.operands, Call.operands, Array.toList_append, List.mem_append]; exact .inr hx
  unfold wz0
  split
  ·split
   ·rename_i x t ha ht
    have hx := C x (by simp [ha])
    rw [O x hx]; exact sX0 (hl x hx)
   ·rfl
  ·split
   ·rename_i x y ha
    rw [O x (C x (by simp [ha])), O y (C y (by simp [ha]))]
   ·rfl
  ·rfl
 ·rfl
theorem vX0 {s s' : St} {o : Oper} (hw : qB0 o = false) (hs : ∀ t, t ∈ wS0 o.op.operands → s'.sl t = s.sl t) (hl : ∀ x, x ∈ o.op.operands.toList → ∀ l, l ∈ (opv s x).refs → eqv (s.lb l) (s'.lb l)) :
  kQ0 tab o s' = kQ0 tab o s := by
 have O : ∀ x, x ∈ o.op.operands.toList → opv s' x = opv s x := fun x hx => wG0 hs hx
 have hpure := kE0 (tab := tab) hs hl
 unfold kQ0
 split
 ·rfl
 ·rename_i t x hop; rw [O x (by simp [hop, Op.operands])]
 ·rename_i t len parts hop
  have : (parts.toList.map fun (i, x) => (i, opv s' x)) = (parts.toList.map fun (i, x) => (i, opv s x)) := by
   apply List.map_congr_left
   rintro ⟨i, x⟩ hp
   simp only
   rw [O x (by simp only [hop, Op.operands, List.mem_map]; exact ⟨(i, x), hp, rfl⟩)]
  rw [this]
 ·rename_i t x y hop; rw [O x (by simp [hop, Op.operands]), O y (by simp [hop, Op.operands])]
 ·rename_i t p x hop; simp [qB0, hop] at hw
 ·rename_i c hop
  unfold xO0
  split
  ·rename_i hc; simp [qB0, hop, hc] at hw
  ·unfold jO0 at hpure
   simp only [hop] at hpure
   rw [hpure]
 ·rw [hpure]
theorem sj0 {s s' : St} {o : Oper} (hs : ∀ t, t ∈ wS0 o.op.operands → s'.sl t = s.sl t) (hlb : s'.lb = s.lb) : kQ0 tab o s' = kQ0 tab o s := by
 have O : ∀ x, x ∈ o.op.operands.toList → opv s' x = opv s x := fun x hx => wG0 hs hx
 by_cases hw : qB0 o = false
 ·exact vX0 hw hs (fun x _ l _ => by rw [hlb]; exact eqv.refl _)
 ·have hpure := kE0 (tab := tab) hs (fun x _ l _ => by rw [hlb]; exact eqv.refl _)
  unfold kQ0
  split
  ·rfl
  ·rename_i t x hop; exact absurd (by simp [qB0, hop]) hw
  ·rename_i t len parts hop; exact absurd (by simp [qB0, hop]) hw
  ·rename_i t x y hop; exact absurd (by simp [qB0, hop]) hw
  ·rename_i t p x hop; rw [O p (by simp [hop, Op.operands]), O x (by simp [hop, Op.operands]), hlb]
  ·rename_i c hop
   have C : ∀ x, x ∈ c.args.toList → x ∈ o.op.operands.toList := fun x hx => by
    simp only [hop, Op.operands, Call.operands, Array.toList_append, List.mem_append]; exact .inr hx
   unfold xO0
   split
   ·split
    ·rename_i x y t t' ha ht
     rw [O x (C x (by simp [ha])), O y (C y (by simp [ha])), hlb]
    ·rfl
   ·unfold jO0 at hpure
    simp only [hop] at hpure
    rw [hpure]
  ·rw [hpure]
theorem qU1 {s s' : St} {o : Oper} (hw : zM0 o = true) (hs : ∀ t, t ∈ wS0 o.op.operands → s'.sl t = s.sl t) : kQ0 tab o s' = kQ0 tab o s := by
 have O : ∀ x, x ∈ o.op.operands.toList → opv s' x = opv s x := fun x hx => wG0 hs hx
 unfold kQ0
 split
 ·rfl
 ·rename_i t x hop; simp [zM0, hop] at hw
 ·rename_i t len parts hop; simp [zM0, hop] at hw
 ·rename_i t x y hop; simp [zM0, hop] at hw
 ·rename_i t p x hop; simp [zM0, hop] at hw
 ·rename_i c hop; simp [zM0, hop] at hw
 ·unfold jO0
  split
  ·rename_i x hop; rw [O x (by simp [hop, Op.operands])]
  ·rename_i x hop; rw [O x (by simp [hop, Op.operands])]
  ·rename_i c x y hop; rw [O c (by simp [hop, Op.operands]), O x (by simp [hop, Op.operands]), O y (by simp [hop, Op.operands])]
  ·rename_i t parts hop
   have : (parts.toList.map fun (i, x) => (i, opv s' x)) = (parts.toList.map fun (i, x) => (i, opv s x)) := by
    apply List.map_congr_left
    rintro ⟨i, x⟩ hp
    simp only
    rw [O x (by simp only [hop, Op.operands, List.mem_map]; exact ⟨(i, x), hp, rfl⟩)]
   rw [this]
  ·rename_i t x hop; simp [zM0, hop] at hw
  ·rename_i op t x y t' hop; rw [O x (by simp [hop, Op.operands]), O y (by simp [hop, Op.operands])]
  ·rename_i t x hop; rw [O x (by simp [hop, Op.operands])]
  ·rename_i t x f hop; simp [zM0, hop] at hw
  ·rename_i x hop; simp [zM0, hop] at hw
  ·rename_i t x i hop; simp [zM0, hop] at hw
  ·rename_i t x i hop; simp [zM0, hop] at hw
  ·rename_i t x lo hi hop; simp [zM0, hop] at hw
  ·rename_i t x lo hi mx hop; simp [zM0, hop] at hw
  ·rename_i t t' x hop; simp [zM0, hop] at hw
  ·rename_i x i hop; rw [O x (by simp [hop, Op.operands])]
  ·rename_i t x f hop; first | (simp [zM0, hop] at hw; done) | rw [O x (by simp [hop, Op.operands])]
  ·rename_i f fst caps hop; simp [zM0, hop] at hw
  ·rename_i c hop; simp [zM0, hop] at hw
  ·rfl
end Go.Ai
namespace Go.Ai
open Go.RowKit
variable {P : Program} {tab : Tab} {ops : Array Oper}
def St.app (s : St) (φ : Lk → Lk) (d : Option Tmp) (v : AV) : St := ({ s with lb := φ s.lb } : St).set d v
def kR0 (d : Nat) (B : LB) (lb : Lk) : Lk := fun k => if k = d then some B else lb k
def ws0 (l : Nat) (lb : Lk) : Lk := fun k => if k = l then (lb k).map LB.frz else lb k
def kP0 (ls : List Nat) (lb : Lk) : Lk := ls.foldl (fun lb l => ws0 l lb) lb
theorem pL0 (ls : List Nat) : ∀ (s : St), s.frzs ls = { s with lb := kP0 ls s.lb } := by
 induction ls with
 | nil => intro s; rfl
 | cons l ls ih => intro s; exact ih (s.frz l)
inductive Form (o : Oper) (s : St) : (Lk → Lk) → Prop
 | id : Form o s (fun lb => lb)
 | put (d : Nat) (B : LB) (hd : o.dst = some d) (hn : s.lb d = none) : Form o s (kR0 d B)
 | frz (ls : List Nat) (h : ∀ l, l ∈ ls → ∃ x, x ∈ o.op.operands.toList ∧ l ∈ (opv s x).refs) : Form o s (kP0 ls)
structure AgreeW (ops : Array Oper) (o : Oper) (s t : St) : Prop where
 sl : ∀ k, k ∈ o.looksAt ops → t.sl k = s.sl k
 lb : ∀ x, x ∈ o.op.operands.toList → ∀ l, l ∈ (opv s x).refs → eqv (s.lb l) (t.lb l)
 dn : ∀ d, o.dst = some d → s.lb d = none → t.lb d = none
 n : t.n = s.n
theorem qO0 {o : Oper} {k : Tmp} (h : k ∈ wS0 o.op.operands) : k ∈ o.looksAt ops := by
 unfold Oper.looksAt
 exact List.mem_append_left _ h
theorem zZ0 {o : Oper} {s t : St} {b : Bool} (hs : ∀ k, k ∈ o.looksAt ops → t.sl k = s.sl k) (h : cs0 ops o s b) : cs0 ops o t b := by
 unfold cs0 at h ⊢
 cases hg : o.guard with
 | none => rw [hg] at h; exact h
 | some p =>
  obtain ⟨j, w⟩ := p
  rw [hg] at h
  simp only at h ⊢
  obtain ⟨d, hd, h⟩ := h
  have : t.sl d = s.sl d := hs d (by
   unfold Oper.looksAt
   refine List.mem_append_right _ ?_
   rw [hg]
   simp only [hd]
   simp)
  exact ⟨d, hd, by rw [this]; exact h⟩
theorem pb0 : ∀ (v : AV) (l : Nat), l ∈ v.owns → l ∈ v.refs := by
 have one : ∀ (a : AC) (l : Nat), l ∈ a.owns → l ∈ a.refs := by
  intro a l h
  cases a <;> simp_all [AC.owns, AC.refs]
 intro v l h
 cases v with
 | one a => exact one a l h
 | agg as =>
  obtain ⟨a, ha, hl⟩ := List.mem_flatMap.1 h
  exact List.mem_flatMap.2 ⟨a, ha, one a l hl⟩
 | _ => simp [AV.owns] at h
theorem kL0 {lb lb' : Lk} {a : AC} {x : C} (h : ∀ l, l ∈ a.refs → eqv (lb l) (lb' l)) (hv : yx0 lb a x) : yx0 lb' a x := by
 cases a <;> simp only [yx0] at hv ⊢ <;> try exact hv
 rename_i l n
 obtain ⟨e, sz, rows, fz, rows', hl, hr⟩ := hv
 rcases h l (by simp [AC.refs]) with he | ⟨e1, sz1, rows1, f, f', h1, h2⟩
 ·exact ⟨e, sz, rows, fz, rows', he ▸ hl, hr⟩
 ·rw [hl] at h1
  obtain ⟨rfl, rfl, rfl, rfl⟩ := LB.arr.inj (Option.some.inj h1)
  exact ⟨e, sz, rows, f', rows', h2, hr⟩
theorem xK0 {lb lb' : Lk} : ∀ (as ys : List AC), (∀ l, l ∈ as.flatMap AC.refs → eqv (lb l) (lb' l)) → jn0 lb as ys → jn0 lb' as ys
 | [], _, _, hv => by simpa only [jn0] using hv
 | a :: as, ys, h, hv => by
  simp only [jn0] at hv ⊢
  obtain ⟨x, ys', h1, h2, h3⟩ := hv
  exact ⟨x, ys', h1, kL0 (fun l hl => h l (by simp [hl])) h2, xK0 as ys' (fun l hl => h l (by
   obtain ⟨c, hc1, hc2⟩ := List.mem_flatMap.1 hl
   exact List.mem_flatMap.2 ⟨c, by simp [hc1], hc2⟩)) h3⟩
theorem jU0 {lb lb' : Lk} {v d : AV} (h : ∀ l, l ∈ v.refs → eqv (lb l) (lb' l)) (hv : wm0 lb v d) : wm0 lb' v d := by
 cases v <;> simp only [wm0] at hv ⊢
 ·obtain ⟨x, h1, h2⟩ := hv
  exact ⟨x, h1, kL0 h h2⟩
 ·obtain ⟨ys, h1, h2⟩ := hv
  exact ⟨ys, h1, xK0 _ _ h h2⟩
theorem wb0 {lb lb' : Lk} : ∀ (vs ds : List AV), (∀ v, v ∈ vs → ∀ l, l ∈ v.refs → eqv (lb l) (lb' l)) → zJ0 lb vs ds → zJ0 lb' vs ds
 | [], _, _, hv => by simpa only [zJ0] using hv
 | v :: vs, ds, h, hv => by
  simp only [zJ0] at hv ⊢
  obtain ⟨d, ds', h1, h2, h3⟩ := hv
  exact ⟨d, ds', h1, jU0 (h v (by simp)) h2, wb0 vs ds' (fun u hu => h u (by simp [hu])) h3⟩
theorem fG0 {lb lb' : Lk} {a : AC} {x : C} (h : ∀ l, l ∈ a.refs → eqv (lb l) (lb' l)) (hv : ra0 lb a x) : ra0 lb' a x := by
 cases a
 case tk k i =>
  obtain ⟨xs, hl, hx⟩ := hv
  rcases h k (by simp [AC.refs]) with he | ⟨e1, sz1, rows1, f, f', h1, h2⟩
  ·exact ⟨xs, he ▸ hl, hx⟩
  ·rw [hl] at h1; cases h1
 all_goals exact kL0 (x := x) h hv
theorem xI0 {lb lb' : Lk} : ∀ (as ys : List AC), (∀ l, l ∈ as.flatMap AC.refs → eqv (lb l) (lb' l)) → jm0 lb as ys → jm0 lb' as ys
 | [], _, _, hv => by simpa only [jm0] using hv
 | a :: as, ys, h, hv => by
  simp only [jm0] at hv ⊢
  obtain ⟨x, ys', h1, h2, h3⟩ := hv
  exact ⟨x, ys', h1, fG0 (fun l hl => h l (by simp [hl])) h2, xI0 as ys' (fun l hl => h l (by
   obtain ⟨c, hc1, hc2⟩ := List.mem_flatMap.1 hl
   exact List.mem_flatMap.2 ⟨c, by simp [hc1], hc2⟩)) h3⟩
theorem lA0 {lb lb' : Lk} {v d : AV} (h : ∀ l, l ∈ v.refs → eqv (lb l) (lb' l)) (hv : vl0 lb v d) : vl0 lb' v d := by
 cases v <;> simp only [vl0] at hv ⊢
 ·obtain ⟨x, h1, h2⟩ := hv
  exact ⟨x, h1, fG0 h h2⟩
 ·obtain ⟨ys, h1, h2⟩ := hv
  exact ⟨ys, h1, xI0 _ _ h h2⟩
theorem wc0 {lb lb' : Lk} : ∀ (vs ds : List AV), (∀ v, v ∈ vs → ∀ l, l ∈ v.refs → eqv (lb l) (lb' l)) → qb0 lb vs ds → qb0 lb' vs ds
 | [], _, _, hv => by simpa only [qb0] using hv
 | v :: vs, ds, h, hv => by
  simp only [qb0] at hv ⊢
  obtain ⟨d, ds', h1, h2, h3⟩ := hv
  exact ⟨d, ds', h1, lA0 (h v (by simp)) h2, wc0 vs ds' (fun u hu => h u (by simp [hu])) h3⟩
theorem qH0 {c : Call} {x : Operand} (h : x ∈ c.args.toList) : x ∈ (Op.call c).operands.toList := by
 simp only [Op.operands, Call.operands, Array.toList_append, List.mem_append]; exact .inr h
theorem pB0 {c : Call} {f : Operand} (h : c.callee = .value f) : f ∈ (Op.call c).operands.toList := by
 simp [Op.operands, Call.operands, h]
theorem yb0 {o : Oper} {s s' : St} (h : xi0 P o s s') : ∃ φ v, s' = s.app φ o.dst v ∧ Form o s φ ∧ ∀ t, AgreeW ops o s t → xi0 P o t (t.app φ o.dst v) := by
 obtain ⟨c, f, fid, hop, hcal, hfn, hdst, hby⟩ := h
 have O : ∀ t, AgreeW ops o s t → ∀ x, x ∈ o.op.operands.toList → opv t x = opv s x := fun t ha x hx => wG0 (fun k hk => ha.sl k (qO0 hk)) hx
 have args : ∀ t, AgreeW ops o s t → c.args.toList.map (opv t) = c.args.toList.map (opv s) := fun t ha => List.map_congr_left (fun x hx => O t ha x (by rw [hop]; exact qH0 hx))
 have look : ∀ t, AgreeW ops o s t → ∀ v, v ∈ c.args.toList.map (opv s) → ∀ l, l ∈ v.refs → eqv (s.lb l) (t.lb l) := fun t ha v hv l hl => by
  obtain ⟨x, hx, rfl⟩ := List.mem_map.1 hv
  exact ha.lb x (by rw [hop]; exact qH0 hx) l hl
 have mk : ∀ t, AgreeW ops o s t → ∀ s2, td0 P fid (c.args.toList.map (opv s)) o.dst t s2 → xi0 P o t s2 := fun t ha s2 hb =>
  ⟨c, f, fid, hop, hcal, by rw [O t ha f (by rw [hop]; exact pB0 hcal)]; exact hfn, by rw [ha.n]; exact hdst, by rw [args t ha]; exact hb⟩
 rcases hby with ⟨ds, r, hview, hsat, rfl⟩ | ⟨ds, r, hview, hsat, hpl, rfl⟩ | ⟨ds, r, d, hview, hsat, hd, hfr, rfl⟩ | ⟨ds, e, sz, rows, r, d, hview, hno, hsat, hd, hfr, rfl⟩ | ⟨ds, e, sz, rows, n, d, hview, hsat, hpl, hd, hfr, rfl⟩ | ⟨ds, cells, d, hview, hno, hsat, hd, hfr, rfl⟩
 ·refine ⟨kP0 ((c.args.toList.map (opv s)).flatMap AV.owns), r, by rw [pL0]; rfl, .frz _ (fun l hl => ?_), fun t ha => mk t ha _ (.inl ⟨ds, r, wb0 _ _ (look t ha) hview, hsat, by rw [pL0]; rfl⟩)⟩
  obtain ⟨v, hv, hl⟩ := List.mem_flatMap.1 hl
  obtain ⟨x, hx, rfl⟩ := List.mem_map.1 hv
  exact ⟨x, by rw [hop]; exact qH0 hx, pb0 _ _ hl⟩
 ·exact ⟨fun lb => lb, r, rfl, .id, fun t ha => mk t ha _ (.inr (.inl ⟨ds, r, wc0 _ _ (look t ha) hview, hsat, hpl, rfl⟩))⟩
 ·refine ⟨kR0 d (.tok (flR r)), tkR d r, rfl, .put d _ hd hfr, fun t ha => mk t ha _ (.inr (.inr (.inl ⟨ds, r, d, wc0 _ _ (look t ha) hview, hsat, hd, ha.dn d hd hfr, rfl⟩)))⟩
 ·refine ⟨kR0 d (.arr e sz rows false), lK0 d r, rfl, .put d _ hd hfr, fun t ha => mk t ha _ (.inr (.inr (.inr (.inl ⟨ds, e, sz, rows, r, d, wb0 _ _ (look t ha) hview, hno, hsat, hd, ha.dn d hd hfr, rfl⟩))))⟩
 ·refine ⟨kR0 d (.arr e sz rows false), .one (.own d n), rfl, .put d _ hd hfr, fun t ha => mk t ha _ (.inr (.inr (.inr (.inr (.inl ⟨ds, e, sz, rows, n, d, wc0 _ _ (look t ha) hview, hsat, hpl, hd, ha.dn d hd hfr, rfl⟩)))))⟩
 ·refine ⟨kR0 d (.var cells), .one (.ptr d 0), rfl, .put d _ hd hfr, fun t ha => mk t ha _ (.inr (.inr (.inr (.inr (.inr ⟨ds, cells, d, wb0 _ _ (look t ha) hview, hno, hsat, hd, ha.dn d hd hfr, rfl⟩)))))⟩
theorem tQ0 {o : Oper} {s : St} {pr : Prop} {v : AV} {l : Nat} {B : LB} (h : kQ0 tab o s = some (pr, .upd v l B)) : qB0 o = true := by
 unfold kQ0 at h
 split at h
 ·cases ht : tab _ <;> rw [ht] at h <;> cases h
 ·cases ht : (opv s _).cs <;> rw [ht] at h <;> cases h
 ·split at h
  ·split at h
   ·split at h
    ·rename_i x _ _ _ _ _
     cases hf : jv0 _ _ _ <;> rw [hf] at h <;> cases h
    ·cases h
   ·cases h
  ·cases h
 ·split at h
  ·split at h
   ·split at h
    ·cases h
    ·cases h
   ·cases h
  ·cases h
 ·rename_i t p x hop
  simp [qB0, hop]
 ·rename_i c hop
  unfold xO0 at h
  split at h
  ·rename_i hc; simp [qB0, hop, hc]
  ·cases hf : wz0 tab s c <;> rw [hf] at h <;> cases h
 ·cases hf : jO0 tab o s <;> rw [hf] at h <;> cases h
theorem vJ0 {o : Oper} {s : St} {d : Nat} {v : AV} {B : LB} (hd : o.dst = some d) : (Eff.new v B).app o.dst s = s.app (kR0 d B) o.dst v := by
 unfold Eff.app St.app; rw [hd]; rfl
theorem ku0 {o : Oper} {s s' : St} (hw : qB0 o = false) (h : fM0 P tab ops o s s') : ∃ φ v, s' = s.app φ o.dst v ∧ Form o s φ ∧ ∀ t, AgreeW ops o s t → fM0 P tab ops o t (t.app φ o.dst v) := by
 rcases h with ⟨hwant, hact⟩ | ⟨hwant, hd, rfl⟩
 ·rcases hact with ⟨pr, e, ho, hp, hk, rfl⟩ | hc
  ·have cong : ∀ t, AgreeW ops o s t → kQ0 tab o t = some (pr, e) := fun t ha => by
    rw [← ho]; exact vX0 hw (fun k hk => ha.sl k (qO0 hk)) ha.lb
   cases e with
   | val v => exact ⟨fun lb => lb, v, rfl, .id, fun t ha => .inl ⟨zZ0 ha.sl hwant, .inl ⟨pr, .val v, cong t ha, hp, by simp only [Eff.ok] at hk ⊢; rw [ha.n]; exact hk, rfl⟩⟩⟩
   | new v B =>
    obtain ⟨d, hd, hn, hf⟩ := hk
    refine ⟨kR0 d B, v, vJ0 hd, .put d B hd hf, fun t ha => .inl ⟨zZ0 ha.sl hwant, .inl ⟨pr, .new v B, cong t ha, hp, ⟨d, hd, by rw [ha.n]; exact hn, ha.dn d hd hf⟩, (vJ0 hd).symm⟩⟩⟩
   | upd v l B => exact absurd (tQ0 ho) (by simp [hw])
  ·obtain ⟨φ, v, h1, h2, h3⟩ := yb0 (ops := ops) hc
   exact ⟨φ, v, h1, h2, fun t ha => .inl ⟨zZ0 ha.sl hwant, .inr (h3 t ha)⟩⟩
 ·exact ⟨fun lb => lb, .tup [], rfl, .id, fun t ha => .inr ⟨zZ0 ha.sl hwant, by rw [ha.n]; exact hd, rfl⟩⟩
theorem yH1 {o : Oper} {s : St} {pr : Prop} {e : Eff} (hf : zM0 o = true) (h : kQ0 tab o s = some (pr, e)) : ∃ v, e = .val v := by
 unfold kQ0 at h
 split at h
 ·rename_i t hop; simp [zM0, hop] at hf
 ·rename_i t x hop; simp [zM0, hop] at hf
 ·rename_i t len parts hop; simp [zM0, hop] at hf
 ·rename_i t x y hop; simp [zM0, hop] at hf
 ·rename_i t p x hop; simp [zM0, hop] at hf
 ·rename_i c hop; simp [zM0, hop] at hf
 ·cases hq : jO0 tab o s with
  | none => rw [hq] at h; cases h
  | some r => rw [hq] at h; obtain ⟨_, rfl⟩ := Prod.mk.inj (Option.some.inj h); exact ⟨_, rfl⟩
theorem kt0 {o : Oper} {s s' : St} (hf : zM0 o = true) (h : fM0 P tab ops o s s') : ∃ v, s' = s.set o.dst v ∧ ∀ t : St, (∀ k, k ∈ o.looksAt ops → t.sl k = s.sl k) → t.n = s.n → fM0 P tab ops o t (t.set o.dst v) := by
 rcases h with ⟨hwant, hact⟩ | ⟨hwant, hd, rfl⟩
 ·rcases hact with ⟨pr, e, ho, hp, hk, rfl⟩ | ⟨c, _, _, hop, _⟩
  ·obtain ⟨v, rfl⟩ := yH1 hf ho
   exact ⟨v, rfl, fun t hs hn => .inl ⟨zZ0 hs hwant, .inl ⟨pr, .val v, by rw [← ho]; exact qU1 hf (fun k hk => hs k (qO0 hk)), hp, by simp only [Eff.ok] at hk ⊢; rw [hn]; exact hk, rfl⟩⟩⟩
  ·simp [zM0, hop] at hf
 ·exact ⟨.tup [], rfl, fun t hs hn => .inr ⟨zZ0 hs hwant, by rw [hn]; exact hd, rfl⟩⟩
theorem rK0 {o : Oper} {s s' : St} (h : fM0 P tab ops o s s') : ∃ φ v, s' = s.app φ o.dst v ∧ ∀ t : St, (∀ k, k ∈ o.looksAt ops → t.sl k = s.sl k) → t.lb = s.lb → t.n = s.n → fM0 P tab ops o t (t.app φ o.dst v) := by
 by_cases hw : qB0 o = false
 ·obtain ⟨φ, v, h1, _, h3⟩ := ku0 hw h
  exact ⟨φ, v, h1, fun t hs hl hn => h3 t ⟨hs, fun x _ l _ => by rw [hl]; exact eqv.refl _, fun d _ hq => by rw [hl]; exact hq, hn⟩⟩
 ·rcases h with ⟨hwant, hact⟩ | ⟨hwant, hd, rfl⟩
  ·rcases hact with ⟨pr, e, ho, hp, hk, rfl⟩ | hc
   ·have cong : ∀ t : St, (∀ k, k ∈ o.looksAt ops → t.sl k = s.sl k) → t.lb = s.lb → kQ0 tab o t = some (pr, e) := fun t hs hl => by
     rw [← ho]; exact sj0 (fun k hk => hs k (qO0 hk)) hl
    cases e with
    | val v => exact ⟨fun lb => lb, v, rfl, fun t hs hl hn => .inl ⟨zZ0 hs hwant, .inl ⟨pr, .val v, cong t hs hl, hp, by simp only [Eff.ok] at hk ⊢; rw [hn]; exact hk, rfl⟩⟩⟩
    | new v B =>
     obtain ⟨d, hd, hn', hf⟩ := hk
     exact ⟨kR0 d B, v, vJ0 hd, fun t hs hl hn => .inl ⟨zZ0 hs hwant, .inl ⟨pr, .new v B, cong t hs hl, hp, ⟨d, hd, by rw [hn]; exact hn', by rw [hl]; exact hf⟩, (vJ0 hd).symm⟩⟩⟩
    | upd v l B => exact ⟨kR0 l B, v, rfl, fun t hs hl hn => .inl ⟨zZ0 hs hwant, .inl ⟨pr, .upd v l B, cong t hs hl, hp, by simp only [Eff.ok] at hk ⊢; rw [hn]; exact hk, rfl⟩⟩⟩
   ·obtain ⟨φ, v, h1, _, h3⟩ := yb0 (ops := ops) hc
    exact ⟨φ, v, h1, fun t hs hl hn => .inl ⟨zZ0 hs hwant, .inr (h3 t ⟨hs, fun x _ l _ => by rw [hl]; exact eqv.refl _, fun d _ hq => by rw [hl]; exact hq, hn⟩)⟩⟩
  ·exact ⟨fun lb => lb, .tup [], rfl, fun t hs hl hn => .inr ⟨zZ0 hs hwant, by rw [hn]; exact hd, rfl⟩⟩
theorem wR0 (s : St) (φ : Lk → Lk) (d : Option Tmp) (v : AV) (k : Tmp) (h : d ≠ some k) : (s.app φ d v).sl k = s.sl k := by
 unfold St.app
 cases d with
 | none => rfl
 | some d => rw [St.set_sl]; exact if_neg (fun e => h (by rw [e]))
theorem yy0 (s : St) (φ : Lk → Lk) (d : Option Tmp) (v : AV) : (s.app φ d v).lb = φ s.lb := by simp [St.app]
theorem cz0 (s : St) (φ : Lk → Lk) (d : Option Tmp) (v : AV) : (s.app φ d v).n = s.n := by simp [St.app]
theorem jW0 (s : St) (φ ψ : Lk → Lk) (d e : Option Tmp) (u v : AV) (hne : ∀ t, d = some t → e ≠ some t) (hc : φ (ψ s.lb) = ψ (φ s.lb)) : (s.app φ d u).app ψ e v = (s.app ψ e v).app φ d u := by
 obtain ⟨n, sl, lb, gh⟩ := s
 simp only at hc
 cases d with
 | none => cases e <;> simp [St.app, St.set, hc]
 | some d =>
  cases e with
  | none => simp [St.app, St.set, hc]
  | some e =>
   simp only [St.app, St.set, hc, St.mk.injEq, true_and, and_true]
   funext t
   by_cases h1 : t = d
   ·by_cases h2 : t = e
    ·subst h1; subst h2; exact absurd rfl (hne t rfl)
    ·rw [if_neg h2, if_pos h1, if_pos h1]
   ·by_cases h2 : t = e
    ·rw [if_pos h2, if_neg h1, if_pos h2]
    ·rw [if_neg h2, if_neg h1, if_neg h1, if_neg h2]
theorem zb1 (ls : List Nat) : ∀ (lb : Lk) (k : Nat), lb k = none → kP0 ls lb k = none := by
 induction ls with
 | nil => intro lb k h; exact h
 | cons l ls ih => intro lb k h; exact ih _ k (by show (if k = l then (lb k).map LB.frz else lb k) = none; split <;> simp [h])
theorem bj0 (ls : List Nat) : ∀ (lb : Lk) (k : Nat), eqv (lb k) (kP0 ls lb k) := by
 induction ls with
 | nil => intro lb k; exact eqv.refl _
 | cons l ls ih =>
  intro lb k
  have h1 : eqv (lb k) (ws0 l lb k) := by
   unfold ws0
   split
   ·cases lb k with
    | none => exact eqv.refl _
    | some B => cases B with
     | arr e sz rows fz => exact .inr ⟨e, sz, rows, fz, true, rfl, rfl⟩
     | _ => exact eqv.refl _
   ·exact eqv.refl _
  have h2 := ih (ws0 l lb) k
  rcases h1 with h1 | ⟨e, sz, rows, f, f', h1, h3⟩
  ·rw [h1]; exact h2
  ·rcases h2 with h2 | ⟨e', sz', rows', g, g', h4, h5⟩
   ·exact .inr ⟨e, sz, rows, f, f', h1, h2 ▸ h3⟩
   ·rw [h3] at h4
    obtain ⟨rfl, rfl, rfl, rfl⟩ := LB.arr.inj (Option.some.inj h4)
    exact .inr ⟨e, sz, rows, f, g', h1, h5⟩
theorem sN0 (l l' : Nat) (lb : Lk) : ws0 l (ws0 l' lb) = ws0 l' (ws0 l lb) := by
 funext k
 show (if k = l then (if k = l' then (lb k).map LB.frz else lb k).map LB.frz else (if k = l' then (lb k).map LB.frz else lb k)) = (if k = l' then (if k = l then (lb k).map LB.frz else lb k).map LB.frz else (if k = l then (lb k).map LB.frz else lb k))
 split <;> split <;> rfl
theorem sO0 (l : Nat) (ls : List Nat) : ∀ lb : Lk, ws0 l (kP0 ls lb) = kP0 ls (ws0 l lb) := by
 induction ls with
 | nil => intro lb; rfl
 | cons l' ls ih => intro lb; show ws0 l (kP0 ls (ws0 l' lb)) = kP0 ls (ws0 l' (ws0 l lb)); rw [ih, sN0]
theorem za1 (ls ls' : List Nat) : ∀ lb : Lk, kP0 ls (kP0 ls' lb) = kP0 ls' (kP0 ls lb) := by
 induction ls with
 | nil => intro lb; rfl
 | cons l ls ih => intro lb; show kP0 ls (ws0 l (kP0 ls' lb)) = kP0 ls' (kP0 ls (ws0 l lb)); rw [sO0, ih]
theorem nd0 (ls : List Nat) (d : Nat) (B : LB) (hd : d ∉ ls) : ∀ lb : Lk, kP0 ls (kR0 d B lb) = kR0 d B (kP0 ls lb) := by
 induction ls with
 | nil => intro lb; rfl
 | cons l ls ih =>
  intro lb
  have h1 : ws0 l (kR0 d B lb) = kR0 d B (ws0 l lb) := by
   funext k
   unfold ws0 kR0
   by_cases e : k = l
   ·have : k ≠ d := fun h => hd (by simp [← h, e])
    simp [e, this, e ▸ this]
   ·simp [e]
  show kP0 ls (ws0 l (kR0 d B lb)) = kR0 d B (kP0 ls (ws0 l lb))
  rw [h1, ih (fun h => hd (by simp [h]))]
def vN1 (s : St) : Prop := ∀ t l, l ∈ (s.sl t).refs → s.lb l ≠ none
theorem lr0 {v : Value} {a : AC} (h : yO0 v = some a) : a.refs = [] := by
 cases v <;> simp only [yO0, Option.some.injEq, reduceCtorEq] at h
 case slice A n c =>
  cases A with
  | some A => simp [yO0] at h
  | none => cases n with
   | succ n => simp [yO0] at h
   | zero => cases c with
    | succ c => simp [yO0] at h
    | zero => simp [yO0] at h; subst h; rfl
 all_goals (subst h; rfl)
theorem vn0 : ∀ {vs : List Value} {as : List AC}, wp0 vs = some as → as.flatMap AC.refs = []
 | [], as, h => by simp only [wp0, Option.some.injEq] at h; subst h; rfl
 | v :: vs, as, h => by
  simp only [wp0] at h
  split at h
  ·rename_i a as' h1 h2
   simp only [Option.some.injEq] at h
   subst h
   rw [List.flatMap_cons, lr0 h1, vn0 h2]; rfl
  ·cases h
theorem pE0 (xs : Array Value) : (vM0 (.agg xs)).refs = [] := by
 simp only [vM0]
 cases h : wp0 xs.toList with
 | none => rfl
 | some as => exact vn0 h
theorem wU0 {s : St} (h : vN1 s) (x : Operand) (l : Nat) (hl : l ∈ (opv s x).refs) : s.lb l ≠ none := by
 cases x with
 | tmp t => exact h t l hl
 | const v =>
  simp only [opv] at hl
  have : ∀ v, (vM0 v).refs = [] := by
   intro v
   cases v <;> try rfl
   case slice A n c =>
    cases A with
    | none => cases n with
     | zero => cases c <;> rfl
     | succ n => rfl
    | some A => rfl
   case agg xs => exact pE0 xs
  rw [this] at hl; cases hl
 | global g => simp [opv, AV.refs] at hl
 | func f => simp [opv, AV.refs, AC.refs] at hl
def kV0 (ops : Array Oper) (x y : Oper) : Bool :=
 x.apart ops y && (!qB0 x || zM0 y) && (!qB0 y || zM0 x)
theorem dl1 {x y : Oper} {s s1 s2 : St} (hh : vN1 s) (hc : kV0 ops x y = true) (h1 : fM0 P tab ops x s s1) (h2 : fM0 P tab ops y s1 s2) :
  ∃ s1', fM0 P tab ops y s s1' ∧ fM0 P tab ops x s1' s2 := by
 simp only [kV0, Bool.and_eq_true, Bool.or_eq_true, Bool.not_eq_true'] at hc
 obtain ⟨⟨hap, hx⟩, hy⟩ := hc
 obtain ⟨a1, a2, a3⟩ := Oper.apart_spec hap
 have nx : ∀ k, k ∈ y.looksAt ops → x.dst ≠ some k := fun k hk e => a1 k e hk
 have ny : ∀ k, k ∈ x.looksAt ops → y.dst ≠ some k := fun k hk e => a3 k e hk
 have hne : ∀ t, x.dst = some t → y.dst ≠ some t := fun t e => a2 t e
 by_cases fx : zM0 x = true
 ·obtain ⟨v, rfl, k1⟩ := kt0 fx h1
  obtain ⟨ψ, u, rfl, k2⟩ := rK0 h2
  have e1 : s.set x.dst v = s.app (fun lb => lb) x.dst v := rfl
  refine ⟨s.app ψ y.dst u, k2 s (fun k hk => (by rw [e1, wR0 _ _ _ _ _ (nx k hk)])) (by simp) (by simp), ?_⟩
  have := k1 (s.app ψ y.dst u) (fun k hk => wR0 _ _ _ _ _ (ny k hk)) (cz0 _ _ _ _)
  have e2 : (s.set x.dst v).app ψ y.dst u = (s.app ψ y.dst u).set x.dst v := jW0 s (fun lb => lb) ψ x.dst y.dst v u hne rfl
  rw [e2]; exact this
 ·have sy : qB0 y = false := hy.resolve_right fx
  by_cases fy : zM0 y = true
  ·obtain ⟨φ, v, rfl, k1⟩ := rK0 h1
   obtain ⟨u, rfl, k2⟩ := kt0 fy h2
   refine ⟨s.set y.dst u, k2 s (fun k hk => (by rw [wR0 _ _ _ _ _ (nx k hk)])) (by rw [cz0]), ?_⟩
   have e1 : s.set y.dst u = s.app (fun lb => lb) y.dst u := rfl
   have := k1 (s.set y.dst u) (fun k hk => by rw [e1, wR0 _ _ _ _ _ (ny k hk)]) (by simp) (by simp)
   have e2 : (s.app φ x.dst v).set y.dst u = (s.set y.dst u).app φ x.dst v := jW0 s φ (fun lb => lb) x.dst y.dst v u hne rfl
   rw [e2]; exact this
  ·have sx : qB0 x = false := hx.resolve_right fy
   obtain ⟨φ, v, rfl, F1, k1⟩ := ku0 sx h1
   obtain ⟨ψ, u, rfl, F2, k2⟩ := ku0 sy h2
   have Oy : ∀ z, z ∈ y.op.operands.toList → opv (s.app φ x.dst v) z = opv s z := fun z hz => wG0 (fun k hk => wR0 _ _ _ _ _ (nx k (qO0 hk))) hz
   have agree : ∀ {o : Oper} {s t : St} {χ : Lk → Lk}, vN1 s → Form o s χ → t.lb = χ s.lb → ∀ l, s.lb l ≠ none → eqv (s.lb l) (t.lb l) := by
    intro o s t χ hs hF ht l hl
    rw [ht]
    cases hF with
    | id => exact eqv.refl _
    | put d B hd hn => left; unfold kR0; rw [if_neg (fun (e : l = d) => hl (by rw [e]; exact hn))]
    | frz ls _ => exact bj0 ls _ _
   have none_ : ∀ {o : Oper} {s : St} {χ : Lk → Lk} (k : Nat), Form o s χ → (χ s.lb) k = none → s.lb k = none := by
    intro o s χ k hF hk
    cases hF with
    | id => exact hk
    | put d B hd hn => unfold kR0 at hk; split at hk; cases hk; exact hk
    | frz ls _ => rcases bj0 ls s.lb k with e | ⟨_, _, _, _, _, _, e⟩
                  ·rw [e]; exact hk
                  ·rw [hk] at e; cases e
   have A2 : AgreeW ops y (s.app φ x.dst v) s := by
    refine ⟨fun k hk => (wR0 _ _ _ _ _ (nx k hk)).symm, fun z hz l hl => ?_, fun d hd hn => ?_, (cz0 _ _ _ _).symm⟩
    ·rw [Oy z hz] at hl
     exact (agree hh F1 (yy0 _ _ _ _) l (wU0 hh z l hl)).symm
    ·rw [yy0] at hn; exact none_ d F1 hn
   have S2 := k2 s A2
   have A1 : AgreeW ops x s (s.app ψ y.dst u) := by
    refine ⟨fun k hk => wR0 _ _ _ _ _ (ny k hk), fun z hz l hl => ?_, fun d hd hn => ?_, cz0 _ _ _ _⟩
    ·have hl' := wU0 hh z l hl
     rw [yy0]
     cases F2 with
     | id => exact eqv.refl _
     | put d B hd hn =>
      left; unfold kR0
      rw [yy0] at hn
      rw [if_neg (fun (e : l = d) => hl' (by rw [e]; exact none_ d F1 hn))]
     | frz ls _ => exact bj0 ls _ _
    ·rw [yy0]
     cases F2 with
     | id => exact hn
     | put d' B hd' hn' => unfold kR0; rw [if_neg (fun e => hne d hd (by rw [hd', e]))]; exact hn
     | frz ls _ => exact zb1 ls _ _ hn
   have S1 := k1 _ A1
   refine ⟨_, S2, ?_⟩
   have hcomm : φ (ψ s.lb) = ψ (φ s.lb) := by
    cases F1 with
    | id => rfl
    | put d B hd hn =>
     cases F2 with
     | id => rfl
     | put d' B' hd' hn' =>
      funext k
      unfold kR0
      by_cases e1 : k = d <;> by_cases e2 : k = d'
      ·exact absurd (by rw [hd', ← e2, e1]) (hne d hd)
      ·simp [e1, e2, e1 ▸ e2]
      ·simp [e1, e2, e2 ▸ e1]
      ·simp [e1, e2]
     | frz ls hls =>
      refine (nd0 ls d B (fun hin => ?_) s.lb).symm
      obtain ⟨z, hz, hl⟩ := hls d hin
      rw [Oy z hz] at hl
      exact wU0 hh z d hl hn
    | frz ls hls =>
     cases F2 with
     | id => rfl
     | put d B hd hn =>
      refine nd0 ls d B (fun hin => ?_) s.lb
      obtain ⟨z, hz, hl⟩ := hls d hin
      rw [yy0] at hn
      exact wU0 hh z d hl (none_ d (.frz (o := x) (s := s) ls hls) hn)
     | frz ls' hls' => exact za1 ls ls' s.lb
   rw [jW0 s φ ψ x.dst y.dst v u hne hcomm]
   exact S1
end Go.Ai
namespace Go.Ai
open Go.RowKit
variable {P : Program} {tab : Tab} {ops : Array Oper} {w0 : World} {M0 : Ms} {F0 : Fz}
theorem bM0 (hT : zU0 P tab) {s s' : St} {a : Act} {w : World} (h : wT0 w0 M0 F0 s a w) {o : Oper} (hs : fM0 P tab ops o s s') {K : Act → World → Prop} {Q : Exit → Act → World → Prop} (hK : ∀ a' w', wT0 w0 M0 F0 s' a' w' → K a' w') :
  if Region.wanted o (yielded ops a.tmps) then o.wp P a w K Q ∨ (o.asks P a w ∧ LetsOut Q) else K (a.put o.dst undef) w := by
 obtain ⟨F, g, h⟩ := h
 rcases hs with ⟨hw, ha⟩ | ⟨hw, hd, rfl⟩
 ·rw [ya0 h hw]
  exact .inl (rl0 hT h ha hK)
 ·rw [ya0 h hw]
  refine hK _ _ ⟨F, g, h.set? hd ?_⟩
  simp only [RepAV, RepAVs]
  exact ⟨[], rfl, rfl⟩
theorem wF1 (hT : zU0 P tab) {s s' : St} (hl : ∃ a w, wT0 w0 M0 F0 s a w) {o : Oper} (hs : fM0 P tab ops o s s') : ∃ a w, wT0 w0 M0 F0 s' a w := by
 obtain ⟨a, w, h⟩ := hl
 have := bM0 (Q := fun _ _ _ => False) hT h hs (K := fun a' w' => wT0 w0 M0 F0 s' a' w') (fun _ _ h => h)
 split at this
 ·rcases this with h | ⟨_, _, _, h⟩
  ·unfold Oper.wp at h
   generalize (execOp a.eval o).run P w = r at h
   cases r with
   | ok n w' =>
    cases n <;> simp only [Oper.upon] at h
    case value v => exact ⟨_, _, h⟩
    case skip => exact ⟨_, _, h⟩
    case defer d => exact ⟨_, _, h⟩
    case enter f args =>
     obtain ⟨e, w'', fr, hR, _⟩ := h []
     cases e with
     | returned v => exact ⟨_, _, hR⟩
     | panicked c => exact hR.elim
     | outgrown => obtain ⟨_, _, hq⟩ := hR; exact hq.elim
    case row row args =>
     obtain ⟨v, w'', hR, _⟩ := h default []
     exact ⟨_, _, hR⟩
   | halt x w' => cases x <;> simp only [Oper.upon] at h
  ·exact h.elim
 ·exact ⟨_, _, this⟩
theorem jy0 {s : St} (h : ∃ a w, wT0 w0 M0 F0 s a w) : vN1 s := by
 obtain ⟨a, w, F, g, h⟩ := h
 intro t l hl
 have hs := h.sl t
 have one : ∀ (x : AC) (u : Value), RepAC w F s.lb g x u → l ∈ x.refs → s.lb l ≠ none := by
  intro x u hr hx
  cases x <;> simp only [AC.refs, List.mem_singleton, List.not_mem_nil] at hx
  all_goals
   subst hx
   simp only [RepAC] at hr
   obtain ⟨_, B, hB, _⟩ := hr
   rw [hB]; simp
 cases hv : s.sl t with
 | one x =>
  rw [hv] at hs hl
  simp only [RepAV] at hs
  exact one x _ hs hl
 | agg xs =>
  rw [hv] at hs hl
  simp only [RepAV] at hs
  obtain ⟨us, _, hr⟩ := hs
  simp only [AV.refs] at hl
  obtain ⟨x, hx, hlx⟩ := List.mem_flatMap.1 hl
  obtain ⟨k1, k2⟩ := (RepACs.iff _ _).1 hr
  obtain ⟨i, hi⟩ := List.getElem?_of_mem hx
  have hlt := (List.getElem?_eq_some_iff.1 hi).1
  exact one x _ (k2 i x us[i] hi (List.getElem?_eq_getElem (by omega))) hlx
 | tup vs => rw [hv] at hl; simp [AV.refs] at hl
 | any => rw [hv] at hl; simp [AV.refs] at hl
def lL0 (P : Program) (tab : Tab) (x : Bool) (ops : Array Oper) (o : Oper) (s s' : St) : Prop := fM0 P tab ops o s s' ∨ (x = true ∧ cs0 ops o s true ∧ cq0 P tab o s s')
def vk0 (P : Program) (tab : Tab) (x : Bool) (ops : Array Oper) : List Oper → St → St → Prop
 | [], s, s' => s' = s
 | o :: os, s, s' => ∃ s1, lL0 P tab x ops o s s1 ∧ vk0 P tab x ops os s1 s'
theorem yp0 (hT : zU0 P tab) {x : Bool} {s s' : St} {a : Act} {w : World} (h : wT0 w0 M0 F0 s a w) {o : Oper} (hs : lL0 P tab x ops o s s') {K : Act → World → Prop} {Q : Exit → Act → World → Prop} (hK : ∀ a' w', wT0 w0 M0 F0 s' a' w' → K a' w') :
  if Region.wanted o (yielded ops a.tmps) then o.wp P a w K Q ∨ (o.asks P a w ∧ LetsOut Q) else K (a.put o.dst undef) w := by
 rcases hs with hs | ⟨_, hw, hm⟩
 ·exact bM0 hT h hs hK
 ·obtain ⟨F, g, h⟩ := h
  rw [ya0 h hw]
  exact .inl (lZ0 hT h hm hK)
theorem fw0 (hT : zU0 P tab) {x : Bool} {Q : Exit → Act → World → Prop} {s' : St} (hQ : ∀ a' w', wT0 w0 M0 F0 s' a' w' → Q .normal a' w') : ∀ (l : List Oper) (s : St) (a : Act) (w : World), vk0 P tab x ops l s s' → wT0 w0 M0 F0 s a w → wpList P ops Q l a w
 | [], s, a, w, hs, h => by simp only [vk0] at hs; subst hs; exact hQ _ _ h
 | o :: os, s, a, w, hs, h => by
  obtain ⟨s1, h1, h2⟩ := hs
  simp only [wpList]
  exact yp0 hT h h1 (fun a' w' h' => fw0 hT hQ os s1 a' w' h2 h')
def wl0 (P : Program) (tab : Tab) (fx : Nat → Bool) (ops : Array Oper) : List Nat → St → St → Prop
 | [], s, s' => s' = s
 | i :: is, s, s' => ∃ o s1, ops[i]? = some o ∧ lL0 P tab (fx i) ops o s s1 ∧ wl0 P tab fx ops is s1 s'
theorem wZ0 {fx : Nat → Bool} : ∀ (l m : List Nat) (s s' : St), wl0 P tab fx ops (l ++ m) s s' ↔ ∃ s1, wl0 P tab fx ops l s s1 ∧ wl0 P tab fx ops m s1 s'
 | [], m, s, s' => by simp [wl0]
 | i :: l, m, s, s' => by
  simp only [List.cons_append, wl0]
  constructor
  ·rintro ⟨o, s1, ho, h1, h2⟩
   obtain ⟨s2, k1, k2⟩ := (wZ0 l m s1 s').1 h2
   exact ⟨s2, ⟨o, s1, ho, h1, k1⟩, k2⟩
  ·rintro ⟨s2, ⟨o, s1, ho, h1, k1⟩, k2⟩
   exact ⟨o, s1, ho, h1, (wZ0 l m s1 s').2 ⟨s2, k1, k2⟩⟩
theorem jG1 (hT : zU0 P tab) {fx : Nat → Bool} {o : Oper} : ∀ (pre : List Nat) (s sm sn : St), (∃ a w, wT0 w0 M0 F0 s a w) → (∀ p q, p ∈ pre → ops[p]? = some q → kV0 ops q o = true) → (∀ p, p ∈ pre → fx p = false) →
  wl0 P tab fx ops pre s sm → fM0 P tab ops o sm sn → ∃ s1, fM0 P tab ops o s s1 ∧ wl0 P tab fx ops pre s1 sn
 | [], s, sm, sn, _, _, _, h1, h2 => by simp only [wl0] at h1; subst h1; exact ⟨sn, h2, rfl⟩
 | p :: pre, s, sm, sn, hl, hc, hx, h1, h2 => by
  obtain ⟨q, sp, hq, hp, h1⟩ := h1
  have hp : fM0 P tab ops q s sp := hp.resolve_right (fun h => by rw [hx p (by simp)] at h; cases h.1)
  obtain ⟨s1', k1, k2⟩ := jG1 hT pre sp sm sn (wF1 hT hl hp) (fun p' q' hp' => hc p' q' (by simp [hp'])) (fun p' hp' => hx p' (by simp [hp'])) h1 h2
  obtain ⟨s1, k3, k4⟩ := dl1 (jy0 hl) (hc p q (by simp) hq) hp k1
  exact ⟨s1, k3, q, s1', hq, .inl k4, k2⟩
def jN1 (acc : List Nat) (o : Oper) : Nat := o.after.toList.foldl (fun m e => if Region.binds .any e then m ||| 2 ^ e.on ||| acc.getD e.on 0 else m) 0
def yH0 (acc : List Nat) : List Oper → List Nat
 | [] => acc
 | o :: os => yH0 (acc ++ [jN1 acc o]) os
def qa0 (ops : Array Oper) (i : Nat) : Bool :=
 (List.range ops.size).all fun j => j == i || (if j < i then ((yH0 [] ops.toList).getD i 0).testBit j else ((yH0 [] ops.toList).getD j 0).testBit i)
def yf0 (ops : Array Oper) : Bool := (List.range ops.size).all fun i => match ops.toList[i]? with
 | none => true
 | some o => !vT0 o || qa0 ops i
theorem jb0 {i j : Nat} (h : qa0 ops i = true) (hj : j < ops.size) : (j < i → ((yH0 [] ops.toList).getD i 0).testBit j = true) ∧ (i < j → ((yH0 [] ops.toList).getD j 0).testBit i = true) := by
 have := List.all_eq_true.1 h j (List.mem_range.2 hj)
 simp only [Bool.or_eq_true, beq_iff_eq] at this
 refine ⟨fun hlt => ?_, fun hlt => ?_⟩
 ·rcases this with h | h
  ·omega
  ·rwa [if_pos hlt] at h
 ·rcases this with h | h
  ·omega
  ·rwa [if_neg (by omega)] at h
theorem rk0 {o : Oper} {s s' : St} (h : cq0 P tab o s s') : vT0 o = true := h.1
def fZ0 (ops : Array Oper) : Bool :=
 (List.range ops.size).all fun j => match ops.toList[j]? with
  | none => true
  | some oj => oj.after.toList.all (fun e => !Region.binds .any e || decide (e.on < j)) &&
   (List.range j).all fun i => match ops.toList[i]? with
    | none => true
    | some oi => ((yH0 [] ops.toList).getD j 0).testBit i || kV0 ops oi oj
theorem gC0 (acc : List Nat) (i : Nat) : ∀ (es : List Edge) (m : Nat), (es.foldl (fun m e => if Region.binds .any e then m ||| 2 ^ e.on ||| acc.getD e.on 0 else m) m).testBit i = true →
  m.testBit i = true ∨ ∃ e, e ∈ es ∧ Region.binds .any e = true ∧ (e.on = i ∨ (acc.getD e.on 0).testBit i = true)
 | [], m, h => .inl h
 | e :: es, m, h => by
  rcases gC0 acc i es _ h with h | ⟨e', he, hb, h⟩
  ·replace h : (if Region.binds .any e then m ||| 2 ^ e.on ||| acc.getD e.on 0 else m).testBit i = true := h
   split at h
   ·rename_i hb
    simp only [Nat.testBit_or, Bool.or_eq_true] at h
    rcases h with (h | h) | h
    ·exact .inl h
    ·refine .inr ⟨e, by simp, hb, .inl ?_⟩
     simpa [Nat.testBit_two_pow] using h
    ·exact .inr ⟨e, by simp, hb, .inr h⟩
   ·exact .inl h
  ·exact .inr ⟨e', by simp [he], hb, h⟩
def vO1 (acc : List Nat) (os : List Oper) : Prop := ∀ (k : Nat) m, acc[k]? = some m → ∀ i, m.testBit i = true → ∃ o, os[k]? = some o ∧ ∃ e, e ∈ o.after.toList ∧ Region.binds .any e = true ∧ (e.on = i ∨ ∃ m', acc[e.on]? = some m' ∧ m'.testBit i = true)
theorem tt0 : ∀ (os done : List Oper) (acc : List Nat), acc.length = done.length → vO1 acc done → vO1 (yH0 acc os) (done ++ os)
 | [], done, acc, _, h => by simpa [yH0] using h
 | o :: os, done, acc, hl, h => by
  have := tt0 os (done ++ [o]) (acc ++ [jN1 acc o]) (by simp [hl]) (by
   intro k m hk i hi
   rw [List.getElem?_append] at hk
   split at hk
   ·rename_i hlt
    obtain ⟨o', ho', e, he, hb, hq⟩ := h k m hk i hi
    refine ⟨o', by rw [List.getElem?_append_left (by omega)]; exact ho', e, he, hb, hq.imp id ?_⟩
    rintro ⟨m', hm', hb'⟩
    exact ⟨m', by rw [List.getElem?_append_left (List.getElem?_eq_some_iff.1 hm').1]; exact hm', hb'⟩
   ·rename_i hlt
    have hk0 : k - acc.length = 0 := by
     rcases Nat.eq_zero_or_pos (k - acc.length) with h0 | h0
     ·exact h0
     ·rw [List.getElem?_eq_none (by simp; omega)] at hk; cases hk
    rw [hk0] at hk
    simp at hk; subst hk
    have hkd : k = done.length := by omega
    rcases gC0 acc i _ _ hi with h0 | ⟨e, he, hb, hq⟩
    ·simp at h0
    ·refine ⟨o, by simp [hkd], e, he, hb, hq.imp id (fun hq => ?_)⟩
     cases hm : acc[e.on]? with
     | none => simp [List.getD, hm] at hq
     | some m' =>
      refine ⟨m', by rw [List.getElem?_append_left (List.getElem?_eq_some_iff.1 hm).1]; exact hm, ?_⟩
      simpa [List.getD, hm] using hq)
  simpa [yH0] using this
theorem ph0 (h : fZ0 ops = true) {j : Nat} {o : Oper} (ho : ops[j]? = some o) {e : Edge} (he : e ∈ o.after) (hb : Region.binds .any e = true) : e.on < j := by
 have hj : j < ops.size := (Array.getElem?_eq_some_iff.1 ho).1
 unfold fZ0 at h
 have := List.all_eq_true.1 h j (List.mem_range.2 hj)
 have ho' : ops.toList[j]? = some o := by simpa using ho
 rw [ho'] at this
 simp only [Bool.and_eq_true] at this
 have := List.all_eq_true.1 this.1 e (by simpa using he)
 simpa [hb] using this
theorem sv0 (h : fZ0 ops = true) {i j : Nat} {x y : Oper} (hij : i < j) (hx : ops[i]? = some x) (hy : ops[j]? = some y) : ((yH0 [] ops.toList).getD j 0).testBit i = true ∨ kV0 ops x y = true := by
 have hj : j < ops.size := (Array.getElem?_eq_some_iff.1 hy).1
 unfold fZ0 at h
 have := List.all_eq_true.1 h j (List.mem_range.2 hj)
 have hy' : ops.toList[j]? = some y := by simpa using hy
 have hx' : ops.toList[i]? = some x := by simpa using hx
 rw [hy'] at this
 simp only [Bool.and_eq_true] at this
 have := List.all_eq_true.1 this.2 i (List.mem_range.2 hij)
 rw [hx'] at this
 simpa using this
theorem bU0 (h : fZ0 ops = true) {listed : Array Bool} (hdown : ∀ j o, ops[j]? = some o → listed.getD j false = true → ∀ e, e ∈ o.after → Region.binds .any e = true → listed.getD e.on false = true) (i : Nat) :
  ∀ (j : Nat) (o : Oper), ops[j]? = some o → (∀ e, e ∈ o.after → Region.binds .any e = true → listed.getD e.on false = true) → ((yH0 [] ops.toList).getD j 0).testBit i = true → listed.getD i false = true := by
 intro j
 induction j using Nat.strongRecOn with
 | _ j ih =>
  intro o ho hall hbit
  have R := tt0 ops.toList [] [] rfl (by intro k m hk; simp at hk)
  cases hm : (yH0 [] ops.toList)[j]? with
  | none => simp [List.getD, hm] at hbit
  | some m =>
   simp [List.getD, hm] at hbit
   obtain ⟨o', ho', e, he, hb, hq⟩ := R j m hm i hbit
   simp at ho'
   rw [ho] at ho'
   obtain rfl := Option.some.inj ho'
   have hle := hall e (by simpa using he) hb
   rcases hq with rfl | ⟨m', hm', hb'⟩
   ·exact hle
   ·have hlt := ph0 h ho (by simpa using he) hb
    have hjs : e.on < ops.size := Nat.lt_trans hlt (Array.getElem?_eq_some_iff.1 ho).1
    have hoe : ops[e.on]? = some ops[e.on] := Array.getElem?_eq_getElem hjs
    exact ih e.on hlt _ hoe (fun e' he' hb'' => hdown e.on _ hoe hle e' he' hb'') (by simp [List.getD, hm', hb'])
theorem tp0 (hT : zU0 P tab) (hok : fZ0 ops = true) {Q : Exit → Act → World → Prop} {s' : St} (hQ : ∀ a' w', wT0 w0 M0 F0 s' a' w' → Q .normal a' w') :
  ∀ (fuel : Nat) (rem : List Nat) (listed : Array Bool) (s : St) (a : Act) (w : World), rem.length = fuel → rem.Pairwise (· < ·) → listed.size = ops.size →
   (∀ i, i ∈ rem ↔ i < ops.size ∧ listed.getD i false = false) →
   (∀ j o, ops[j]? = some o → listed.getD j false = true → ∀ e, e ∈ o.after → Region.binds .any e = true → listed.getD e.on false = true) →
   wl0 P tab (qa0 ops) ops rem s s' → wT0 w0 M0 F0 s a w → wpAny P .any ops Q fuel listed a w := by
 intro fuel
 have gd : ∀ (listed : Array Bool) (i : Nat) (b c : Bool), i < listed.size → listed.getD i b = listed.getD i c := by
  intro listed i b c hi; simp [hi]
 have noready : ∀ (rem : List Nat) (listed : Array Bool), rem.Pairwise (· < ·) → listed.size = ops.size → (∀ i, i ∈ rem ↔ i < ops.size ∧ listed.getD i false = false) → Region.ready .any ops listed = [] → rem = [] := by
  intro rem listed hpw hsz hrem hr
  cases rem with
  | nil => rfl
  | cons i rest =>
   exfalso
   obtain ⟨hi, hli⟩ := (hrem i).1 (by simp)
   have hoi : ops[i]? = some ops[i] := Array.getElem?_eq_getElem hi
   have : i ∈ Region.ready .any ops listed := by
    rw [mem_ready]
    refine ⟨by rw [gd listed i true false (by omega)]; exact hli, ops[i], hoi, fun e he hb => ?_⟩
    have hlt := ph0 hok hoi he hb
    cases hle : listed.getD e.on false with
    | true => rfl
    | false =>
     have hin := (hrem e.on).2 ⟨by omega, hle⟩
     rcases List.mem_cons.1 hin with h | h
     ·omega
     ·have := (List.pairwise_cons.1 hpw).1 e.on h; omega
   rw [hr] at this; cases this
 induction fuel with
 | zero =>
  intro rem listed s a w hlen hpw hsz hrem hdown hs h
  obtain rfl := List.eq_nil_of_length_eq_zero hlen
  simp only [wl0] at hs
  subst hs
  refine ⟨?_, hQ _ _ h⟩
  apply List.eq_nil_iff_forall_not_mem.2
  intro i hi
  obtain ⟨hli, o, ho, _⟩ := mem_ready.1 hi
  have hlt := (Array.getElem?_eq_some_iff.1 ho).1
  have := (hrem i).2 ⟨hlt, by rw [gd listed i false true (by omega)]; exact hli⟩
  cases this
 | succ fuel ih =>
  intro rem listed s a w hlen hpw hsz hrem hdown hs h
  refine ⟨fun hr => ?_, fun i hi => ?_⟩
  ·have := noready rem listed hpw hsz hrem hr
   subst this
   simp at hlen
  ·obtain ⟨hli, o, ho, hall⟩ := mem_ready.1 hi
   have hlt := (Array.getElem?_eq_some_iff.1 ho).1
   have hin : i ∈ rem := (hrem i).2 ⟨hlt, by rw [gd listed i false true (by omega)]; exact hli⟩
   obtain ⟨pre, post, rfl⟩ := List.append_of_mem hin
   obtain ⟨sm, k1, k2⟩ := (wZ0 pre (i :: post) s s').1 hs
   obtain ⟨o', sn, ho', k3, k4⟩ := k2
   rw [ho] at ho'
   obtain rfl := Option.some.inj ho'
   have hpre : ∀ p, p ∈ pre → p < i := fun p hp => by
    have := (List.pairwise_append.1 hpw).2.2 p hp i (by simp); exact this
   have hnb : ∀ p, p ∈ pre → ((yH0 [] ops.toList).getD i 0).testBit p = true → False := fun p hp hb => by
    have := bU0 hok hdown p i o ho hall hb
    have hp2 := ((hrem p).1 (by simp [hp])).2
    rw [this] at hp2; cases hp2
   have hbub : ∃ s1, lL0 P tab (qa0 ops i) ops o s s1 ∧ wl0 P tab (qa0 ops) ops pre s1 sn := by
    cases pre with
    | nil =>
     simp only [wl0] at k1
     subst k1
     exact ⟨sn, k3, rfl⟩
    | cons p0 pre0 =>
     have hfi : qa0 ops i = false := by
      cases hf : qa0 ops i with
      | false => rfl
      | true => exact (hnb p0 (by simp) ((jb0 hf (by have := ((hrem p0).1 (by simp)).1; exact this)).1 (hpre p0 (by simp)))).elim
     have hfp : ∀ p, p ∈ p0 :: pre0 → qa0 ops p = false := fun p hp => by
      cases hf : qa0 ops p with
      | false => rfl
      | true => exact (hnb p hp ((jb0 hf hlt).2 (hpre p hp))).elim
     obtain ⟨s1, b1, b2⟩ := jG1 hT (p0 :: pre0) s sm sn ⟨a, w, h⟩ (fun p q hp hq => by
      rcases sv0 hok (hpre p hp) hq ho with hb | hc
      ·exact (hnb p hp hb).elim
      ·exact hc) hfp k1 (k3.resolve_right (fun h => by rw [hfi] at h; cases h.1))
     exact ⟨s1, .inl b1, b2⟩
   obtain ⟨s1, b1, b2⟩ := hbub
   have hs1 : wl0 P tab (qa0 ops) ops (pre ++ post) s1 s' := (wZ0 pre post s1 s').2 ⟨sn, b2, k4⟩
   have hset : ∀ k, (listed.setIfInBounds i true).getD k false = if k = i then true else listed.getD k false := by
    intro k
    simp only [Array.getD_eq_getD_getElem?, Array.getElem?_setIfInBounds]
    by_cases e : i = k
    ·subst e; simp [hsz, hlt]
    ·simp [e, Ne.symm e]
   unfold wpOp
   simp only [ho]
   refine yp0 hT h b1 (fun a' w' h' => ih (pre ++ post) (listed.setIfInBounds i true) s1 a' w' (by simp at hlen ⊢; omega) ?_ (by simpa using hsz) (fun k => ?_) (fun j oj hoj hlj e he hb => ?_) hs1 h')
   ·rw [List.pairwise_append] at hpw ⊢
    exact ⟨hpw.1, (List.pairwise_cons.1 hpw.2.1).2, fun x hx y hy => hpw.2.2 x hx y (by simp [hy])⟩
   ·rw [hset]
    have hk := hrem k
    simp only [List.mem_append, List.mem_cons] at hk ⊢
    have hnd : ∀ k, k ∈ pre ∨ k ∈ post → k ≠ i := by
     rintro k (hk | hk) e
     ·have := hpre k hk; omega
     ·have := (List.pairwise_cons.1 (List.pairwise_append.1 hpw).2.1).1 k hk; omega
    constructor
    ·intro hk'
     have hne := hnd k hk'
     rw [if_neg hne]
     exact hk.1 (hk'.imp id .inr)
    ·rintro ⟨h1, h2⟩
     by_cases e : k = i
     ·rw [if_pos e] at h2; cases h2
     ·rw [if_neg e] at h2
      rcases hk.2 ⟨h1, h2⟩ with hq | hq | hq
      ·exact .inl hq
      ·exact absurd hq e
      ·exact .inr hq
   ·rw [hset] at hlj ⊢
    split
    ·rfl
    ·by_cases e' : j = i
     ·subst e'
      rw [ho] at hoj
      obtain rfl := Option.some.inj hoj
      exact hall e he hb
     ·rw [if_neg e'] at hlj
      exact hdown j oj hoj hlj e he hb
theorem ju0 : ∀ (l : List Oper) (k : Nat) (s s' : St), (∀ j, l[j]? = ops[k + j]?) → vk0 P tab (yf0 ops) ops l s s' → wl0 P tab (qa0 ops) ops (List.range' k l.length) s s'
 | [], _, _, _, _, h => h
 | o :: l, k, s, s', hl, h => by
  obtain ⟨s1, h1, h2⟩ := h
  have h0 : ops[k]? = some o := by simpa using (hl 0).symm
  have h1 : lL0 P tab (qa0 ops k) ops o s s1 := by
   rcases h1 with h1 | ⟨hx, hw, hm⟩
   ·exact .inl h1
   ·have hk : k < ops.size := (Array.getElem?_eq_some_iff.1 h0).1
    have := List.all_eq_true.1 hx k (List.mem_range.2 hk)
    have h0' : ops.toList[k]? = some o := by simpa using h0
    rw [h0'] at this
    simp only [rk0 hm, Bool.not_true, Bool.false_or] at this
    exact .inr ⟨this, hw, hm⟩
  exact ⟨o, s1, h0, h1, ju0 l (k + 1) s1 s' (fun j => by have := hl (j + 1); simpa [Nat.add_assoc, Nat.add_comm 1 j] using this) h2⟩
theorem vw0 (hT : zU0 P tab) (hm : P.follows .mixedOrders = true) {id : Nat} {draw : Bool} (hok : draw = true → fZ0 ops = true) {Q : Exit → Act → World → Prop} {s s' : St} {a : Act} {w : World}
  (hs : vk0 P tab (!draw || yf0 ops) ops ops.toList s s') (h : wT0 w0 M0 F0 s a w) (hQ : ∀ a' w', wT0 w0 M0 F0 s' a' w' → Q .normal a' w') : (Code.region id ops draw).wp P Q a w := by
 cases draw with
 | false => exact wp_region_list (fw0 hT hQ ops.toList s a w hs h)
 | true =>
  have hok := hok rfl
  have h' : wT0 w0 M0 F0 s a { w with drawn := w.drawn + 1 } := by obtain ⟨F, g, h⟩ := h; exact ⟨F, g, h.drew⟩
  refine wp_region_any hm (tp0 hT hok hQ ops.size (List.range ops.size) _ s a _ (by simp) List.pairwise_lt_range (by simp) (fun i => ?_) (fun j o ho hl => ?_) ?_ h')
  ·simp only [List.mem_range]
   constructor
   ·intro hi; exact ⟨hi, by simp [Array.getD_eq_getD_getElem?, Array.getElem?_replicate, hi]⟩
   ·exact fun hi => hi.1
  ·have hj := (Array.getElem?_eq_some_iff.1 ho).1
   simp [Array.getD_eq_getD_getElem?, Array.getElem?_replicate, hj] at hl
  ·have := ju0 (P := P) (tab := tab) (ops := ops) ops.toList 0 s s' (by simp) hs
   rw [List.range_eq_range']
   simpa using this
end Go.Ai
