/- One step of an operation in the abstract machine, and that the model makes it. -/
import Derived.Test.YtdjleacnjijbjaaAiMut
namespace Go.Ai
set_option linter.unusedVariables false
set_option linter.unusedSimpArgs false
open Go.RowKit

variable {P : Program} {tab : Tab} {w0 : World} {M0 : Ms} {F0 F F' : Fz} {g : Gh} {s s' : St} {a : Act} {w w' : World} {lb : Lk}

def fnOf : AV → Option FuncId
  | .one (.c (.v (.func (.func f) fst cap))) => if fst.size = 0 ∧ cap.size = 0 then some f else none
  | _ => none

def ownsOf (s : St) (c : Call) : List Nat := (c.args.toList.map (opv s)).flatMap AV.owns

def ActsOut (tab : Tab) (o : Oper) (s s' : St) : Prop := ∃ pr e, outF tab o s = some (pr, e) ∧ pr ∧ e.ok o.dst s ∧ s' = e.app o.dst s
/-- How a contract is put to use: the rows are frozen and the result is data; or they are lent, where the result is plain; or lent, and the result is owned. -/
def CallBy (P : Program) (fid : FuncId) (vs : List AV) (d : Option Tmp) (s s' : St) : Prop :=
  (∃ ds r, ViewAVs s.lb vs ds ∧ Sat P fid ds r ∧ s' = (s.frzs (vs.flatMap AV.owns)).set d r) ∨
  (∃ ds r, ViewBVs s.lb vs ds ∧ Sat P fid ds r ∧ plainR r = true ∧ s' = s.set d r) ∨
  (∃ ds r t, ViewBVs s.lb vs ds ∧ SatF P fid ds r ∧ d = some t ∧ s.lb t = none ∧ s' = (s.put t (.tok (flR r))).set d (tkR t r))
def ActsCall (P : Program) (o : Oper) (s s' : St) : Prop := ∃ c f fid, o.op = .call c ∧ c.callee = .value f ∧ fnOf (opv s f) = some fid ∧ (∀ t, o.dst = some t → t < s.n) ∧ CallBy P fid (c.args.toList.map (opv s)) o.dst s s'
/-- A call that writes what it is lent. -/
def ActsM (P : Program) (o : Oper) (s s' : St) : Prop := ∃ c f fid ds ds' r, o.op = .call c ∧ c.callee = .value f ∧ fnOf (opv s f) = some fid ∧ (∀ t, o.dst = some t → t < s.n) ∧ SatM P fid ds ds' r ∧
  takeVs (c.args.toList.map (opv s)) ds s.lb (fun lb => giveVs (c.args.toList.map (opv s)) ds' lb (fun lb' => s' = (s.withLb lb').set o.dst r))
def Acts (P : Program) (tab : Tab) (o : Oper) (s s' : St) : Prop := ActsOut tab o s s' ∨ ActsCall P o s s'

def Want (ops : Array Oper) (o : Oper) (s : St) (b : Bool) : Prop :=
  match o.guard with
  | none => b = true
  | some (j, wnt) => ∃ d, ((ops[j]?).bind (·.dst)) = some d ∧ ((∃ x, s.sl d = .one (.c (.v (.bool x))) ∧ b = (x == wnt)) ∨ (s.sl d = .tup [] ∧ b = false))

def Step (P : Program) (tab : Tab) (ops : Array Oper) (o : Oper) (s s' : St) : Prop :=
  (Want ops o s true ∧ Acts P tab o s s') ∨ (Want ops o s false ∧ (∀ t, o.dst = some t → t < s.n) ∧ s' = s.set o.dst (.tup []))

def SimE (w0 : World) (M0 : Ms) (F0 : Fz) (s : St) (a : Act) (w : World) : Prop := ∃ F g, Sim w0 M0 F0 F g s a w

theorem want_sound (h : Sim w0 M0 F0 F g s a w) {ops : Array Oper} {o : Oper} {b : Bool} (hw : Want ops o s b) : Region.wanted o (yielded ops a.tmps) = b := by
  unfold Want at hw
  unfold Region.wanted
  cases hg : o.guard with
  | none => rw [hg] at hw; simp only at hw ⊢; exact hw.symm
  | some p =>
    obtain ⟨j, wnt⟩ := p
    rw [hg] at hw
    simp only at hw ⊢
    obtain ⟨d, hd, hw⟩ := hw
    have hs := h.sl d
    unfold yielded
    rw [hd]
    simp only [Option.bind_some]
    rcases hw with ⟨x, hx, rfl⟩ | ⟨hx, rfl⟩
    · rw [hx] at hs
      have hs := hs.c_v
      have : a.tmps[d]? = some (.bool x) := by
        cases hq : a.tmps[d]? with
        | none => simp [Array.getD_eq_getD_getElem?, hq, undef] at hs
        | some v => simpa [Array.getD_eq_getD_getElem?, hq] using hs
      rw [this]
      cases x <;> cases wnt <;> rfl
    · rw [hx] at hs
      simp only [RepAV, RepAVs] at hs
      obtain ⟨us, hu, rfl⟩ := hs
      cases hq : a.tmps[d]? with
      | none => cases wnt <;> rfl
      | some v =>
        simp [Array.getD_eq_getD_getElem?, hq] at hu
        rw [hu]; cases wnt <;> rfl

theorem args_rep (h : Sim w0 M0 F0 F g s a w) : ∀ (xs : List Operand), RepAVs w F s.lb g (xs.map (opv s)) (xs.map a.eval)
  | [] => by simp [RepAVs]
  | x :: xs => ⟨_, _, rfl, opv_sound h x, args_rep h xs⟩
theorem fn_val (h : Sim w0 M0 F0 F g s a w) {f : Operand} {fid : FuncId} (hfn : fnOf (opv s f) = some fid) : a.eval f = .func (.func fid) #[] #[] := by
  have Ef := opv_sound h f
  unfold fnOf at hfn
  split at hfn
  · rename_i f' fst cap heq
    split at hfn
    · rename_i hz
      obtain rfl := Option.some.inj hfn
      rw [heq] at Ef
      have Ef := Ef.c_v
      rw [Ef, Array.eq_empty_of_size_eq_zero hz.1, Array.eq_empty_of_size_eq_zero hz.2]
    · cases hfn
  · cases hfn
theorem run_enter {o : Oper} {f : Operand} {args : Array Operand} {ts : Array TypeId} {fid : FuncId} (hop : o.op = .call ⟨.value f, args, ts⟩) (hfv : a.eval f = .func (.func fid) #[] #[]) (hc : Callable P fid) :
    (execOp a.eval o).run P w = .ok (.enter fid (args.toList.map a.eval).toArray) w := by
  obtain ⟨fn, hfun, hname, hbody⟩ := hc
  have he : (args.toList.map a.eval).toArray = args.map a.eval := by rw [← Array.toList_map, Array.toArray_toList]
  rw [he]
  simp [execOp, hop, resolve, hfv, Deferred.ofValue, invoke, callFunc, hfun, hname, hbody]

theorem acts_sound (hT : TabOk P tab) (h : Sim w0 M0 F0 F g s a w) {o : Oper} (hs : Acts P tab o s s') {K : Act → World → Prop} {Q : Exit → Act → World → Prop} (hK : ∀ a' w', SimE w0 M0 F0 s' a' w' → K a' w') : o.wp P a w K Q := by
  rcases hs with ⟨pr, e, ho, hp, hk, rfl⟩ | ⟨c, f, fid, hop, hcal, hfn, hdst, hby⟩
  · obtain ⟨v, w', g', hsim, hr⟩ := outF_sound (P := P) hT h ho hp hk
    unfold Oper.wp
    rcases hr with hr | ⟨rfl, hr⟩
    · rw [hr]; exact hK _ _ ⟨F, g', hsim⟩
    · rw [hr]; exact hK _ _ ⟨F, g', hsim⟩
  · obtain ⟨callee, args, ts⟩ := c
    simp only at hcal
    subst hcal
    have hfv := fn_val h hfn
    have hargs := args_rep h args.toList
    unfold Oper.wp
    rcases hby with ⟨ds, r, hview, hsat, rfl⟩ | ⟨ds, r, hview, hsat, hpl, rfl⟩ | ⟨ds, r, t, hview, hsat, hd, hfr, rfl⟩
    · rw [run_enter hop hfv hsat.1]
      obtain ⟨F1, hF1, u1, p1⟩ := h.freezes ((args.toList.map (opv s)).flatMap AV.owns)
      have hds : RepAVs w F1 noLk g0 ds (args.toList.map a.eval) := by
        have hargs1 := RepAVs.mono (w := w) (w' := w) ⟨u1, fun _ _ _ => rfl⟩ (Keeps.refl s.lb g) _ _ hargs
        exact viewAVs_sound' h u1 _ _ _ hview hargs1 (fun l hl => p1 l hl)
      refine (hsat.2 w F1 (args.toList.map a.eval) hF1.f2 hds).mono ?_
      rintro e w' ⟨v, F', rfl, hbel, hup, hnew, hlt, hrep⟩
      refine hK _ _ ⟨F', g, ?_⟩
      have hgr : Sim w0 M0 F0 F' g (s.frzs ((args.toList.map (opv s)).flatMap AV.owns)) a w' := by
        refine hF1.grows ⟨⟨hup, fun b o hb => cell_of_heap (hbel.block b (hF1.f2 b o hb)) o⟩, fun l B hl b hb => hbel.block b (hF1.nw l B hl b hb).2, fun l B hl => ?_, fun b o hb => (hnew b o hb).imp id (fun hq => .inl (Nat.le_trans hF1.size hq)), hlt,
          hbel.os, hbel.tape, hbel.output, hbel.size, fun k hk _ => hbel.block k (Nat.lt_of_lt_of_le hk hF1.size)⟩
        have hso := hF1.so l B hl
        have hnw := hF1.nw l B hl
        have hlb := hF1.lb l B hl
        cases B with
        | var cells =>
          simp only [SoftOk] at hso ⊢
          obtain ⟨_, _, _, _, hd⟩ := hlb
          intro o hf
          rcases hnew _ o hf with hf | hf
          · exact hso o hf
          · have := (hnw (g.bl l) (by rw [hd]; simp)).2; omega
        | arr e sz rows fz =>
          simp only [SoftOk] at hso ⊢
          obtain ⟨_, _, _, _, _, _, hd⟩ := hlb
          refine ⟨fun b hb o hcz hf => ?_, fun hz hn b hb o hf => ?_⟩
          · rcases hnew _ o hf with hf | hf
            · exact hso.1 b hb o hcz hf
            · have := (hnw b (by rw [hd]; simp [hb])).2; omega
          · rcases hnew _ o hf with hf | hf
            · exact hso.2 hz hn b hb o hf
            · have := (hnw b hb).2; omega
        | tok x =>
          simp only [SoftOk] at hso ⊢
          intro b hb o hf
          rcases hnew _ o hf with hf | hf
          · exact hso b hb o hf
          · have := (hnw b hb).2; omega
        | dead => trivial
      exact hgr.set? (by simpa using hdst) (RepAV.mono (Stays.refl w' F') ⟨fun l B hl => by simp [noLk] at hl⟩ _ _ hrep)
    · rw [run_enter hop hfv hsat.1]
      have hds := viewBVs_sound h _ _ _ hview hargs
      refine (hsat.2 w (LentF s g F) (args.toList.map a.eval) (lent_lt h) hds).mono ?_
      rintro e w' ⟨v, F', rfl, hbel, hup, hnew, hlt, hrep⟩
      exact hK _ _ ⟨F, g, (h.below hbel).set? hdst (plainR_rep hpl hrep)⟩
    · rw [run_enter hop hfv hsat.1]
      have hds := viewBVs_sound h _ _ _ hview hargs
      refine (hsat.2 w (LentF s g F) (args.toList.map a.eval) (lent_lt h) hds).mono ?_
      rintro e w' ⟨v, S, rfl, hbel, hown, hnd, hS⟩
      obtain ⟨g', hg'⟩ := h.taken hbel hfr (hdst t hd) hown hnd hS
      refine hK _ _ ⟨F, g', ?_⟩
      rw [hd]; exact hg'
theorem actsM_sound (h : Sim w0 M0 F0 F g s a w) {o : Oper} (hs : ActsM P o s s') {K : Act → World → Prop} {Q : Exit → Act → World → Prop} (hK : ∀ a' w', SimE w0 M0 F0 s' a' w' → K a' w') : o.wp P a w K Q := by
  obtain ⟨c, f, fid, ds, ds', r, hop, hcal, hfn, hdst, hsat, hk⟩ := hs
  obtain ⟨callee, args, ts⟩ := c
  simp only at hcal
  subst hcal
  unfold Oper.wp
  rw [run_enter hop (fn_val h hfn) hsat.1]
  refine (mut_sound h (args_rep h args.toList) hsat hk).mono ?_
  rintro e w' ⟨v, lb', g', rfl, rfl, h', hr⟩
  exact hK _ _ ⟨F, g', h'.set? hdst (plainR_rep hsat.2.1 hr)⟩

end Go.Ai
