/- One step of an operation in the abstract machine, and that the model makes it. -/
import Derived.Test.YtdjleacnjijbjaaAiCall
namespace Go.Ai
set_option linter.unusedVariables false
set_option linter.unusedSimpArgs false
open Go.RowKit

variable {P : Program} {tab : Tab} {w0 : World} {M0 : List Nat} {F0 F F' : Fz} {g : Gh} {s s' : St} {a : Act} {w w' : World} {lb : Lk}

def fnOf : AV → Option FuncId
  | .one (.c (.v (.func (.func f) fst cap))) => if fst.size = 0 ∧ cap.size = 0 then some f else none
  | _ => none

def ownsOf (s : St) (c : Call) : List Nat := (c.args.toList.map (opv s)).flatMap AV.owns

def ActsOut (tab : Tab) (o : Oper) (s s' : St) : Prop := ∃ pr e, outF tab o s = some (pr, e) ∧ pr ∧ e.ok o.dst s ∧ s' = e.app o.dst s
def ActsCall (P : Program) (o : Oper) (s s' : St) : Prop :=
  ∃ c f fid ds r, o.op = .call c ∧ c.callee = .value f ∧ fnOf (opv s f) = some fid ∧ ViewAVs s.lb (c.args.toList.map (opv s)) ds ∧ Sat P fid ds r ∧ (∀ t, o.dst = some t → t < s.n) ∧ s' = (s.frzs (ownsOf s c)).set o.dst r
def Acts (P : Program) (tab : Tab) (o : Oper) (s s' : St) : Prop := ActsOut tab o s s' ∨ ActsCall P o s s'

def Want (ops : Array Oper) (o : Oper) (s : St) (b : Bool) : Prop :=
  match o.guard with
  | none => b = true
  | some (j, wnt) => ∃ d, ((ops[j]?).bind (·.dst)) = some d ∧ ((∃ x, s.sl d = .one (.c (.v (.bool x))) ∧ b = (x == wnt)) ∨ (s.sl d = .tup [] ∧ b = false))

def Step (P : Program) (tab : Tab) (ops : Array Oper) (o : Oper) (s s' : St) : Prop :=
  (Want ops o s true ∧ Acts P tab o s s') ∨ (Want ops o s false ∧ (∀ t, o.dst = some t → t < s.n) ∧ s' = s.set o.dst (.tup []))

def SimE (w0 : World) (M0 : List Nat) (F0 : Fz) (s : St) (a : Act) (w : World) : Prop := ∃ F g, Sim w0 M0 F0 F g s a w

theorem want_sound (h : Sim w0 M0 F0 F g s a w) {ops : Array Oper} {o : Oper} {b : Bool} (hw : Want ops o s b) : Region.wanted o (yielded ops a.tmps) = b := by
  unfold Want at hw
  unfold Region.wanted
  cases hg : o.guard with
  | none => rw [hg] at hw; simp only at hw ⊢; exact hw.symm
  | some p =>
    obtain ⟨j, wnt⟩ := p
    rw [hg] at hw
    simp only at hw ⊢
    obtain ⟨d, hd, hw⟩ := hw
    have hs := h.sl d
    unfold yielded
    rw [hd]
    simp only [Option.bind_some]
    rcases hw with ⟨x, hx, rfl⟩ | ⟨hx, rfl⟩
    · rw [hx] at hs
      have hs := hs.c_v
      have : a.tmps[d]? = some (.bool x) := by
        cases hq : a.tmps[d]? with
        | none => simp [Array.getD_eq_getD_getElem?, hq, undef] at hs
        | some v => simpa [Array.getD_eq_getD_getElem?, hq] using hs
      rw [this]
      cases x <;> cases wnt <;> rfl
    · rw [hx] at hs
      simp only [RepAV, RepAVs] at hs
      obtain ⟨us, hu, rfl⟩ := hs
      cases hq : a.tmps[d]? with
      | none => cases wnt <;> rfl
      | some v =>
        simp [Array.getD_eq_getD_getElem?, hq] at hu
        rw [hu]; cases wnt <;> rfl

theorem acts_sound (hT : TabOk P tab) (h : Sim w0 M0 F0 F g s a w) {o : Oper} (hs : Acts P tab o s s') {K : Act → World → Prop} {Q : Exit → Act → World → Prop} (hK : ∀ a' w', SimE w0 M0 F0 s' a' w' → K a' w') : o.wp P a w K Q := by
  rcases hs with ⟨pr, e, ho, hp, hk, rfl⟩ | ⟨c, f, fid, ds, r, hop, hcal, hfn, hview, hsat, hdst, rfl⟩
  · obtain ⟨v, w', g', hsim, hr⟩ := outF_sound (P := P) hT h ho hp hk
    unfold Oper.wp
    rcases hr with hr | ⟨rfl, hr⟩
    · rw [hr]; exact hK _ _ ⟨F, g', hsim⟩
    · rw [hr]; exact hK _ _ ⟨F, g', hsim⟩
  · obtain ⟨callee, args, ts⟩ := c
    simp only at hcal
    subst hcal
    obtain ⟨⟨fn, hfun, hname, hbody⟩, hcalls⟩ := hsat
    have E := opv_sound h
    have Ef := E f
    have hfv : a.eval f = .func (.func fid) #[] #[] := by
      unfold fnOf at hfn
      split at hfn
      · rename_i f' fst cap heq
        split at hfn
        · rename_i hz
          obtain rfl := Option.some.inj hfn
          rw [heq] at Ef
          have Ef := Ef.c_v
          rw [Ef, Array.eq_empty_of_size_eq_zero hz.1, Array.eq_empty_of_size_eq_zero hz.2]
        · cases hfn
      · cases hfn
    obtain ⟨F1, h1, u1, p1⟩ := h.freezes (ownsOf s ⟨.value f, args, ts⟩)
    have hargs : RepAVs w F s.lb g (args.toList.map (opv s)) (args.toList.map a.eval) := by
      have : ∀ (xs : List Operand), RepAVs w F s.lb g (xs.map (opv s)) (xs.map a.eval) := by
        intro xs
        induction xs with
        | nil => simp [RepAVs]
        | cons x xs ih => exact ⟨_, _, rfl, E x, ih⟩
      exact this _
    have hF1 : Sim w0 M0 F0 F1 g (s.frzs (ownsOf s ⟨.value f, args, ts⟩)) a w := h1
    have hds : RepAVs w F1 noLk g0 ds (args.toList.map a.eval) := by
      have hargs1 := RepAVs.mono (w := w) (w' := w) ⟨u1, fun _ _ _ => rfl⟩ (Keeps.refl s.lb g) _ _ hargs
      exact viewAVs_sound' h u1 _ _ _ hview hargs1 (fun l hl => p1 l hl)
    have hc := hcalls w F1 (args.toList.map a.eval) hF1.f2 hds
    have hrun : (execOp a.eval o).run P w = .ok (.enter fid (args.toList.map a.eval).toArray) w := by
      have he : (args.toList.map a.eval).toArray = args.map a.eval := by rw [← Array.toList_map, Array.toArray_toList]
      rw [he]
      simp [execOp, hop, resolve, hfv, Deferred.ofValue, invoke, callFunc, hfun, hname, hbody]
    unfold Oper.wp
    rw [hrun]
    refine hc.mono ?_
    rintro e w' ⟨v, F', rfl, hbel, hup, hnew, hlt, hrep⟩
    refine hK _ _ ⟨F', g, ?_⟩
    have hgr : Sim w0 M0 F0 F' g (s.frzs (ownsOf s ⟨.value f, args, ts⟩)) a w' := by
      refine hF1.grows ⟨⟨hup, fun b o hb => cell_of_heap (hbel.block b (hF1.f2 b o hb)) o⟩, fun l B hl b hb => hbel.block b (hF1.nw l B hl b hb).2, fun l B hl => ?_, fun b o hb => (hnew b o hb).imp id (fun hq => .inl (Nat.le_trans hF1.size hq)), hlt,
        hbel.os, hbel.tape, hbel.output, hbel.size, fun k hk _ => hbel.block k (Nat.lt_of_lt_of_le hk hF1.size)⟩
      have hso := hF1.so l B hl
      have hnw := hF1.nw l B hl
      have hlb := hF1.lb l B hl
      cases B with
      | var cells =>
        simp only [SoftOk] at hso ⊢
        obtain ⟨_, _, _, _, hd⟩ := hlb
        intro o hf
        rcases hnew _ o hf with hf | hf
        · exact hso o hf
        · have := (hnw (g.bl l) (by rw [hd]; simp)).2; omega
      | arr e sz rows fz =>
        simp only [SoftOk] at hso ⊢
        obtain ⟨_, _, _, _, _, _, hd⟩ := hlb
        intro b hb o hcz hf
        rcases hnew _ o hf with hf | hf
        · exact hso b hb o hcz hf
        · have := (hnw b (by rw [hd]; simp [hb])).2; omega
      | tok x fz =>
        simp only [SoftOk] at hso ⊢
        intro hz b hb o hf
        rcases hnew _ o hf with hf | hf
        · exact hso hz b hb o hf
        · have := (hnw b hb).2; omega
      | dead => trivial
    exact hgr.set? (by simpa using hdst) (RepAV.mono (Stays.refl w' F') ⟨fun l B hl => by simp [noLk] at hl⟩ _ _ hrep)

end Go.Ai
