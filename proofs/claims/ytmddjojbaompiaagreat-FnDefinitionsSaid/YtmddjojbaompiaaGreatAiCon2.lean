/- Steps that name different blocks may be exchanged, writes among them. -/
import Derived.Test.YtmddjojbaompiaaGreatAiRegion
import Derived.Test.YtmddjojbaompiaaGreatAiRow2
set_option linter.unusedVariables false
set_option linter.unusedSimpArgs false
namespace Go.Ai
open Go.RowKit
variable {P : Program} {tab : Tab} {ops : Array Oper}
structure AgreeE (ops : Array Oper) (o : Oper) (s t : St) : Prop where
 sl : ∀ k, k ∈ o.looksAt ops → t.sl k = s.sl k
 lb : ∀ x, x ∈ o.op.operands.toList → ∀ l, l ∈ (opv s x).refs → t.lb l = s.lb l
 dn : ∀ d, o.dst = some d → s.lb d = none → t.lb d = none
 n : t.n = s.n
inductive FormU (o : Oper) (s : St) : (Lk → Lk) → Prop
 | id : FormU o s (fun lb => lb)
 | put (d : Nat) (B : LB) (hd : o.dst = some d) (hn : s.lb d = none) : FormU o s (putL d B)
 | frz (ls : List Nat) (h : ∀ l, l ∈ ls → ∃ x, x ∈ o.op.operands.toList ∧ l ∈ (opv s x).refs) : FormU o s (frzL ls)
 | upd (l : Nat) (B : LB) (h : ∃ x, x ∈ o.op.operands.toList ∧ l ∈ (opv s x).refs) : FormU o s (putL l B)
theorem Form.toU {o : Oper} {s : St} {φ : Lk → Lk} (h : Form o s φ) : FormU o s φ := by
 cases h with
 | id => exact .id
 | put d B hd hn => exact .put d B hd hn
 | frz ls h => exact .frz ls h
theorem moreA_congr {lb lb' : Lk} {y : AV} (h : ∀ l, l ∈ y.refs → lb' l = lb l) : moreA lb' y = moreA lb y := by
 unfold moreA
 split <;> try rfl
 rename_i l n
 rw [h l (by simp [AV.refs, AC.refs])]
theorem appendA_congr {lb lb' : Lk} {d : Nat} {e : TypeId} {x y : AV} (hx : ∀ l, l ∈ x.refs → lb' l = lb l) (hy : ∀ l, l ∈ y.refs → lb' l = lb l) : appendA tab lb' d e x y = appendA tab lb d e x y := by
 have hm := moreA_congr hy
 unfold appendA
 rw [hm]
 split <;> try rfl
 split <;> try rfl
 rename_i l n
 rw [hx l (by simp [AV.refs, AC.refs])]
theorem storeA_congr {lb lb' : Lk} {t : TypeId} {p x : AV} (hp : ∀ l, l ∈ p.refs → lb' l = lb l) : storeA tab lb' t p x = storeA tab lb t p x := by
 unfold storeA
 split <;> try rfl
 ·rw [hp _ (by simp [AV.refs, AC.refs])]
 ·rw [hp _ (by simp [AV.refs, AC.refs])]
theorem outF_congrE {s s' : St} {o : Oper} (hs : ∀ t, t ∈ tmpsOf o.op.operands → s'.sl t = s.sl t) (hl : ∀ x, x ∈ o.op.operands.toList → ∀ l, l ∈ (opv s x).refs → s'.lb l = s.lb l) : outF tab o s' = outF tab o s := by
 by_cases hw : strong o = false
 ·exact outF_congr hw hs (fun x hx l h => by rw [hl x hx l h]; exact eqv.refl _)
 ·have O : ∀ x, x ∈ o.op.operands.toList → opv s' x = opv s x := fun x hx => opv_same hs hx
  have hpure := pureF_congr (tab := tab) hs (fun x hx l h => by rw [hl x hx l h]; exact eqv.refl _)
  unfold outF
  split
  ·rfl
  ·rename_i t x hop; exact absurd (by simp [strong, hop]) hw
  ·rename_i t len parts hop; exact absurd (by simp [strong, hop]) hw
  ·rename_i t x y hop; exact absurd (by simp [strong, hop]) hw
  ·rename_i t p x hop
   have hp : p ∈ o.op.operands.toList := by simp [hop, Op.operands]
   rw [O p hp, O x (by simp [hop, Op.operands])]
   exact storeA_congr (hl p hp)
  ·rename_i c hop
   have C : ∀ x, x ∈ c.args.toList → x ∈ o.op.operands.toList := fun x hx => by
    simp only [hop, Op.operands, Call.operands, Array.toList_append, List.mem_append]; exact .inr hx
   unfold callF
   split
   ·split
    ·rename_i x y t t' ha ht
     have hx := C x (by simp [ha])
     have hy := C y (by simp [ha])
     rw [O x hx, O y hy]
     split
     ·split
      ·exact appendA_congr (hl x hx) (hl y hy)
      ·rfl
     ·rfl
    ·rfl
   ·unfold pureF at hpure
    simp only [hop] at hpure
    rw [hpure]
  ·rw [hpure]
theorem upd_ref {o : Oper} {s : St} {pr : Prop} {v : AV} {l : Nat} {B : LB} (h : outF tab o s = some (pr, .upd v l B)) : ∃ x, x ∈ o.op.operands.toList ∧ l ∈ (opv s x).refs := by
 unfold outF at h
 split at h
 ·cases ht : tab _ <;> rw [ht] at h <;> cases h
 ·cases ht : (opv s _).cs <;> rw [ht] at h <;> cases h
 ·split at h
  ·split at h
   ·split at h
    ·rename_i x _ _ _ _ _
     cases hf : fillA _ _ _ <;> rw [hf] at h <;> cases h
    ·cases h
   ·cases h
  ·cases h
 ·split at h
  ·split at h
   ·split at h
    ·cases h
    ·cases h
   ·cases h
  ·cases h
 ·rename_i t p x hop
  refine ⟨p, by simp [hop, Op.operands], ?_⟩
  unfold storeA at h
  split at h
  ·rename_i hp _
   split at h
   ·split at h
    ·cases h; rw [hp]; simp [AV.refs, AC.refs]
    ·cases h
   ·cases h
  ·rename_i hp _
   split at h
   ·split at h
    ·cases h; rw [hp]; simp [AV.refs, AC.refs]
    ·cases h
   ·cases h
  ·cases h
 ·rename_i c hop
  unfold callF at h
  split at h
  ·split at h
   ·rename_i x y t t' ha ht
    have hx : x ∈ o.op.operands.toList := by
     simp only [hop, Op.operands, Call.operands, Array.toList_append, List.mem_append]; exact .inr (by simp [ha])
    refine ⟨x, hx, ?_⟩
    split at h
    ·split at h
     ·unfold appendA at h
      split at h
      ·cases h
      ·split at h
       ·rename_i hp
        split at h
        ·split at h
         ·cases h; rw [hp]; simp [AV.refs, AC.refs]
         ·cases h
        ·cases h
       ·split at h
        ·cases h
        ·split at h <;> cases h
        ·cases h
       ·split at h
        ·cases h
        ·split at h <;> cases h
        ·cases h
       ·cases h
     ·cases h
    ·cases h
   ·cases h
  ·cases hf : callPure tab s c <;> rw [hf] at h <;> cases h
 ·cases hf : pureF tab o s <;> rw [hf] at h <;> cases h
theorem step_form {o : Oper} {s s' : St} (h : Step P tab ops o s s') : ∃ φ v, s' = s.app φ o.dst v ∧ FormU o s φ ∧ ∀ t, AgreeE ops o s t → Step P tab ops o t (t.app φ o.dst v) := by
 by_cases hw : strong o = false
 ·obtain ⟨φ, v, h1, h2, h3⟩ := step_weak hw h
  exact ⟨φ, v, h1, h2.toU, fun t ha => h3 t ⟨ha.sl, fun x hx l hl => by rw [ha.lb x hx l hl]; exact eqv.refl _, ha.dn, ha.n⟩⟩
 ·rcases h with ⟨hwant, hact⟩ | ⟨hwant, hd, rfl⟩
  ·rcases hact with ⟨pr, e, ho, hp, hk, rfl⟩ | hc
   ·have cong : ∀ t, AgreeE ops o s t → outF tab o t = some (pr, e) := fun t ha => by
     rw [← ho]; exact outF_congrE (fun k hk => ha.sl k (looks_ops hk)) ha.lb
    cases e with
    | val v => exact ⟨fun lb => lb, v, rfl, .id, fun t ha => .inl ⟨want_congr ha.sl hwant, .inl ⟨pr, .val v, cong t ha, hp, by simp only [Eff.ok] at hk ⊢; rw [ha.n]; exact hk, rfl⟩⟩⟩
    | new v B =>
     obtain ⟨d, hd, hn, hf⟩ := hk
     exact ⟨putL d B, v, app_new hd, .put d B hd hf, fun t ha => .inl ⟨want_congr ha.sl hwant, .inl ⟨pr, .new v B, cong t ha, hp, ⟨d, hd, by rw [ha.n]; exact hn, ha.dn d hd hf⟩, (app_new hd).symm⟩⟩⟩
    | upd v l B => exact ⟨putL l B, v, rfl, .upd l B (upd_ref ho), fun t ha => .inl ⟨want_congr ha.sl hwant, .inl ⟨pr, .upd v l B, cong t ha, hp, by simp only [Eff.ok] at hk ⊢; rw [ha.n]; exact hk, rfl⟩⟩⟩
   ·obtain ⟨φ, v, h1, h2, h3⟩ := actsCall_form (ops := ops) hc
    exact ⟨φ, v, h1, h2.toU, fun t ha => .inl ⟨want_congr ha.sl hwant, .inr (h3 t ⟨ha.sl, fun x hx l hl => by rw [ha.lb x hx l hl]; exact eqv.refl _, ha.dn, ha.n⟩)⟩⟩
  ·exact ⟨fun lb => lb, .tup [], rfl, .id, fun t ha => .inr ⟨want_congr ha.sl hwant, by rw [ha.n]; exact hd, rfl⟩⟩
theorem frzL_at (ls : List Nat) : ∀ (lb : Lk) (k : Nat), frzL ls lb k = if k ∈ ls then (lb k).map LB.frz else lb k := by
 induction ls with
 | nil => intro lb k; simp [frzL]
 | cons l ls ih =>
  intro lb k
  show frzL ls (frzL1 l lb) k = _
  rw [ih]
  have ff : ∀ x : Option LB, (x.map LB.frz).map LB.frz = x.map LB.frz := by
   intro x; cases x with
   | none => rfl
   | some B => cases B <;> rfl
  unfold frzL1
  by_cases e1 : k ∈ ls <;> by_cases e2 : k = l <;> simp [e1, e2, ff]
def FormU.At (φ : Lk → Lk) (A : Nat → Prop) : Prop := ∃ f : Nat → Option LB → Option LB, (∀ lb k, φ lb k = f k (lb k)) ∧ ∀ k, ¬ A k → ∀ x, f k x = x
theorem at_comm {φ ψ : Lk → Lk} {A B : Nat → Prop} (h1 : FormU.At φ A) (h2 : FormU.At ψ B) (hd : ∀ k, A k → ¬ B k) (lb : Lk) : φ (ψ lb) = ψ (φ lb) := by
 obtain ⟨f, f1, f2⟩ := h1
 obtain ⟨g, g1, g2⟩ := h2
 funext k
 rw [f1, g1, g1, f1]
 by_cases hA : A k
 ·rw [g2 k (hd k hA), g2 k (hd k hA)]
 ·rw [f2 k hA, f2 k hA]
theorem at_put (d : Nat) (B : LB) : FormU.At (putL d B) (fun k => k = d) :=
 ⟨fun k x => if k = d then some B else x, fun lb k => rfl, fun k hk x => by simp [show ¬ k = d from hk]⟩
theorem at_frz (ls : List Nat) : FormU.At (frzL ls) (fun k => k ∈ ls) :=
 ⟨fun k x => if k ∈ ls then x.map LB.frz else x, fun lb k => frzL_at ls lb k, fun k hk x => by simp [show ¬ k ∈ ls from hk]⟩
theorem at_id : FormU.At (fun lb => lb) (fun _ => False) := ⟨fun _ x => x, fun _ _ => rfl, fun _ _ _ => rfl⟩
theorem form_at {o : Oper} {s : St} {φ : Lk → Lk} (h : FormU o s φ) : ∃ A, FormU.At φ A ∧ (∀ k, A k → (s.lb k = none ∧ o.dst = some k) ∨ ∃ x, x ∈ o.op.operands.toList ∧ k ∈ (opv s x).refs) ∧ ∀ lb k, φ lb k = none → lb k = none := by
 cases h with
 | id => exact ⟨_, at_id, fun k hk => hk.elim, fun _ _ h => h⟩
 | put d B hd hn => exact ⟨_, at_put d B, fun k hk => .inl (by subst hk; exact ⟨hn, hd⟩), fun lb k h => by unfold putL at h; split at h; cases h; exact h⟩
 | frz ls h => exact ⟨_, at_frz ls, fun k hk => .inr (h k hk), fun lb k h => by rw [frzL_at] at h; split at h <;> simpa using h⟩
 | upd l B h => exact ⟨_, at_put l B, fun k hk => .inr (by subst hk; exact h), fun lb k h => by unfold putL at h; split at h; cases h; exact h⟩
theorem swapE {x y : Oper} {s s1 s2 : St} (hh : Here s) (hap : x.apart ops y = true) (hsep : ∀ z, z ∈ x.op.operands.toList → ∀ z', z' ∈ y.op.operands.toList → ∀ l, l ∈ (opv s z).refs → l ∉ (opv s z').refs)
  (h1 : Step P tab ops x s s1) (h2 : Step P tab ops y s1 s2) : ∃ s1', Step P tab ops y s s1' ∧ Step P tab ops x s1' s2 := by
 obtain ⟨a1, a2, a3⟩ := Oper.apart_spec hap
 have nx : ∀ k, k ∈ y.looksAt ops → x.dst ≠ some k := fun k hk e => a1 k e hk
 have ny : ∀ k, k ∈ x.looksAt ops → y.dst ≠ some k := fun k hk e => a3 k e hk
 have hne : ∀ t, x.dst = some t → y.dst ≠ some t := fun t e => a2 t e
 obtain ⟨φ, v, rfl, F1, k1⟩ := step_form h1
 obtain ⟨ψ, u, rfl, F2, k2⟩ := step_form h2
 have Oy : ∀ z, z ∈ y.op.operands.toList → opv (s.app φ x.dst v) z = opv s z := fun z hz => opv_same (fun k hk => app_sl _ _ _ _ _ (nx k (looks_ops hk))) hz
 obtain ⟨A, A1, A2, A3⟩ := form_at F1
 obtain ⟨B, B1, B2, B3⟩ := form_at F2
 have B2' : ∀ k, B k → (s.lb k = none ∧ y.dst = some k) ∨ ∃ z, z ∈ y.op.operands.toList ∧ k ∈ (opv s z).refs := by
  intro k hk
  rcases B2 k hk with ⟨h, hd⟩ | ⟨z, hz, hl⟩
  ·rw [app_lb] at h; exact .inl ⟨A3 _ _ h, hd⟩
  ·rw [Oy z hz] at hl; exact .inr ⟨z, hz, hl⟩
 have hdis : ∀ k, A k → ¬ B k := by
  intro k hA hB
  rcases A2 k hA with ⟨hn, hd⟩ | ⟨z, hz, hl⟩
  ·rcases B2' k hB with ⟨_, hd'⟩ | ⟨z', hz', hl'⟩
   ·exact hne k hd hd'
   ·exact here_opv hh z' k hl' hn
  ·rcases B2' k hB with ⟨hn', _⟩ | ⟨z', hz', hl'⟩
   ·exact here_opv hh z k hl hn'
   ·exact hsep z hz z' hz' k hl hl'
 have offA : ∀ (lb : Lk) k, ¬ A k → φ lb k = lb k := by
  intro lb k hk
  obtain ⟨f, f1, f2⟩ := A1
  rw [f1, f2 k hk]
 have offB : ∀ (lb : Lk) k, ¬ B k → ψ lb k = lb k := by
  intro lb k hk
  obtain ⟨f, f1, f2⟩ := B1
  rw [f1, f2 k hk]
 have G2 : AgreeE ops y (s.app φ x.dst v) s := by
  refine ⟨fun k hk => (app_sl _ _ _ _ _ (nx k hk)).symm, fun z hz l hl => ?_, fun d hd hn => ?_, (app_n _ _ _ _).symm⟩
  ·rw [Oy z hz] at hl
   rw [app_lb]
   refine (offA _ l (fun hA => ?_)).symm
   rcases A2 l hA with ⟨hn, _⟩ | ⟨z', hz', hl'⟩
   ·exact here_opv hh z l hl hn
   ·exact hsep z' hz' z hz l hl' hl
  ·rw [app_lb] at hn; exact A3 _ _ hn
 have S2 := k2 s G2
 have G1 : AgreeE ops x s (s.app ψ y.dst u) := by
  refine ⟨fun k hk => app_sl _ _ _ _ _ (ny k hk), fun z hz l hl => ?_, fun d hd hn => ?_, app_n _ _ _ _⟩
  ·rw [app_lb]
   refine offB _ l (fun hB => ?_)
   rcases B2' l hB with ⟨hn, _⟩ | ⟨z', hz', hl'⟩
   ·exact here_opv hh z l hl hn
   ·exact hsep z hz z' hz' l hl hl'
  ·rw [app_lb, offB _ d (fun hB => ?_)]
   ·exact hn
   ·rcases B2' d hB with ⟨_, hd'⟩ | ⟨z', hz', hl'⟩
    ·exact hne d hd hd'
    ·exact here_opv hh z' d hl' hn
 have S1 := k1 _ G1
 refine ⟨_, S2, ?_⟩
 rw [app_comm s φ ψ x.dst y.dst v u hne (at_comm A1 B1 hdis s.lb)]
 exact S1
end Go.Ai
/- Drawn regions in which a write and what it is not ordered with name different blocks. -/
namespace Go.Ai
open Go.RowKit
variable {P : Program} {tab : Tab} {ops : Array Oper} {w0 : World} {M0 : Ms} {F0 : Fz}
structure Pr where
 i : Nat
 j : Nat
 a : List Tmp
 b : List Tmp
def slotsOk (ops : Array Oper) (i : Nat) (x : Oper) : Bool := (List.range ops.size).all fun m => decide (m < i) || match ops.toList[m]? with
 | none => true
 | some q => match q.dst with
  | none => true
  | some d => !(x.looksAt ops).contains d
def prOk (ops : Array Oper) (p : Pr) : Bool := decide (p.i < p.j) && match ops.toList[p.i]?, ops.toList[p.j]? with
 | some x, some y => x.apart ops y && slotsOk ops p.i x && slotsOk ops p.j y && (tmpsOf x.op.operands == p.a) && (tmpsOf y.op.operands == p.b)
 | _, _ => false
def regOkD (ops : Array Oper) (prs : List Pr) : Bool :=
 prs.all (prOk ops) && (List.range ops.size).all fun j => match ops.toList[j]? with
  | none => true
  | some oj => oj.after.toList.all (fun e => !Region.binds .any e || decide (e.on < j)) &&
   (List.range j).all fun i => match ops.toList[i]? with
    | none => true
    | some oi => ((befsA [] ops.toList).getD j 0).testBit i || commOk ops oi oj || prs.any fun p => p.i == i && p.j == j
def refsAt (s : St) (ts : List Tmp) : List Nat := ts.flatMap fun t => (s.sl t).refs
def SepAt (prs : List Pr) (j : Nat) (s : St) : Prop := ∀ p, p ∈ prs → p.j = j → ∀ l, l ∈ refsAt s p.a → l ∉ refsAt s p.b
def StepsD (P : Program) (tab : Tab) (fx : Nat → Bool) (ops : Array Oper) (prs : List Pr) : List Nat → St → St → Prop
 | [], s, s' => s' = s
 | i :: is, s, s' => ∃ o s1, ops[i]? = some o ∧ SepAt prs i s ∧ StepX P tab (fx i) ops o s s1 ∧ StepsD P tab fx ops prs is s1 s'
theorem stepsD_append {fx : Nat → Bool} {prs : List Pr} : ∀ (l m : List Nat) (s s' : St), StepsD P tab fx ops prs (l ++ m) s s' ↔ ∃ s1, StepsD P tab fx ops prs l s s1 ∧ StepsD P tab fx ops prs m s1 s'
 | [], m, s, s' => by simp [StepsD]
 | i :: l, m, s, s' => by
  simp only [List.cons_append, StepsD]
  constructor
  ·rintro ⟨o, s1, ho, hsep, h1, h2⟩
   obtain ⟨s2, k1, k2⟩ := (stepsD_append l m s1 s').1 h2
   exact ⟨s2, ⟨o, s1, ho, hsep, h1, k1⟩, k2⟩
  ·rintro ⟨s2, ⟨o, s1, ho, hsep, h1, k1⟩, k2⟩
   exact ⟨o, s1, ho, hsep, h1, (stepsD_append l m s1 s').2 ⟨s2, k1, k2⟩⟩
theorem opv_refs {s : St} {xs : Array Operand} {z : Operand} (hz : z ∈ xs.toList) {l : Nat} (hl : l ∈ (opv s z).refs) : ∃ t, t ∈ tmpsOf xs ∧ l ∈ (s.sl t).refs := by
 cases z with
 | tmp t => exact ⟨t, by simp only [tmpsOf, List.mem_filterMap]; exact ⟨.tmp t, hz, rfl⟩, hl⟩
 | const v =>
  simp only [opv] at hl
  have : ∀ v, (constAV v).refs = [] := by
   intro v
   cases v <;> try rfl
   rename_i A n c
   cases A with
   | none => cases n with
    | zero => cases c <;> rfl
    | succ n => rfl
   | some A => rfl
  rw [this] at hl; cases hl
 | global g => simp [opv, AV.refs] at hl
 | func f => simp [opv, AV.refs, AC.refs] at hl
theorem slotsOk_spec {i : Nat} {x : Oper} (h : slotsOk ops i x = true) {m : Nat} (hm : i ≤ m) {q : Oper} (hq : ops[m]? = some q) : ∀ k, k ∈ x.looksAt ops → q.dst ≠ some k := by
 intro k hk e
 have hlt := (Array.getElem?_eq_some_iff.1 hq).1
 have := List.all_eq_true.1 h m (List.mem_range.2 hlt)
 have hq' : ops.toList[m]? = some q := by simpa using hq
 rw [hq'] at this
 simp only [e, Bool.or_eq_true, decide_eq_true_eq, Bool.not_eq_true'] at this
 rcases this with h | h
 ·omega
 ·have hc : (x.looksAt ops).contains k = true := by simpa using hk
  rw [hc] at h; cases h
theorem step_keep {o : Oper} {s s' : St} (h : Step P tab ops o s s') {k : Tmp} (hk : o.dst ≠ some k) : s'.sl k = s.sl k := by
 obtain ⟨φ, v, rfl, _, _⟩ := step_form h
 exact app_sl _ _ _ _ _ hk
theorem steps_keep {fx : Nat → Bool} {prs : List Pr} {k : Tmp} : ∀ (pre : List Nat) (s sm : St), (∀ p, p ∈ pre → fx p = false) → (∀ p q, p ∈ pre → ops[p]? = some q → q.dst ≠ some k) → StepsD P tab fx ops prs pre s sm → sm.sl k = s.sl k
 | [], s, sm, _, _, h => by simp only [StepsD] at h; rw [h]
 | p :: pre, s, sm, hx, hd, h => by
  obtain ⟨q, sp, hq, _, hp, h1⟩ := h
  have hp : Step P tab ops q s sp := hp.resolve_right (fun h => by rw [hx p (by simp)] at h; cases h.1)
  rw [steps_keep pre sp sm (fun p' hp' => hx p' (by simp [hp'])) (fun p' q' hp' => hd p' q' (by simp [hp'])) h1, step_keep hp (hd p q (by simp) hq)]
theorem refsAt_congr {s t : St} {ts : List Tmp} (h : ∀ k, k ∈ ts → t.sl k = s.sl k) : refsAt t ts = refsAt s ts := by
 unfold refsAt
 rw [List.flatMap_def, List.flatMap_def]
 congr 1
 exact List.map_congr_left (fun k hk => by rw [h k hk])
theorem prOk_spec {prs : List Pr} (h : regOkD ops prs = true) {p : Pr} (hp : p ∈ prs) {x y : Oper} (hx : ops[p.i]? = some x) (hy : ops[p.j]? = some y) :
  p.i < p.j ∧ x.apart ops y = true ∧ slotsOk ops p.i x = true ∧ slotsOk ops p.j y = true ∧ tmpsOf x.op.operands = p.a ∧ tmpsOf y.op.operands = p.b := by
 simp only [regOkD, Bool.and_eq_true] at h
 have h1 := List.all_eq_true.1 h.1 p hp
 have hx' : ops.toList[p.i]? = some x := by simpa using hx
 have hy' : ops.toList[p.j]? = some y := by simpa using hy
 simp only [prOk, hx', hy', Bool.and_eq_true, decide_eq_true_eq, beq_iff_eq] at h1
 exact ⟨h1.1, h1.2.1.1.1.1, h1.2.1.1.1.2, h1.2.1.1.2, h1.2.1.2, h1.2.2⟩
theorem regOkD_edges {prs : List Pr} (h : regOkD ops prs = true) {j : Nat} {o : Oper} (ho : ops[j]? = some o) {e : Edge} (he : e ∈ o.after) (hb : Region.binds .any e = true) : e.on < j := by
 have hj : j < ops.size := (Array.getElem?_eq_some_iff.1 ho).1
 simp only [regOkD, Bool.and_eq_true] at h
 have := List.all_eq_true.1 h.2 j (List.mem_range.2 hj)
 have ho' : ops.toList[j]? = some o := by simpa using ho
 rw [ho'] at this
 simp only [Bool.and_eq_true] at this
 have := List.all_eq_true.1 this.1 e (by simpa using he)
 simpa [hb] using this
theorem regOkD_pair {prs : List Pr} (h : regOkD ops prs = true) {i j : Nat} {x y : Oper} (hij : i < j) (hx : ops[i]? = some x) (hy : ops[j]? = some y) : ((befsA [] ops.toList).getD j 0).testBit i = true ∨ (commOk ops x y = true ∨ ∃ p, p ∈ prs ∧ p.i = i ∧ p.j = j) := by
 have hj : j < ops.size := (Array.getElem?_eq_some_iff.1 hy).1
 simp only [regOkD, Bool.and_eq_true] at h
 have := List.all_eq_true.1 h.2 j (List.mem_range.2 hj)
 have hy' : ops.toList[j]? = some y := by simpa using hy
 have hx' : ops.toList[i]? = some x := by simpa using hx
 rw [hy'] at this
 simp only [Bool.and_eq_true] at this
 have := List.all_eq_true.1 this.2 i (List.mem_range.2 hij)
 rw [hx'] at this
 simp only [Bool.or_eq_true] at this
 rcases this with (h | h) | h
 ·exact .inl h
 ·exact .inr (.inl h)
 ·obtain ⟨p, hp, hq⟩ := List.any_eq_true.1 h
  simp only [Bool.and_eq_true, beq_iff_eq] at hq
  exact .inr (.inr ⟨p, hp, hq.1, hq.2⟩)
theorem before_listedD {prs : List Pr} (h : regOkD ops prs = true) {listed : Array Bool} (hdown : ∀ j o, ops[j]? = some o → listed.getD j false = true → ∀ e, e ∈ o.after → Region.binds .any e = true → listed.getD e.on false = true) (i : Nat) :
  ∀ (j : Nat) (o : Oper), ops[j]? = some o → (∀ e, e ∈ o.after → Region.binds .any e = true → listed.getD e.on false = true) → ((befsA [] ops.toList).getD j 0).testBit i = true → listed.getD i false = true := by
 intro j
 induction j using Nat.strongRecOn with
 | _ j ih =>
  intro o ho hall hbit
  have R := befs_R ops.toList [] [] rfl (by intro k m hk; simp at hk)
  cases hm : (befsA [] ops.toList)[j]? with
  | none => simp [List.getD, hm] at hbit
  | some m =>
   simp [List.getD, hm] at hbit
   obtain ⟨o', ho', e, he, hb, hq⟩ := R j m hm i hbit
   simp at ho'
   rw [ho] at ho'
   obtain rfl := Option.some.inj ho'
   have hle := hall e (by simpa using he) hb
   rcases hq with rfl | ⟨m', hm', hb'⟩
   ·exact hle
   ·have hlt := regOkD_edges h ho (by simpa using he) hb
    have hjs : e.on < ops.size := Nat.lt_trans hlt (Array.getElem?_eq_some_iff.1 ho).1
    have hoe : ops[e.on]? = some ops[e.on] := Array.getElem?_eq_getElem hjs
    exact ih e.on hlt _ hoe (fun e' he' hb'' => hdown e.on _ hoe hle e' he' hb'') (by simp [List.getD, hm', hb'])
theorem bubbleD (hT : TabOk P tab) {prs : List Pr} (hok : regOkD ops prs = true) {fx : Nat → Bool} {o : Oper} {j : Nat} (ho : ops[j]? = some o) : ∀ (pre : List Nat) (s sm sn : St), (∃ a w, SimE w0 M0 F0 s a w) → pre.Pairwise (· < ·) → (∀ p, p ∈ pre → p < j) →
  (∀ p q, p ∈ pre → ops[p]? = some q → commOk ops q o = true ∨ ∃ r, r ∈ prs ∧ r.i = p ∧ r.j = j) → (∀ p, p ∈ pre → fx p = false) →
  StepsD P tab fx ops prs pre s sm → SepAt prs j sm → Step P tab ops o sm sn → ∃ s1, Step P tab ops o s s1 ∧ StepsD P tab fx ops prs pre s1 sn
 | [], s, sm, sn, _, _, _, _, _, h1, _, h2 => by simp only [StepsD] at h1; subst h1; exact ⟨sn, h2, rfl⟩
 | p :: pre, s, sm, sn, hl, hpw, hlt, hc, hx, h1, hsep, h2 => by
  have hall := h1
  obtain ⟨q, sp, hq, hsepp, hp, h1⟩ := h1
  have hp : Step P tab ops q s sp := hp.resolve_right (fun h => by rw [hx p (by simp)] at h; cases h.1)
  have hpw' := List.pairwise_cons.1 hpw
  have hap : ∀ p' q', p' ∈ p :: pre → ops[p']? = some q' → q'.apart ops o = true := by
   intro p' q' hp' hq'
   rcases hc p' q' hp' hq' with h | ⟨r, hr, e1, e2⟩
   ·simp only [commOk, Bool.and_eq_true] at h; exact h.1.1
   ·exact (prOk_spec hok hr (by rw [e1]; exact hq') (by rw [e2]; exact ho)).2.1
  obtain ⟨s1', k1, k2⟩ := bubbleD hT hok ho pre sp sm sn (step_live hT hl hp) hpw'.2 (fun p' hp' => hlt p' (by simp [hp'])) (fun p' q' hp' => hc p' q' (by simp [hp'])) (fun p' hp' => hx p' (by simp [hp'])) h1 hsep h2
  have hsw : ∃ s1, Step P tab ops o s s1 ∧ Step P tab ops q s1 s1' := by
   rcases hc p q (by simp) hq with h | ⟨r, hr, e1, e2⟩
   ·exact swap (here_of_sim hl) h hp k1
   ·obtain ⟨_, g2, g3, g4, g5, g6⟩ := prOk_spec hok hr (by rw [e1]; exact hq) (by rw [e2]; exact ho)
    refine swapE (here_of_sim hl) g2 (fun z hz z' hz' l hl1 hl2 => ?_) hp k1
    obtain ⟨t, ht, hlt1⟩ := opv_refs hz hl1
    obtain ⟨t', ht', hlt2⟩ := opv_refs hz' hl2
    have ka : ∀ k, k ∈ r.a → s.sl k = sm.sl k := fun k hk => (steps_keep (p :: pre) s sm hx (fun p' q' hp' hq' => by
     have hle : r.i ≤ p' := by
      rw [e1]
      rcases List.mem_cons.1 hp' with h | h
      ·omega
      ·have := hpw'.1 p' h; omega
     exact slotsOk_spec g3 hle hq' k (looks_ops (by rw [g5]; exact hk))) hall).symm
    have kb : ∀ k, k ∈ r.b → s.sl k = sm.sl k := fun k hk => (steps_keep (p :: pre) s sm hx (fun p' q' hp' hq' e => by
     exact (Oper.apart_spec (hap p' q' hp' hq')).1 k e (looks_ops (by rw [g6]; exact hk))) hall).symm
    refine hsep r hr e2 l ?_ ?_
    ·rw [← refsAt_congr ka]
     exact List.mem_flatMap.2 ⟨t, by rw [← g5]; exact ht, hlt1⟩
    ·rw [← refsAt_congr kb]
     exact List.mem_flatMap.2 ⟨t', by rw [← g6]; exact ht', hlt2⟩
  obtain ⟨s1, k3, k4⟩ := hsw
  refine ⟨s1, k3, q, s1', hq, fun r hr e l hl1 => ?_, .inl k4, k2⟩
  have hpj := hlt p (by simp)
  have hri : ∃ x, ops[r.i]? = some x := by
   simp only [regOkD, Bool.and_eq_true] at hok
   have h1 := List.all_eq_true.1 hok.1 r hr
   simp only [prOk, Bool.and_eq_true] at h1
   cases hxx : ops.toList[r.i]? with
   | none => rw [hxx] at h1; simp at h1
   | some x => exact ⟨x, by simpa using hxx⟩
  obtain ⟨x, hxx⟩ := hri
  obtain ⟨g1, _, g3, g4, g5, g6⟩ := prOk_spec hok hr hxx (by rw [e]; exact hq)
  have ka : ∀ k, k ∈ r.a → s1.sl k = s.sl k := fun k hk => step_keep k3 (slotsOk_spec g3 (by omega) ho k (looks_ops (by rw [g5]; exact hk)))
  have kb : ∀ k, k ∈ r.b → s1.sl k = s.sl k := fun k hk => step_keep k3 (slotsOk_spec g4 (by omega) ho k (looks_ops (by rw [g6]; exact hk)))
  rw [refsAt_congr ka] at hl1
  rw [refsAt_congr kb]
  exact hsepp r hr e l hl1
theorem any_soundD (hT : TabOk P tab) {prs : List Pr} (hok : regOkD ops prs = true) {Q : Exit → Act → World → Prop} {s' : St} (hQ : ∀ a' w', SimE w0 M0 F0 s' a' w' → Q .normal a' w') :
  ∀ (fuel : Nat) (rem : List Nat) (listed : Array Bool) (s : St) (a : Act) (w : World), rem.length = fuel → rem.Pairwise (· < ·) → listed.size = ops.size →
   (∀ i, i ∈ rem ↔ i < ops.size ∧ listed.getD i false = false) →
   (∀ j o, ops[j]? = some o → listed.getD j false = true → ∀ e, e ∈ o.after → Region.binds .any e = true → listed.getD e.on false = true) →
   StepsD P tab (fixAt ops) ops prs rem s s' → SimE w0 M0 F0 s a w → wpAny P .any ops Q fuel listed a w := by
 intro fuel
 have gd : ∀ (listed : Array Bool) (i : Nat) (b c : Bool), i < listed.size → listed.getD i b = listed.getD i c := by
  intro listed i b c hi; simp [hi]
 have noready : ∀ (rem : List Nat) (listed : Array Bool), rem.Pairwise (· < ·) → listed.size = ops.size → (∀ i, i ∈ rem ↔ i < ops.size ∧ listed.getD i false = false) → Region.ready .any ops listed = [] → rem = [] := by
  intro rem listed hpw hsz hrem hr
  cases rem with
  | nil => rfl
  | cons i rest =>
   exfalso
   obtain ⟨hi, hli⟩ := (hrem i).1 (by simp)
   have hoi : ops[i]? = some ops[i] := Array.getElem?_eq_getElem hi
   have : i ∈ Region.ready .any ops listed := by
    rw [mem_ready]
    refine ⟨by rw [gd listed i true false (by omega)]; exact hli, ops[i], hoi, fun e he hb => ?_⟩
    have hlt := regOkD_edges hok hoi he hb
    cases hle : listed.getD e.on false with
    | true => rfl
    | false =>
     have hin := (hrem e.on).2 ⟨by omega, hle⟩
     rcases List.mem_cons.1 hin with h | h
     ·omega
     ·have := (List.pairwise_cons.1 hpw).1 e.on h; omega
   rw [hr] at this; cases this
 induction fuel with
 | zero =>
  intro rem listed s a w hlen hpw hsz hrem hdown hs h
  obtain rfl := List.eq_nil_of_length_eq_zero hlen
  simp only [StepsD] at hs
  subst hs
  refine ⟨?_, hQ _ _ h⟩
  apply List.eq_nil_iff_forall_not_mem.2
  intro i hi
  obtain ⟨hli, o, ho, _⟩ := mem_ready.1 hi
  have hlt := (Array.getElem?_eq_some_iff.1 ho).1
  have := (hrem i).2 ⟨hlt, by rw [gd listed i false true (by omega)]; exact hli⟩
  cases this
 | succ fuel ih =>
  intro rem listed s a w hlen hpw hsz hrem hdown hs h
  refine ⟨fun hr => ?_, fun i hi => ?_⟩
  ·have := noready rem listed hpw hsz hrem hr
   subst this
   simp at hlen
  ·obtain ⟨hli, o, ho, hall⟩ := mem_ready.1 hi
   have hlt := (Array.getElem?_eq_some_iff.1 ho).1
   have hin : i ∈ rem := (hrem i).2 ⟨hlt, by rw [gd listed i false true (by omega)]; exact hli⟩
   obtain ⟨pre, post, rfl⟩ := List.append_of_mem hin
   obtain ⟨sm, k1, k2⟩ := (stepsD_append pre (i :: post) s s').1 hs
   obtain ⟨o', sn, ho', ksep, k3, k4⟩ := k2
   rw [ho] at ho'
   obtain rfl := Option.some.inj ho'
   have hpre : ∀ p, p ∈ pre → p < i := fun p hp => by
    have := (List.pairwise_append.1 hpw).2.2 p hp i (by simp); exact this
   have hnb : ∀ p, p ∈ pre → ((befsA [] ops.toList).getD i 0).testBit p = true → False := fun p hp hb => by
    have := before_listedD hok hdown p i o ho hall hb
    have hp2 := ((hrem p).1 (by simp [hp])).2
    rw [this] at hp2; cases hp2
   have hbub : ∃ s1, StepX P tab (fixAt ops i) ops o s s1 ∧ StepsD P tab (fixAt ops) ops prs pre s1 sn := by
    cases pre with
    | nil =>
     simp only [StepsD] at k1
     subst k1
     exact ⟨sn, k3, rfl⟩
    | cons p0 pre0 =>
     have hfi : fixAt ops i = false := by
      cases hf : fixAt ops i with
      | false => rfl
      | true => exact (hnb p0 (by simp) ((fixAt_spec hf (by have := ((hrem p0).1 (by simp)).1; exact this)).1 (hpre p0 (by simp)))).elim
     have hfp : ∀ p, p ∈ p0 :: pre0 → fixAt ops p = false := fun p hp => by
      cases hf : fixAt ops p with
      | false => rfl
      | true => exact (hnb p hp ((fixAt_spec hf hlt).2 (hpre p hp))).elim
     obtain ⟨s1, b1, b2⟩ := bubbleD hT hok ho (p0 :: pre0) s sm sn ⟨a, w, h⟩ (List.pairwise_append.1 hpw).1 hpre (fun p q hp hq => by
      rcases regOkD_pair hok (hpre p hp) hq ho with hb | hc
      ·exact (hnb p hp hb).elim
      ·exact hc) hfp k1 ksep (k3.resolve_right (fun h => by rw [hfi] at h; cases h.1))
     exact ⟨s1, .inl b1, b2⟩
   obtain ⟨s1, b1, b2⟩ := hbub
   have hs1 : StepsD P tab (fixAt ops) ops prs (pre ++ post) s1 s' := (stepsD_append pre post s1 s').2 ⟨sn, b2, k4⟩
   have hset : ∀ k, (listed.setIfInBounds i true).getD k false = if k = i then true else listed.getD k false := by
    intro k
    simp only [Array.getD_eq_getD_getElem?, Array.getElem?_setIfInBounds]
    by_cases e : i = k
    ·subst e; simp [hsz, hlt]
    ·simp [e, Ne.symm e]
   unfold wpOp
   simp only [ho]
   refine stepX_sound hT h b1 (fun a' w' h' => ih (pre ++ post) (listed.setIfInBounds i true) s1 a' w' (by simp at hlen ⊢; omega) ?_ (by simpa using hsz) (fun k => ?_) (fun j oj hoj hlj e he hb => ?_) hs1 h')
   ·rw [List.pairwise_append] at hpw ⊢
    exact ⟨hpw.1, (List.pairwise_cons.1 hpw.2.1).2, fun x hx y hy => hpw.2.2 x hx y (by simp [hy])⟩
   ·rw [hset]
    have hk := hrem k
    simp only [List.mem_append, List.mem_cons] at hk ⊢
    have hnd : ∀ k, k ∈ pre ∨ k ∈ post → k ≠ i := by
     rintro k (hk | hk) e
     ·have := hpre k hk; omega
     ·have := (List.pairwise_cons.1 (List.pairwise_append.1 hpw).2.1).1 k hk; omega
    constructor
    ·intro hk'
     have hne := hnd k hk'
     rw [if_neg hne]
     exact hk.1 (hk'.imp id .inr)
    ·rintro ⟨h1, h2⟩
     by_cases e : k = i
     ·rw [if_pos e] at h2; cases h2
     ·rw [if_neg e] at h2
      rcases hk.2 ⟨h1, h2⟩ with hq | hq | hq
      ·exact .inl hq
      ·exact absurd hq e
      ·exact .inr hq
   ·rw [hset] at hlj ⊢
    split
    ·rfl
    ·by_cases e' : j = i
     ·subst e'
      rw [ho] at hoj
      obtain rfl := Option.some.inj hoj
      exact hall e he hb
     ·rw [if_neg e'] at hlj
      exact hdown j oj hoj hlj e he hb
end Go.Ai
/- Code in which drawn regions write: the regions in Δ are shown by what they name. -/
namespace Go.Ai
open Go.RowKit
variable {P : Program} {tab : Tab}
def notIn (l : Nat) : List Nat → Prop
 | [] => True
 | b :: bs => l ≠ b ∧ notIn l bs
def disj : List Nat → List Nat → Prop
 | [], _ => True
 | l :: ls, bs => notIn l bs ∧ disj ls bs
theorem notIn_spec {l : Nat} : ∀ {bs : List Nat}, notIn l bs → l ∉ bs
 | [], _, h => by cases h
 | b :: bs, h, hm => by
  rcases List.mem_cons.1 hm with e | hm
  ·exact h.1 e
  ·exact notIn_spec h.2 hm
theorem disj_spec : ∀ {as bs : List Nat}, disj as bs → ∀ l, l ∈ as → l ∉ bs
 | [], _, _, l, h => by cases h
 | a :: as, bs, h, l, hl => by
  rcases List.mem_cons.1 hl with rfl | hl
  ·exact notIn_spec h.1
  ·exact disj_spec h.2 l hl
def sepK (s : St) (j : Nat) : List Pr → Prop
 | [] => True
 | p :: ps => (if p.j = j then disj (refsAt s p.a) (refsAt s p.b) else True) ∧ sepK s j ps
theorem sepK_spec {s : St} {j : Nat} : ∀ {prs : List Pr}, sepK s j prs → SepAt prs j s
 | [], _, p, hp, _ => by cases hp
 | q :: prs, h, p, hp, e => by
  rcases List.mem_cons.1 hp with rfl | hp
  ·have h1 := h.1
   rw [if_pos e] at h1
   exact disj_spec h1
  ·exact sepK_spec h.2 p hp e
def regD (P : Program) (tab : Tab) (x : Nat → Bool) (ops : Array Oper) (prs : List Pr) : Nat → List Oper → St → (St → Prop) → Prop
 | _, [], s, k => k s
 | j, o :: os, s, k => sepK s j prs ∧ regK P tab (x j) ops [o] s (fun s' => regD P tab x ops prs (j + 1) os s' k)
theorem regD_steps {ops : Array Oper} {prs : List Pr} : ∀ (l : List Oper) (n : Nat) {s : St} {k : St → Prop}, (∀ j, l[j]? = ops[n + j]?) → regD P tab (fixAt ops) ops prs n l s k → ∃ s', StepsD P tab (fixAt ops) ops prs (List.range' n l.length) s s' ∧ k s'
 | [], _, s, _, _, h => ⟨s, rfl, h⟩
 | o :: l, n, s, k, hl, h => by
  obtain ⟨hs, h⟩ := h
  obtain ⟨s1, h1, h2⟩ := regK_steps h
  obtain ⟨s1', h1, e⟩ := h1
  simp only [StepsL] at e
  subst e
  obtain ⟨s', h3, h4⟩ := regD_steps l (n + 1) (fun j => by have := hl (j + 1); simpa [Nat.add_assoc, Nat.add_comm 1 j] using this) h2
  have h0 : ops[n]? = some o := by simpa using (hl 0).symm
  have h1 : StepX P tab (fixAt ops n) ops o s s1 := by
   rcases h1 with h1 | ⟨hx, hw, hm⟩
   ·exact .inl h1
   ·exact .inr ⟨hx, hw, hm⟩
  exact ⟨s', ⟨o, s1, h0, sepK_spec hs, h1, h3⟩, h4⟩
theorem region_soundD {w0 : World} {M0 : Ms} {F0 : Fz} {ops : Array Oper} {prs : List Pr} (hT : TabOk P tab) (hm : P.follows .mixedOrders = true) {id : Nat} {draw : Bool} (hok : (draw && regOkD ops prs) = true) {Q : Exit → Act → World → Prop} {s s' : St} {a : Act} {w : World}
  (hs : StepsD P tab (fixAt ops) ops prs (List.range ops.size) s s') (h : SimE w0 M0 F0 s a w) (hQ : ∀ a' w', SimE w0 M0 F0 s' a' w' → Q .normal a' w') : (Code.region id ops draw).wp P Q a w := by
 simp only [Bool.and_eq_true] at hok
 obtain ⟨rfl, hok⟩ := hok
 have h' : SimE w0 M0 F0 s a { w with drawn := w.drawn + 1 } := by obtain ⟨F, g, h⟩ := h; exact ⟨F, g, h.drew⟩
 refine wp_region_any hm (any_soundD hT hok hQ ops.size (List.range ops.size) _ s a _ (by simp) List.pairwise_lt_range (by simp) (fun i => ?_) (fun j o ho hl => ?_) hs h')
 ·simp only [List.mem_range]
  constructor
  ·intro hi; exact ⟨hi, by simp [Array.getD_eq_getD_getElem?, Array.getElem?_replicate, hi]⟩
  ·exact fun hi => hi.1
 ·have hj := (Array.getElem?_eq_some_iff.1 ho).1
  simp [Array.getD_eq_getD_getElem?, Array.getElem?_replicate, hj] at hl
def lookD (id : Nat) : List (Nat × List Pr) → Option (List Pr)
 | [] => none
 | (i, p) :: ds => if i = id then some p else lookD id ds
def codeD (P : Program) (tab : Tab) (Δ : List (Nat × List Pr)) : Code → (Exit → St → Prop) → St → Prop
 | .skip, Q, s => Q .normal s
 | .region id ops draw, Q, s => match lookD id Δ with
  | some prs => regD P tab (fixAt ops) ops prs 0 ops.toList s (Q .normal)
  | none => regK P tab (!draw || fixedOk ops) ops ops.toList s (Q .normal)
 | .seq a b, Q, s => codeD P tab Δ a (thenA (codeD P tab Δ b Q) Q) s
 | .cond c a b, Q, s => match opv s c with
  | .one (.c (.v (.bool t))) => (t = true → codeD P tab Δ a Q s) ∧ (t = false → codeD P tab Δ b Q s)
  | _ => False
 | .block id c, Q, s => codeD P tab Δ c (blockA id Q) s
 | .exit id, Q, s => Q (.exit id) s
 | .ret, Q, s => Q .ret s
 | .scope c, Q, s => codeD P tab Δ c (scopeA Q) s
 | .loop c, Q, s => loopA P c Q s
 | _, _, _ => False
def okCodeD (Δ : List (Nat × List Pr)) : Code → Bool
 | .region id ops draw => match lookD id Δ with
  | some prs => draw && regOkD ops prs
  | none => !draw || regOk ops
 | .seq a b => okCodeD Δ a && okCodeD Δ b
 | .cond _ a b => okCodeD Δ a && okCodeD Δ b
 | .block _ c => okCodeD Δ c
 | .scope c => okCodeD Δ c
 | .loop c => okCodeD Δ c
 | _ => true
theorem codeD_sound (Δ : List (Nat × List Pr)) (hT : TabOk P tab) (hm : P.follows .mixedOrders = true) : ∀ (c : Code) (Q : Exit → St → Prop) (s : St), okCodeD Δ c = true → codeD P tab Δ c Q s → AWP P c Q s
 | .skip, Q, s, _, h => fun w0 M0 F0 a w hs => wp_skip ⟨s, h, hs⟩
 | .exit id, Q, s, _, h => fun w0 M0 F0 a w hs => wp_exit ⟨s, h, hs⟩
 | .ret, Q, s, _, h => fun w0 M0 F0 a w hs => wp_ret ⟨s, h, hs⟩
 | .region id ops draw, Q, s, hok, h => fun w0 M0 F0 a w hs => by
  simp only [codeD] at h
  simp only [okCodeD] at hok
  split at h
  ·rename_i prs hpr
   obtain ⟨s', h1, h2⟩ := regD_steps ops.toList 0 (by simp) h
   rw [hpr] at hok
   exact region_soundD hT hm hok (by simpa [List.range_eq_range'] using h1) hs (fun a' w' hs' => ⟨s', h2, hs'⟩)
  ·rename_i hpr
   obtain ⟨s', h1, h2⟩ := regK_steps h
   refine region_sound hT hm ?_ h1 hs (fun a' w' hs' => ⟨s', h2, hs'⟩)
   intro hd
   subst hd
   rw [hpr] at hok
   simpa using hok
 | .seq x y, Q, s, hok, h => fun w0 M0 F0 a w hs => by
  simp only [okCodeD, Bool.and_eq_true] at hok
  refine wp_seq (wp_mono (codeD_sound Δ hT hm x _ s hok.1 h w0 M0 F0 a w hs) ?_)
  rintro e a' w' ⟨s', hq, hs'⟩
  cases e with
  | normal => exact codeD_sound Δ hT hm y Q s' hok.2 hq w0 M0 F0 a' w' hs'
  | _ => exact ⟨s', hq, hs'⟩
 | .cond c x y, Q, s, hok, h => fun w0 M0 F0 a w hs => by
  simp only [okCodeD, Bool.and_eq_true] at hok
  simp only [codeD] at h
  split at h
  ·rename_i t ht
   obtain ⟨F, g, hsim⟩ := hs
   have hc := opv_sound hsim c
   rw [ht] at hc
   have hc := hc.c_v
   cases t with
   | true => exact wp_cond_true hc (codeD_sound Δ hT hm x Q s hok.1 (h.1 rfl) w0 M0 F0 a w ⟨F, g, hsim⟩)
   | false => exact wp_cond_false hc (codeD_sound Δ hT hm y Q s hok.2 (h.2 rfl) w0 M0 F0 a w ⟨F, g, hsim⟩)
  ·exact h.elim
 | .block id c, Q, s, hok, h => fun w0 M0 F0 a w hs => by
  refine wp_block (wp_mono (codeD_sound Δ hT hm c _ s hok h w0 M0 F0 a w hs) ?_)
  rintro e a' w' ⟨s', hq, hs'⟩
  cases e with
  | exit id' =>
   simp only [blockA] at hq
   simp only [Exit.inBlock]
   split
   ·rename_i e; rw [if_pos e] at hq; exact ⟨s', hq, hs'⟩
   ·rename_i e; rw [if_neg e] at hq; exact ⟨s', hq, hs'⟩
  | _ => exact ⟨s', hq, hs'⟩
 | .scope c, Q, s, hok, h => fun w0 M0 F0 a w hs => by
  refine wp_scope_straight (wp_mono (codeD_sound Δ hT hm c _ s hok h w0 M0 F0 a w hs) ?_)
  rintro e a' w' ⟨s', hq, hs'⟩
  cases e with
  | goto l => exact hq.elim
  | _ => exact ⟨s', hq, hs'⟩
 | .loop c, Q, s, _, h => h
 | .rangeFunc .., _, _, _, h => h.elim
 | .label _, _, _, _, h => h.elim
 | .goto _, _, _, _, h => h.elim
 | .refuse _, _, _, _, h => h.elim
theorem sat_of_codeD (Δ : List (Nat × List Pr)) (hT : TabOk P tab) (hm : P.follows .mixedOrders = true) {f : FuncId} {fn : Func} {c : Code} {args : List AV} {r : AV} {rs : List ResultVar} {n : Nat} (hf : P.funcs[f]? = some fn) (hb : fn.body = some c) (hr : fn.results.toList = rs) (hn : fn.ntmps = n) (hname : fn.name ≠ "runtime.NumGoroutine")
  (hok : okCodeD Δ c = true) (hlen : args.length ≤ n) (h : codeD P tab Δ c (retA tab rs r) (mk n (enumA 0 args) [])) : Sat P f args r := by
 subst hr hn
 refine ⟨⟨fn, hf, hname, by rw [hb]; simp⟩, fun w F us hF hrep => ?_⟩
 refine calls_of_wp hf hb (wp_mono (codeD_sound Δ hT hm c _ _ hok h w ⟨[], []⟩ F _ w ⟨F, g0, entry_sim hF hlen hrep⟩) ?_)
 rintro e a' w' ⟨s', hq, F1, g1, hs'⟩
 have main : retS tab fn.results.toList r s' → ∃ v, (results fn a'.tmps).run P w' = .ok v w' ∧ ∃ v' F', Ending.returned v = .returned v' ∧ Below w.heap.size w w' ∧ (∀ b o, F b o → F' b o) ∧ (∀ b o, F' b o → F b o ∨ w.heap.size ≤ b) ∧ (∀ b o, F' b o → b < w'.heap.size) ∧ RepAV w' F' noLk g0 r v' := by
  intro hq
  obtain ⟨v, F', k0, k1, k2, k3, k4⟩ := ret_sound hT hs' rfl hq
  exact ⟨v, k0, v, F', rfl, ⟨hs'.os, hs'.tape, hs'.output, hs'.size, fun k hk => hs'.block k hk (fun h => by cases h)⟩, k1, k2, k3, k4⟩
 cases e with
 | normal => exact ⟨hs'.df, main hq⟩
 | ret => exact ⟨hs'.df, main hq⟩
 | _ => exact hq.elim
theorem loopWD_rule (Δ : List (Nat × List Pr)) {ι : Type} {c : Code} {Q : Exit → St → Prop} {s : St} (S : ι → St) (I : ι → Prop) (μ : ι → Nat) (i0 : ι) (hI : I i0) (h0 : Wk s (S i0)) (hT : TabOk P tab) (hm : P.follows .mixedOrders = true) (hok : okCodeD Δ c = true)
  (round : ∀ i, I i → ∃ s1, Wk (S i) s1 ∧ codeD P tab Δ c (thenA (fun s' => ∃ j, I j ∧ μ j < μ i ∧ Wk s' (S j)) Q) s1) : @LoopK P c s ⟨Q⟩ :=
 loop_rule (ι := {i : ι // I i}) (fun i => S i.1) (fun i => μ i.1) ⟨i0, hI⟩ h0 (fun i => by
  obtain ⟨s1, k1, k2⟩ := round i.1 i.2
  refine AWP.wk k1 (AWP.mono (codeD_sound Δ hT hm c _ _ hok k2) (fun e s hq => ?_))
  cases e with
  | normal => obtain ⟨j, h1, h2, h3⟩ := hq; exact ⟨⟨j, h1⟩, h3, h2⟩
  | _ => exact hq)
theorem loopD_rule (Δ : List (Nat × List Pr)) {ι : Type} {c : Code} {Q : Exit → St → Prop} {s : St} (S : ι → St) (I : ι → Prop) (μ : ι → Nat) (i0 : ι) (hI : I i0) (h0 : Wk s (S i0)) (hT : TabOk P tab) (hm : P.follows .mixedOrders = true) (hok : okCodeD Δ c = true)
  (round : ∀ i, I i → codeD P tab Δ c (thenA (fun s' => ∃ j, I j ∧ μ j < μ i ∧ Wk s' (S j)) Q) (S i)) : @LoopK P c s ⟨Q⟩ :=
 loop_rule (ι := {i : ι // I i}) (fun i => S i.1) (fun i => μ i.1) ⟨i0, hI⟩ h0 (fun i => AWP.mono (codeD_sound Δ hT hm c _ _ hok (round i.1 i.2)) (fun e s hq => by
  cases e with
  | normal => obtain ⟨j, h1, h2, h3⟩ := hq; exact ⟨⟨j, h1⟩, h3, h2⟩
  | _ => exact hq))
def regDX (P : Program) (tab : Tab) (x : Nat → Bool) (ops : Array Oper) (prs : List Pr) (n : Nat) (l : List Oper) (s : St) [κ : Kn] : Prop := regD P tab x ops prs n l s κ.default
def pickD (P : Program) (tab : Tab) (o : Option (List Pr)) (ops : Array Oper) (draw : Bool) (s : St) [κ : Kn] : Prop := match o with
 | some prs => @regDX P tab (fixAt ops) ops prs 0 ops.toList s κ
 | none => @regX P tab (!draw || fixedOk ops) ops ops.toList s κ
section eqs
variable {s : St} {k : St → Prop} {Q : Exit → St → Prop} {κ κ' : Kn} {Δ : List (Nat × List Pr)} {prs : List Pr} {n : Nat}
theorem codeD_skip : codeD P tab Δ .skip Q s = Q .normal s := rfl
theorem codeD_region {id : Nat} {ops : Array Oper} {draw : Bool} : codeD P tab Δ (.region id ops draw) Q s = @pickD P tab (lookD id Δ) ops draw s ⟨Q .normal⟩ := by
 simp only [codeD, pickD]; split <;> rfl
theorem pickD_some {ops : Array Oper} {draw : Bool} : @pickD P tab (some prs) ops draw s κ = @regDX P tab (fixAt ops) ops prs 0 ops.toList s κ := rfl
theorem pickD_text {ops : Array Oper} : @pickD P tab none ops false s κ = @regX P tab true ops ops.toList s κ := rfl
theorem pickD_draw {ops : Array Oper} : @pickD P tab none ops true s κ = @regX P tab (fixedOk ops) ops ops.toList s κ := rfl
theorem lookD_nil {id : Nat} : lookD id [] = none := rfl
theorem lookD_cons {id i : Nat} {p : List Pr} {ds : List (Nat × List Pr)} : lookD id ((i, p) :: ds) = if i = id then some p else lookD id ds := rfl
theorem codeD_seq {a b : Code} : codeD P tab Δ (.seq a b) Q s = codeD P tab Δ a (thenA (codeD P tab Δ b Q) Q) s := rfl
theorem codeD_cond {c : Operand} {a b : Code} : codeD P tab Δ (.cond c a b) Q s = @condK (opv s c) s ⟨fun s => codeD P tab Δ a Q s⟩ ⟨fun s => codeD P tab Δ b Q s⟩ := rfl
theorem codeD_block {id : Nat} {c : Code} : codeD P tab Δ (.block id c) Q s = codeD P tab Δ c (blockA id Q) s := rfl
theorem codeD_exit {id : Nat} : codeD P tab Δ (.exit id) Q s = Q (.exit id) s := rfl
theorem codeD_ret : codeD P tab Δ .ret Q s = Q .ret s := rfl
theorem codeD_scope {c : Code} : codeD P tab Δ (.scope c) Q s = codeD P tab Δ c (scopeA Q) s := rfl
theorem codeD_loop {c : Code} : codeD P tab Δ (.loop c) Q s = @LoopK P c s ⟨Q⟩ := rfl
theorem regDX_nil {bx : Nat → Bool} {ops : Array Oper} : @regDX P tab bx ops prs n [] s κ = κ.default s := rfl
theorem regDX_cons {bx : Nat → Bool} {ops : Array Oper} {o : Oper} {os : List Oper} : @regDX P tab bx ops prs n (o :: os) s κ = (sepK s n prs ∧ @regX P tab (bx n) ops [o] s ⟨fun s' => @regDX P tab bx ops prs (n + 1) os s' κ⟩) := rfl
theorem sepK_nil : sepK s n [] = True := rfl
theorem sepK_cons {p : Pr} : sepK s n (p :: prs) = ((if p.j = n then disj (refsAt s p.a) (refsAt s p.b) else True) ∧ sepK s n prs) := rfl
theorem refsAt_nil : refsAt s [] = [] := rfl
theorem refsAt_cons {t : Tmp} {ts : List Tmp} : refsAt s (t :: ts) = (s.sl t).refs ++ refsAt s ts := rfl
theorem refs_own {l m : Nat} : (AV.one (.own l m)).refs = [l] := rfl
theorem refs_ptr {l m : Nat} : (AV.one (.ptr l m)).refs = [l] := rfl
theorem refs_c {x : C} : (AV.one (.c x)).refs = [] := rfl
theorem refs_nil : (AV.one .nil).refs = [] := rfl
theorem refs_ip {cs : List C} : (AV.one (.ip cs)).refs = [] := rfl
theorem refs_ep {l m i o : Nat} : (AV.one (.ep l m i o)).refs = [l] := rfl
theorem refs_agg {as : List AC} : (AV.agg as).refs = as.flatMap AC.refs := rfl
theorem refs_tup {vs : List AV} : (AV.tup vs).refs = [] := rfl
theorem refs_any : AV.any.refs = [] := rfl
theorem crefs_c {x : C} : (AC.c x).refs = [] := rfl
theorem crefs_own {l m : Nat} : (AC.own l m).refs = [l] := rfl
theorem disj_nil {bs : List Nat} : disj [] bs = True := rfl
theorem disj_cons {l : Nat} {ls bs : List Nat} : disj (l :: ls) bs = (notIn l bs ∧ disj ls bs) := rfl
theorem notIn_nil {l : Nat} : notIn l [] = True := rfl
theorem notIn_cons {l b : Nat} {bs : List Nat} : notIn l (b :: bs) = (l ≠ b ∧ notIn l bs) := rfl
end eqs
attribute [go_sem ↓] codeD_skip codeD_region codeD_seq codeD_cond codeD_block codeD_exit codeD_ret codeD_scope codeD_loop
attribute [go_sem] pickD_some pickD_text pickD_draw lookD_nil lookD_cons regDX_nil regDX_cons sepK_nil sepK_cons refsAt_nil refsAt_cons refs_own refs_ptr refs_c refs_nil refs_ip refs_ep refs_agg refs_tup refs_any crefs_c crefs_own disj_nil disj_cons notIn_nil notIn_cons List.flatMap_cons List.flatMap_nil
end Go.Ai
/- Contracts with an owned result, or a row that is given and taken, of code in which drawn regions write. -/
namespace Go.Ai
open Go.RowKit
variable {P : Program} {tab : Tab}
theorem satF_of_codeD (Δ : List (Nat × List Pr)) (ds : List AV) {r : AV} (hds : joinR ds = r) (htup : ∀ vs, r = .tup vs → ds = vs) (hT : TabOk P tab) (hm : P.follows .mixedOrders = true) {f : FuncId} {fn : Func} {c : Code} {args : List AV} {rs : List ResultVar} {n : Nat} (hf : P.funcs[f]? = some fn) (hb : fn.body = some c) (hr : fn.results.toList = rs) (hn : fn.ntmps = n) (hname : fn.name ≠ "runtime.NumGoroutine")
  (hok : okCodeD Δ c = true) (hlen : args.length ≤ n) (h : codeD P tab Δ c (retFA tab rs ds) (mk n (enumA 0 args) [])) : SatF P f args r := by
 subst hr hn
 refine ⟨⟨fn, hf, hname, by rw [hb]; simp⟩, fun w F us hF hrep => ?_⟩
 refine calls_of_wp hf hb (wp_mono (codeD_sound Δ hT hm c _ _ hok h w ⟨[], []⟩ F _ w ⟨F, g0, entry_sim hF hlen hrep⟩) ?_)
 rintro e a' w' ⟨s', hq, F1, g1, hs'⟩
 have main : retFS tab fn.results.toList ds s' → ∃ v, (results fn a'.tmps).run P w' = .ok v w' ∧ ∃ v' S, Ending.returned v = .returned v' ∧ Below w.heap.size w w' ∧ OwnR w' r v' S ∧ S.Nodup ∧ ∀ b, b ∈ S → w.heap.size ≤ b ∧ b < w'.heap.size := by
  intro hq
  unfold retFS at hq
  split at hq
  case h_2 => exact hq.elim
  rename_i p vs ho
  obtain ⟨hp, hret⟩ := hq
  obtain ⟨us', hrun, hargs⟩ := results_run hT hs' rfl ho hp
  obtain ⟨Z, hZ⟩ : ∃ Z : List Nat, ∀ b, b ∈ Z ↔ w.heap.size ≤ b ∧ b < w'.heap.size := ⟨(List.range w'.heap.size).filter (fun b => decide (w.heap.size ≤ b)), fun b => by simp [and_comm]⟩
  have hlast : Last w' F1 Z s'.lb [] vs us' := ⟨g1, hs'.bare, by simp, fun l B hl b hb => ⟨by simp, (hZ b).2 ⟨(hs'.nw l B hl b hb).1.resolve_right (fun hq => by cases hq), (hs'.nw l B hl b hb).2⟩⟩, by simp, hargs⟩
  obtain ⟨lb', S, _, hL, hown⟩ := retVs_sound (fun _ _ h => h) hret hlast
  rw [List.nil_append] at hL
  obtain ⟨_, _, k1, _, k2, _⟩ := hL.ex
  exact ⟨_, hrun, _, S, rfl, ⟨hs'.os, hs'.tape, hs'.output, hs'.size, fun k hk => hs'.block k hk (fun h => by cases h)⟩, ownR_of_Rs hds htup hown, k1, fun b hb => (hZ b).1 (k2 b hb)⟩
 cases e with
 | normal => exact ⟨hs'.df, main hq⟩
 | ret => exact ⟨hs'.df, main hq⟩
 | _ => exact hq.elim
theorem satA_of_codeD (Δ : List (Nat × List Pr)) (hT : TabOk P tab) (hm : P.follows .mixedOrders = true) {f : FuncId} {fn : Func} {c : Code} {pre post : List AV} {e : TypeId} {sz : Nat} {rows rows' : List (List AC)} {rest : List AV} {rs : List ResultVar} {n : Nat} (hf : P.funcs[f]? = some fn) (hb : fn.body = some c) (hr : fn.results.toList = rs) (hn : fn.ntmps = n) (hname : fn.name ≠ "runtime.NumGoroutine")
  (hok : okCodeD Δ c = true) (hlen : pre.length + post.length + 1 ≤ n) (hsz : 0 < sz) (hpl : rest.all plainR1 = true) (hcl : clR rows) (hcl' : clR rows') (hnd : noD rows = true) (hnd' : noD rows' = true)
  (h : codeD P tab Δ c (retAA tab rs e sz rows' rest) (mk n (enumA 0 (pre ++ .one (.own 9001 rows.length) :: post)) [(9001, .arr e sz rows false)])) : SatA P f pre post e sz rows rows' rest := by
 subst hr hn
 refine ⟨⟨fn, hf, hname, by rw [hb]; simp⟩, hsz, hpl, hcl, hcl', hnd, hnd', fun w F us1 v0 us2 S hF h1 h2 hrow hS hSf => ?_⟩
 have one : ∀ l B, lookB [(9001, LB.arr e sz rows false)] l = some B → l = 9001 ∧ B = .arr e sz rows false := by
  intro l B hl
  simp only [lookB] at hl
  split at hl
  ·exact ⟨‹_›, (Option.some.inj hl).symm⟩
  ·cases hl
 have K0 : ∀ {lb : Lk} {g : Gh}, Keeps noLk g0 lb g := fun {lb} {g} => ⟨fun l B hl => by simp [noLk] at hl⟩
 have hone : v0.oneCell' = true := by
  obtain ⟨_, _, xs, _, hown, _⟩ := hrow
  rcases hown.2 with ⟨e1, _⟩ | ⟨_, _, _, e1, _⟩ <;> (have e1 : v0 = _ := e1; rw [e1]; rfl)
 have hhd : RepAV w F (lookB [(9001, LB.arr e sz rows false)]) (gA v0 S) (.one (.own 9001 rows.length)) v0 := by
  simp only [RepAV, RepAC]
  exact ⟨hone, _, by simp [lookB]; rfl, by simp [okOwnB, gA]⟩
 have hA : RepAVs w F (lookB [(9001, LB.arr e sz rows false)]) (gA v0 S) (pre ++ .one (.own 9001 rows.length) :: post) (us1 ++ v0 :: us2) :=
  RepAVs.appendL (RepAVs.mono (Stays.refl _ _) K0 _ _ h1) ⟨v0, us2, rfl, hhd, RepAVs.mono (Stays.refl _ _) K0 _ _ h2⟩
 have hal := RepAVs.len _ _ hA
 have hds : ∀ b, b ∈ blkOf v0 → b ∈ S := by
  obtain ⟨_, _, _, _, _, _, hd⟩ := hrow
  intro b hb
  have : S = blkOf v0 ++ _ := hd
  rw [this]; simp [hb]
 have hsim : Sim w ⟨S, []⟩ F F (gA v0 S) (mk fn.ntmps (enumA 0 (pre ++ .one (.own 9001 rows.length) :: post)) [(9001, .arr e sz rows false)] []) { tmps := (us1 ++ v0 :: us2).toArray ++ Array.replicate (fn.ntmps - (us1 ++ v0 :: us2).toArray.size) undef, defers := [] } w := {
  sz := by
   simp only [mk_n, Array.size_append, List.size_toArray, Array.size_replicate]
   rw [List.length_append, List.length_cons] at hal
   omega
  df := rfl
  sl := fun i => by
   have e : (us1 ++ v0 :: us2).toArray ++ Array.replicate (fn.ntmps - (us1 ++ v0 :: us2).toArray.size) undef = ((us1 ++ v0 :: us2) ++ List.replicate (fn.ntmps - (us1 ++ v0 :: us2).length) undef).toArray := by simp
   simp only [mk_sl, mk_lb, e, getD_toArray]
   rcases enumA_rep (pre ++ .one (.own 9001 rows.length) :: post) (us1 ++ v0 :: us2) 0 i (List.replicate (fn.ntmps - (us1 ++ v0 :: us2).length) undef) hA with h | ⟨_, _, h⟩
   ·rw [h]; simp only [RepAV]
   ·exact h
  gh := rfl
  lb := fun l B hl => by
   obtain ⟨rfl, rfl⟩ := one l B hl
   exact clR_row (g := gA v0 S) (l := 0) hcl rfl rfl hrow
  so := fun l B hl => by
   obtain ⟨rfl, rfl⟩ := one l B hl
   simp only [SoftOk]
   exact ⟨fun b hb o _ => (hSf b (hds b hb)).2 o, fun _ _ b hb o => (hSf b hb).2 o⟩
  nd := fun l B hl => hS
  dj := fun l l' B B' hne hl hl' => by
   obtain ⟨rfl, _⟩ := one l B hl
   obtain ⟨rfl, _⟩ := one l' B' hl'
   exact absurd rfl hne
  nw := fun l B hl b hb => ⟨.inr hb, (hSf b hb).1⟩
  f0 := fun _ _ h => h
  f1 := fun _ _ h => .inl h
  f2 := hF.lt
  tb := hF.tb.start (fun b hb => (hSf b hb).2)
  os := rfl
  tape := rfl
  output := rfl
  size := Nat.le_refl _
  block := fun _ _ _ => rfl }
 refine calls_of_wp hf hb (wp_mono (codeD_sound Δ hT hm c _ _ hok h w ⟨S, []⟩ F _ w ⟨F, gA v0 S, hsim⟩) ?_)
 rintro ex a' w' ⟨s', hq, F1, g2, hs'⟩
 have main : retAS tab fn.results.toList e sz rows' rest s' → ∃ v, (results fn a'.tmps).run P w' = .ok v w' ∧ ∃ v1 vs F' S', Ending.returned v = .returned (accV v1 vs) ∧ RepAVs w' F' noLk g0 rest vs ∧ RepLB w' F' noLk (gA v1 S') 0 (.arr e sz rows' false) ∧ S'.Nodup ∧
   (∀ b, b ∈ S' → (b ∈ S ∨ w.heap.size ≤ b) ∧ b < w'.heap.size ∧ ∀ o, ¬ F' b o) ∧ (∀ b o, F b o → F' b o) ∧ (∀ b o, F' b o → F b o ∨ w.heap.size ≤ b ∨ b ∈ S) ∧ (∀ b o, F' b o → b < w'.heap.size) ∧
   w'.os = w.os ∧ w'.tape = w.tape ∧ w'.output = w.output ∧ w.heap.size ≤ w'.heap.size ∧ ∀ k, k < w.heap.size → k ∉ S → w'.heap[k]? = w.heap[k]? := by
  intro hq
  unfold retAS at hq
  have jn : ∀ (u : Value) (us : List Value), joinU (u :: us) = accV u us := fun u us => by cases us <;> rfl
  split at hq
  ·rename_i p l k vs ho
   obtain ⟨hp, rfl, hk, hl⟩ := hq
   obtain ⟨us, hrun, hargs⟩ := results_run hT hs' rfl ho hp
   simp only [RepAVs, RepAV] at hargs
   obtain ⟨u, us', rfl, hu, hrest⟩ := hargs
   simp only [RepAC] at hu
   obtain ⟨_, B, hB, hq⟩ := hu
   rw [hl] at hB
   obtain rfl := Option.some.inj hB
   have hux : u = g2.hd l := hq.2 hk
   have hun : ∀ b, b ∈ g2.ds l → ∀ o, ¬ F1 b o := (hs'.so l _ hl).2 rfl hnd'
   refine ⟨_, hrun, u, us', F1, g2.ds l, by rw [jn], plainRs_rep hpl hrest, clR_row (g := g2) (l := l) hcl' hux rfl (hs'.lb l _ hl), hs'.nd l _ hl, fun b hb => ⟨((hs'.nw l _ hl b hb).1).symm, (hs'.nw l _ hl b hb).2, hun b hb⟩, hs'.f0, hs'.f1, hs'.f2, hs'.os, hs'.tape, hs'.output, hs'.size, fun k hk hk' => hs'.block k hk hk'⟩
  ·rename_i p vs ho
   obtain ⟨hp, rfl, rfl⟩ := hq
   obtain ⟨us, hrun, hargs⟩ := results_run hT hs' rfl ho hp
   simp only [RepAVs, RepAV] at hargs
   obtain ⟨u, us', rfl, hu, hrest⟩ := hargs
   simp only [RepAC] at hu
   subst hu
   exact ⟨_, hrun, _, us', F1, [], by rw [jn], plainRs_rep hpl hrest, ⟨hsz, by simp, [], [], ⟨by simp, .inl ⟨rfl, rfl⟩⟩, ⟨rfl, rfl⟩, rfl⟩, by simp, (fun b hb => by cases hb), hs'.f0, hs'.f1, hs'.f2, hs'.os, hs'.tape, hs'.output, hs'.size, fun k hk hk' => hs'.block k hk hk'⟩
  ·exact hq.elim
 cases ex with
 | normal => exact ⟨hs'.df, main hq⟩
 | ret => exact ⟨hs'.df, main hq⟩
 | _ => exact hq.elim
attribute [go_sem] othersK
end Go.Ai
/- Contracts of functions that are lent a block, and of functions that make one, from their code. -/
namespace Go.Ai
open Go.RowKit
variable {P : Program} {tab : Tab}
def a0Of : LB → AV
 | .var _ => .one (.ptr 9001 0)
 | .arr _ _ rows _ => .one (.own 9001 rows.length)
 | _ => .any
def retPS (tab : Tab) (rs : List ResultVar) (r : AV) (B' : LB) (s : St) : Prop :=
 match resVs tab s rs with
 | some (p, vs) => p ∧ okAVs s.lb vs ∧ joinR (vAVs s.lb vs) = r ∧ 9001 ∉ vs.flatMap AV.owns ∧ s.lb 9001 = some B' ∧ s.gh = [a0Of B']
 | none => False
def retPA (tab : Tab) (rs : List ResultVar) (r : AV) (B' : LB) : Exit → St → Prop
 | .normal, s => retPS tab rs r B' s
 | .ret, s => retPS tab rs r B' s
 | _, _ => False
def retNS (tab : Tab) (rs : List ResultVar) (cells : List AC) (s : St) : Prop :=
 match resVs tab s rs with
 | some (p, [.one (.ptr l off)]) => p ∧ off = 0 ∧ s.lb l = some (.var cells)
 | _ => False
def retNA (tab : Tab) (rs : List ResultVar) (cells : List AC) : Exit → St → Prop
 | .normal, s => retNS tab rs cells s
 | .ret, s => retNS tab rs cells s
 | _, _ => False
theorem retPA_normal {rs : List ResultVar} {r : AV} {B' : LB} {s : St} : retPA tab rs r B' .normal s = retPS tab rs r B' s := rfl
theorem retPA_ret {rs : List ResultVar} {r : AV} {B' : LB} {s : St} : retPA tab rs r B' .ret s = retPS tab rs r B' s := rfl
theorem retNA_normal {rs : List ResultVar} {cells : List AC} {s : St} : retNA tab rs cells .normal s = retNS tab rs cells s := rfl
theorem retNA_ret {rs : List ResultVar} {cells : List AC} {s : St} : retNA tab rs cells .ret s = retNS tab rs cells s := rfl
attribute [go_sem] retPA_normal retPA_ret retNA_normal retNA_ret retPS retNS loanL a0Of
theorem frzs_gh : ∀ (ls : List Nat) (s : St), (s.frzs ls).gh = s.gh
 | [], _ => rfl
 | l :: ls, s => frzs_gh ls (s.frz l)
theorem satP_of_awp (hT : TabOk P tab) {f : FuncId} {fn : Func} {c : Code} {pre post : List AV} {B B' : LB} {r : AV} {rs : List ResultVar} {n : Nat} (hf : P.funcs[f]? = some fn) (hb : fn.body = some c) (hr : fn.results.toList = rs) (hn : fn.ntmps = n) (hname : fn.name ≠ "runtime.NumGoroutine")
  (hlen : pre.length + post.length + 1 ≤ n) (hB : okL B) (hB' : okL B') (hlike : likeL B B')
  (h : AWP P c (retPA tab rs r B') (mk n (enumA 0 (pre ++ a0Of B :: post)) [(9001, B)] [a0Of B])) : SatP P f pre post B B' r := by
 subst hr hn
 refine ⟨⟨fn, hf, hname, by rw [hb]; simp⟩, hB, hB', hlike, fun w F us1 b0 v0 us2 S hF h1 h2 hrow hS hSf => ?_⟩
 have one : ∀ l B1, lookB [(9001, B)] l = some B1 → l = 9001 ∧ B1 = B := by
  intro l B1 hl
  simp only [lookB] at hl
  split at hl
  ·exact ⟨‹_›, (Option.some.inj hl).symm⟩
  ·cases hl
 have K0 : ∀ {lb : Lk} {g : Gh}, Keeps noLk g0 lb g := fun {lb} {g} => ⟨fun l B hl => by simp [noLk] at hl⟩
 have hhd : RepAV w F (lookB [(9001, B)]) (gV b0 v0 S) (a0Of B) (loanV B b0 v0) := by
  cases B with
  | var cells =>
   simp only [a0Of, RepAV, RepAC, loanV]
   exact ⟨rfl, _, by simp [lookB]; rfl, by simp [okPtrB, gV]⟩
  | arr e sz rows fz =>
   have hone : v0.oneCell' = true := by
    obtain ⟨_, _, xs, _, hown, _⟩ := hrow
    rcases hown.2 with ⟨e1, _⟩ | ⟨_, _, _, e1, _⟩ <;> (have e1 : v0 = _ := e1; rw [e1]; rfl)
   simp only [a0Of, RepAV, RepAC, loanV]
   exact ⟨hone, _, by simp [lookB]; rfl, by simp [okOwnB, gV]⟩
  | tok x => exact hB.elim
  | dead => exact hB.elim
 have hA : RepAVs w F (lookB [(9001, B)]) (gV b0 v0 S) (pre ++ a0Of B :: post) (us1 ++ loanV B b0 v0 :: us2) :=
  RepAVs.appendL (RepAVs.mono (Stays.refl _ _) K0 _ _ h1) ⟨loanV B b0 v0, us2, rfl, hhd, RepAVs.mono (Stays.refl _ _) K0 _ _ h2⟩
 have hal := RepAVs.len _ _ hA
 generalize hu0 : loanV B b0 v0 = u0 at hhd hA hal
 have hrow0 : RepLB w F (lookB [(9001, B)]) (gV b0 v0 S) 9001 B := clL_rep (g := gV b0 v0 S) (l := 0) hB rfl rfl rfl hrow
 have hsim : Sim w ⟨S, [u0]⟩ F F (gV b0 v0 S) (mk fn.ntmps (enumA 0 (pre ++ a0Of B :: post)) [(9001, B)] [a0Of B]) { tmps := (us1 ++ u0 :: us2).toArray ++ Array.replicate (fn.ntmps - (us1 ++ u0 :: us2).toArray.size) undef, defers := [] } w := {
  sz := by
   simp only [mk_n, Array.size_append, List.size_toArray, Array.size_replicate]
   rw [List.length_append, List.length_cons] at hal
   omega
  df := rfl
  sl := fun i => by
   have e : (us1 ++ u0 :: us2).toArray ++ Array.replicate (fn.ntmps - (us1 ++ u0 :: us2).toArray.size) undef = ((us1 ++ u0 :: us2) ++ List.replicate (fn.ntmps - (us1 ++ u0 :: us2).length) undef).toArray := by simp
   simp only [mk_sl, mk_lb, e, getD_toArray]
   rcases enumA_rep (pre ++ a0Of B :: post) (us1 ++ u0 :: us2) 0 i (List.replicate (fn.ntmps - (us1 ++ u0 :: us2).length) undef) hA with h | ⟨_, _, h⟩
   ·rw [h]; simp only [RepAV]
   ·exact h
  gh := ⟨u0, [], rfl, hhd, rfl⟩
  lb := fun l B1 hl => by
   obtain ⟨rfl, rfl⟩ := one l B1 hl
   exact hrow0
  so := fun l B1 hl => by
   obtain ⟨rfl, rfl⟩ := one l B1 hl
   exact okL_soft hrow0 (fun b hb o => (hSf b hb).2 o)
  nd := fun l B1 hl => hS
  dj := fun l l' B1 B2 hne hl hl' => by
   obtain ⟨rfl, _⟩ := one l B1 hl
   obtain ⟨rfl, _⟩ := one l' B2 hl'
   exact absurd rfl hne
  nw := fun l B1 hl b hb => ⟨.inr hb, (hSf b hb).1⟩
  f0 := fun _ _ h => h
  f1 := fun _ _ h => .inl h
  f2 := hF.lt
  tb := hF.tb.start (fun b hb => (hSf b hb).2)
  os := rfl
  tape := rfl
  output := rfl
  size := Nat.le_refl _
  block := fun _ _ _ => rfl }
 refine calls_of_wp hf hb (wp_mono (h w ⟨S, [u0]⟩ F _ w ⟨F, gV b0 v0 S, hsim⟩) ?_)
 rintro ex a' w' ⟨s', hq, F1, g2, hs'⟩
 have main : retPS tab fn.results.toList r B' s' → ∃ v, (results fn a'.tmps).run P w' = .ok v w' ∧ ∃ v1 F' S', Ending.returned v = .returned v1 ∧ RepAV w' F' noLk g0 r v1 ∧ RepLB w' F' noLk (gV b0 v0 S') 0 B' ∧ S'.Nodup ∧
   (∀ b, b ∈ S' → (b ∈ S ∨ w.heap.size ≤ b) ∧ b < w'.heap.size ∧ ∀ o, ¬ F' b o) ∧ (∀ b o, F b o → F' b o) ∧ (∀ b o, F' b o → F b o ∨ w.heap.size ≤ b ∨ b ∈ S) ∧ (∀ b o, F' b o → b < w'.heap.size) ∧
   w'.os = w.os ∧ w'.tape = w.tape ∧ w'.output = w.output ∧ w.heap.size ≤ w'.heap.size ∧ ∀ k, k < w.heap.size → k ∉ S → w'.heap[k]? = w.heap[k]? := by
  intro hq
  unfold retPS at hq
  split at hq
  case h_2 => exact hq.elim
  rename_i p vs ho
  obtain ⟨hp, hv1, hjr, hno, hl9, hghe⟩ := hq
  obtain ⟨us, hrun, hargs⟩ := results_run hT hs' rfl ho hp
  obtain ⟨F2, hs2, u1, p1⟩ := hs'.freezes (vs.flatMap AV.owns)
  have hargs1 := RepAVs.mono (w := w') (w' := w') ⟨u1, fun _ _ _ => rfl⟩ (Keeps.refl s'.lb g2) _ _ hargs
  have hv := viewAVs_sound' hs' u1 _ _ _ (viewAVs_ok hv1) hargs1 (fun l hl => p1 l hl)
  have hl2 : (s'.frzs (vs.flatMap AV.owns)).lb 9001 = some B' := by rw [frzs_other _ _ _ hno]; exact hl9
  have hrl := hs2.lb 9001 B' hl2
  have hun := okL_un hB' hrl (hs2.so 9001 B' hl2)
  have hgh := hs2.gh
  rw [frzs_gh, hghe] at hgh
  simp only [RepAVs] at hgh
  obtain ⟨u, us', he, hgu, _⟩ := hgh
  obtain ⟨rfl, _⟩ := List.cons.inj he
  have hrow' : RepLB w' F2 noLk (gV b0 v0 (g2.ds 9001)) 0 B' := by
   cases B with
   | var cells =>
    cases B' <;> simp only [likeL] at hlike
    simp only [a0Of, RepAV, RepAC] at hgu
    obtain ⟨_, B1, hB1, hq⟩ := hgu
    rw [hl2] at hB1
    obtain rfl := Option.some.inj hB1
    simp only [okPtrB] at hq
    rw [← hu0] at hq
    simp only [loanV, Value.pointer.injEq, Option.some.injEq, Addr.mk.injEq, and_true] at hq
    obtain ⟨cs, e, k1, k2, k3⟩ := hrl
    exact ⟨cs, e, by simp only [gV]; rw [hq]; exact k1, clA_acs hB' k2, by simp only [gV]; rw [hq]; exact k3⟩
   | arr e sz rows fz =>
    cases B' <;> simp only [likeL] at hlike
    obtain ⟨rfl, rfl, hle, rfl⟩ := hlike
    simp only [a0Of, RepAV, RepAC] at hgu
    obtain ⟨_, B1, hB1, hq⟩ := hgu
    rw [hl2] at hB1
    obtain rfl := Option.some.inj hB1
    have hq := hq.2 rfl
    rw [← hu0] at hq
    exact clR_row (g := g2) (l := 9001) hB'.2.2.1 (by simp only [gV]; exact hq) (by simp only [gV]) hrl
   | tok x => exact hB.elim
   | dead => exact hB.elim
  refine ⟨_, hrun, _, F2, g2.ds 9001, rfl, ?_, hrow', hs2.nd 9001 B' hl2, fun b hb => ⟨((hs2.nw 9001 B' hl2 b hb).1).symm, (hs2.nw 9001 B' hl2 b hb).2, hun b hb⟩, hs2.f0, hs2.f1, hs2.f2, hs2.os, hs2.tape, hs2.output, hs2.size, fun k hk hk' => hs2.block k hk hk'⟩
  subst hjr
  clear hrun
  generalize hds : vAVs s'.lb vs = ds at hv ⊢
  cases ds with
  | nil =>
   simp only [RepAVs] at hv
   subst hv
   simp only [joinR, RepAV, RepAVs]
   exact ⟨[], rfl, rfl⟩
  | cons d ds =>
   simp only [RepAVs] at hv
   obtain ⟨u, us', rfl, k1, k2⟩ := hv
   cases ds with
   | nil => simp only [RepAVs] at k2; subst k2; exact k1
   | cons d' ds =>
    simp only [RepAVs] at k2
    obtain ⟨u', us', rfl, k3, k4⟩ := k2
    simp only [joinR, RepAV, RepAVs]
    exact ⟨u :: u' :: us', rfl, u, u' :: us', rfl, k1, u', us', rfl, k3, k4⟩
 cases ex with
 | normal => exact ⟨hs'.df, main hq⟩
 | ret => exact ⟨hs'.df, main hq⟩
 | _ => exact hq.elim
theorem satP_of_code (hT : TabOk P tab) (hm : P.follows .mixedOrders = true) {f : FuncId} {fn : Func} {c : Code} {pre post : List AV} {B B' : LB} {r : AV} {rs : List ResultVar} {n : Nat} (hf : P.funcs[f]? = some fn) (hb : fn.body = some c) (hr : fn.results.toList = rs) (hn : fn.ntmps = n) (hname : fn.name ≠ "runtime.NumGoroutine")
  (hok : okCode c = true) (hlen : pre.length + post.length + 1 ≤ n) (hB : okL B) (hB' : okL B') (hlike : likeL B B')
  (h : codeK P tab c (retPA tab rs r B') (mk n (enumA 0 (pre ++ a0Of B :: post)) [(9001, B)] [a0Of B])) : SatP P f pre post B B' r :=
 satP_of_awp hT hf hb hr hn hname hlen hB hB' hlike (codeK_sound hT hm c _ _ hok h)
theorem satP_of_codeD (Δ : List (Nat × List Pr)) (hT : TabOk P tab) (hm : P.follows .mixedOrders = true) {f : FuncId} {fn : Func} {c : Code} {pre post : List AV} {B B' : LB} {r : AV} {rs : List ResultVar} {n : Nat} (hf : P.funcs[f]? = some fn) (hb : fn.body = some c) (hr : fn.results.toList = rs) (hn : fn.ntmps = n) (hname : fn.name ≠ "runtime.NumGoroutine")
  (hok : okCodeD Δ c = true) (hlen : pre.length + post.length + 1 ≤ n) (hB : okL B) (hB' : okL B') (hlike : likeL B B')
  (h : codeD P tab Δ c (retPA tab rs r B') (mk n (enumA 0 (pre ++ a0Of B :: post)) [(9001, B)] [a0Of B])) : SatP P f pre post B B' r :=
 satP_of_awp hT hf hb hr hn hname hlen hB hB' hlike (codeD_sound Δ hT hm c _ _ hok h)
theorem satN_of_code (hT : TabOk P tab) (hm : P.follows .mixedOrders = true) {f : FuncId} {fn : Func} {c : Code} {args : List AV} {cells : List AC} {rs : List ResultVar} {n : Nat} (hf : P.funcs[f]? = some fn) (hb : fn.body = some c) (hr : fn.results.toList = rs) (hn : fn.ntmps = n) (hname : fn.name ≠ "runtime.NumGoroutine")
  (hok : okCode c = true) (hlen : args.length ≤ n) (hcl : ∀ a, a ∈ cells → clA a = true) (h : codeK P tab c (retNA tab rs cells) (mk n (enumA 0 args) [])) : SatN P f args cells := by
 subst hr hn
 refine ⟨⟨fn, hf, hname, by rw [hb]; simp⟩, hcl, fun w F us hF hrep => ?_⟩
 refine calls_of_wp hf hb (wp_mono (codeK_sound hT hm c _ _ hok h w ⟨[], []⟩ F _ w ⟨F, g0, entry_sim hF hlen hrep⟩) ?_)
 rintro e a' w' ⟨s', hq, F1, g1, hs'⟩
 have main : retNS tab fn.results.toList cells s' → ∃ v, (results fn a'.tmps).run P w' = .ok v w' ∧ ∃ b F', Ending.returned v = .returned (.pointer (some ⟨b, 0, none⟩)) ∧ RepLB w' F' noLk (gV b undef [b]) 0 (.var cells) ∧ Below w.heap.size w w' ∧ w.heap.size ≤ b ∧ b < w'.heap.size ∧ (∀ o, ¬ F' b o) ∧
   (∀ b o, F b o → F' b o) ∧ (∀ b o, F' b o → F b o ∨ w.heap.size ≤ b) ∧ (∀ b o, F' b o → b < w'.heap.size) := by
  intro hq
  unfold retNS at hq
  split at hq
  case h_2 => exact hq.elim
  rename_i p l off ho
  obtain ⟨hp, rfl, hl⟩ := hq
  obtain ⟨us', hrun, hargs⟩ := results_run hT hs' rfl ho hp
  simp only [RepAVs, RepAV, RepAC] at hargs
  obtain ⟨u, _, rfl, ⟨_, B, hB, hq⟩, rfl⟩ := hargs
  rw [hl] at hB
  obtain rfl := Option.some.inj hB
  simp only [okPtrB] at hq
  subst hq
  obtain ⟨cs, e, k1, k2, k3⟩ := hs'.lb l _ hl
  have hso := hs'.so l _ hl
  simp only [SoftOk] at hso
  have hnw := hs'.nw l _ hl (g1.bl l) (by rw [k3]; simp)
  exact ⟨_, hrun, g1.bl l, F1, rfl, ⟨cs, e, k1, clA_acs hcl k2, rfl⟩, ⟨hs'.os, hs'.tape, hs'.output, hs'.size, fun k hk => hs'.block k hk (fun h => by cases h)⟩, hnw.1.resolve_right (fun hq => by cases hq), hnw.2, hso, hs'.f0, fun b o hb => (hs'.f1 b o hb).imp id (fun hq => hq.elim id (fun hq => by cases hq)), hs'.f2⟩
 cases e with
 | normal => exact ⟨hs'.df, main hq⟩
 | ret => exact ⟨hs'.df, main hq⟩
 | _ => exact hq.elim
end Go.Ai
/- Contracts over blocks, from the code. -/
namespace Go.Ai
open Go.RowKit
variable {P : Program} {tab : Tab}
def nums (k : Nat) : Nat → List Nat
 | 0 => []
 | m + 1 => k :: nums (k + 1) m
theorem nums_get : ∀ (m k j : Nat), j < m → (nums k m)[j]? = some (k + j)
 | m + 1, k, 0, _ => by simp [nums]
 | m + 1, k, j + 1, h => by
  simp only [nums, List.getElem?_cons_succ]
  rw [nums_get m (k + 1) j (by omega)]
  congr 1; omega
theorem nums_len : ∀ (m k : Nat), (nums k m).length = m
 | 0, _ => rfl
 | m + 1, k => by simp [nums, nums_len m]
theorem nums_ge : ∀ (m k l : Nat), l ∈ nums k m → k ≤ l
 | m + 1, k, l, h => by
  simp only [nums, List.mem_cons] at h
  rcases h with rfl | h
  ·exact Nat.le_refl _
  ·have := nums_ge m (k + 1) l h; omega
theorem nums_nodup : ∀ (m k : Nat), (nums k m).Nodup
 | 0, _ => List.nodup_nil
 | m + 1, k => List.nodup_cons.2 ⟨fun h => by have := nums_ge m (k + 1) k h; omega, nums_nodup m (k + 1)⟩
def initB (ρ : Nat → Nat) : List Nat → List LB → List (Nat × LB)
 | l :: ls, B :: Bs => (l, B.ren ρ) :: initB ρ ls Bs
 | _, _ => []
theorem initB_look (ρ : Nat → Nat) : ∀ (ls : List Nat) (Bs : List LB), ls.length = Bs.length → ∀ k, (pos ls k = none → lookB (initB ρ ls Bs) k = none) ∧ ∀ j B, pos ls k = some j → Bs[j]? = some B → lookB (initB ρ ls Bs) k = some (B.ren ρ)
 | [], [], _, k => ⟨fun _ => rfl, fun j B h => by simp [pos] at h⟩
 | l :: ls, B :: Bs, hl, k => by
  obtain ⟨i1, i2⟩ := initB_look ρ ls Bs (by simpa using hl) k
  by_cases e : k = l
  ·subst e
   refine ⟨fun h => by simp [pos] at h, fun j B' hp hB => ?_⟩
   simp only [pos, if_true, Option.some.injEq] at hp
   subst hp
   simp at hB
   subst hB
   simp [initB, lookB]
  ·refine ⟨fun h => ?_, fun j B' hp hB => ?_⟩
   ·simp only [pos, if_neg e, Option.map_eq_none_iff] at h
    simp only [initB, lookB, if_neg e]; exact i1 h
   ·simp only [pos, if_neg e, Option.map_eq_some_iff] at hp
    obtain ⟨i, hi, rfl⟩ := hp
    simp only [initB, lookB, if_neg e]; exact i2 i B' hi (by simpa using hB)
 | [], _ :: _, hl, _ => by simp at hl
 | _ :: _, [], hl, _ => by simp at hl
def a0X (l : Nat) : LB → AV
 | .var _ => .one (.ptr l 0)
 | .arr _ _ rows _ => .one (.own l rows.length)
 | _ => .any
def ghX : List Nat → List LB → List AV
 | l :: ls, B :: Bs => a0X l B :: ghX ls Bs
 | _, _ => []
def v0X (g : Gh) (j : Nat) : LB → Value
 | .var _ => .pointer (some ⟨g.bl j, 0, none⟩)
 | .arr _ _ _ _ => g.hd j
 | _ => undef
def gvX (g : Gh) (j : Nat) : List LB → List Value
 | B :: Bs => v0X g j B :: gvX g (j + 1) Bs
 | [] => []
theorem ghX_rep {w : World} {F : Fz} {lb : Lk} {g1 g : Gh} : ∀ (Bs : List LB) (ls : List Nat) (j : Nat), ls.length = Bs.length → (∀ (i : Nat) B l, Bs[i]? = some B → ls[i]? = some l → RepAV w F lb g1 (a0X l B) (v0X g (j + i) B)) → RepAVs w F lb g1 (ghX ls Bs) (gvX g j Bs)
 | [], [], _, _, _ => rfl
 | B :: Bs, l :: ls, j, hl, h => by
  refine ⟨_, _, rfl, by simpa using h 0 B l rfl rfl, ghX_rep Bs ls (j + 1) (by simpa using hl) (fun i B' l' h1 h2 => ?_)⟩
  have := h (i + 1) B' l' (by simpa using h1) (by simpa using h2)
  rwa [show j + 1 + i = j + (i + 1) by omega]
 | [], _ :: _, _, hl, _ => by simp at hl
 | _ :: _, [], _, hl, _ => by simp at hl
theorem ghX_get {w : World} {F : Fz} {lb : Lk} {g1 g : Gh} : ∀ (Bs : List LB) (ls : List Nat) (j : Nat), RepAVs w F lb g1 (ghX ls Bs) (gvX g j Bs) → ∀ (i : Nat) B l, Bs[i]? = some B → ls[i]? = some l → RepAV w F lb g1 (a0X l B) (v0X g (j + i) B)
 | B :: Bs, l :: ls, j, h, i, B', l', h1, h2 => by
  simp only [ghX, gvX, RepAVs] at h
  obtain ⟨u, us', he, h3, h4⟩ := h
  obtain ⟨rfl, rfl⟩ := List.cons.inj he
  cases i with
  | zero => simp at h1 h2; subst h1 h2; exact h3
  | succ i =>
   have := ghX_get Bs ls (j + 1) h4 i B' l' (by simpa using h1) (by simpa using h2)
   rwa [show j + 1 + i = j + (i + 1) by omega] at this
 | [], _, _, _, i, B', l', h1, _ => by simp at h1
 | _ :: _, [], _, _, i, B', l', _, h2 => by simp at h2
def endB (lb : Lk) (ρ : Nat → Nat) : List Nat → List LB → Prop
 | [], [] => True
 | l :: ls, B :: Bs => (B = .dead ∨ lb l = some (B.ren ρ)) ∧ endB lb ρ ls Bs
 | _, _ => False
theorem endB_get {lb : Lk} {ρ : Nat → Nat} : ∀ {ls : List Nat} {Bs : List LB}, endB lb ρ ls Bs → ∀ (j : Nat) B, Bs[j]? = some B → ∃ l, ls[j]? = some l ∧ (B = .dead ∨ lb l = some (B.ren ρ))
 | [], [], _, j, B, h => by simp at h
 | l :: ls, B :: Bs, h, j, B', hj => by
  cases j with
  | zero => simp at hj; subst hj; exact ⟨l, rfl, h.1⟩
  | succ j => simpa using endB_get h.2 j B' (by simpa using hj)
 | [], _ :: _, h, _, _, _ => h.elim
 | _ :: _, [], h, _, _, _ => h.elim
def likeX1 : LB → LB → Prop
 | _, .dead => True
 | .var _, .var _ => True
 | .arr _ sz _ _, .arr _ sz' _ _ => sz = sz'
 | _, _ => False
def likeX : List LB → List LB → Prop
 | [], _ => True
 | B :: Bs, B' :: Bs' => likeX1 B B' ∧ likeX Bs Bs'
 | _ :: _, [] => False
theorem likeX_get : ∀ {Bs Bs' : List LB}, likeX Bs Bs' → ∀ (j : Nat) B, Bs[j]? = some B → ∃ B', Bs'[j]? = some B' ∧ likeX1 B B'
 | [], _, _, j, B, h => by simp at h
 | B :: Bs, B' :: Bs', h, j, C, hj => by
  cases j with
  | zero => simp at hj; subst hj; exact ⟨B', rfl, h.1⟩
  | succ j => simpa using likeX_get h.2 j C (by simpa using hj)
 | _ :: _, [], h, _, _, _ => h.elim
def resL : AV → List AV
 | .tup vs => vs
 | v => [v]
def retXS (tab : Tab) (rs : List ResultVar) (Bs Bs' : List LB) (r : AV) (s : St) : Prop :=
 match resVs tab s rs with
 | some (p, vs) => p ∧ ∃ ns, (nums 9000 Bs.length ++ ns).Nodup ∧ (nums 9000 Bs.length ++ ns).length = Bs'.length ∧ endB s.lb (idx (nums 9000 Bs.length ++ ns)) (nums 9000 Bs.length ++ ns) Bs' ∧ s.gh = ghX (nums 9000 Bs.length) Bs ∧
   conAK s.lb (idx (nums 9000 Bs.length ++ ns)) Bs'.length (nums 9000 Bs.length ++ ns) vs (resL r)
 | none => False
def retXA (tab : Tab) (rs : List ResultVar) (Bs Bs' : List LB) (r : AV) : Exit → St → Prop
 | .normal, s => retXS tab rs Bs Bs' r s
 | .ret, s => retXS tab rs Bs Bs' r s
 | _, _ => False
theorem retXA_normal {rs : List ResultVar} {Bs Bs' : List LB} {r : AV} {s : St} : retXA tab rs Bs Bs' r .normal s = retXS tab rs Bs Bs' r s := rfl
theorem retXA_ret {rs : List ResultVar} {Bs Bs' : List LB} {r : AV} {s : St} : retXA tab rs Bs Bs' r .ret s = retXS tab rs Bs Bs' r s := rfl
attribute [go_sem] retXA_normal retXA_ret retXS
theorem joinR_rep {w : World} {F : Fz} {lb : Lk} {g : Gh} {ds : List AV} {us : List Value} (h : RepAVs w F lb g ds us) : RepAV w F lb g (joinR ds) (joinU us) := by
 cases ds with
 | nil =>
  simp only [RepAVs] at h
  subst h
  simp only [joinR, RepAV, RepAVs]
  exact ⟨[], rfl, rfl⟩
 | cons d ds =>
  simp only [RepAVs] at h
  obtain ⟨u, us', rfl, k1, k2⟩ := h
  cases ds with
  | nil => simp only [RepAVs] at k2; subst k2; exact k1
  | cons d' ds =>
   simp only [RepAVs] at k2
   obtain ⟨u', us', rfl, k3, k4⟩ := k2
   simp only [joinR, RepAV, RepAVs]
   exact ⟨u :: u' :: us', rfl, u, u' :: us', rfl, k1, u', us', rfl, k3, k4⟩
theorem satX_of_awp (hT : TabOk P tab) {f : FuncId} {fn : Func} {c : Code} {args : List AV} {Bs Bs' : List LB} {r : AV} {rs : List ResultVar} {n : Nat} (hf : P.funcs[f]? = some fn) (hb : fn.body = some c) (hr : fn.results.toList = rs) (hn : fn.ntmps = n) (hname : fn.name ≠ "runtime.NumGoroutine")
  (hlen : args.length ≤ n) (hA : args.all (okA1 Bs.length) = true) (hok : (Bs.all (okP Bs.length)) = true) (hok' : (Bs'.all (okX Bs'.length)) = true) (hrx : okAx Bs'.length r = true) (hlike : likeX Bs Bs') (hj : joinR (resL r) = r)
  (h : AWP P c (retXA tab rs Bs Bs' r) (mk n (enumA 0 (args.map (AV.ren1 (idx (nums 9000 Bs.length))))) (initB (idx (nums 9000 Bs.length)) (nums 9000 Bs.length) Bs) (ghX (nums 9000 Bs.length) Bs))) : SatX P f args Bs Bs' r := by
 subst hr hn
 refine ⟨⟨fn, hf, hname, by rw [hb]; simp⟩, hok, hok', hrx, fun w F g us hF hargs hX => ?_⟩
 have hls := nums_len Bs.length 9000
 have hnd0 := nums_nodup Bs.length 9000
 generalize hls0 : nums 9000 Bs.length = ls at *
 have lk := initB_look (idx ls) ls Bs hls
 have at_ : ∀ j B, Bs[j]? = some B → ∃ l, ls[j]? = some l ∧ idx ls j = l ∧ pos ls l = some j ∧ lookB (initB (idx ls) ls Bs) l = some (B.ren (idx ls)) ∧ okX Bs.length B = true ∧ notDead B = true := by
  intro j B hjB
  have hjl : j < ls.length := by rw [hls]; exact (List.getElem?_eq_some_iff.1 hjB).1
  have e1 : ls[j]? = some ls[j] := List.getElem?_eq_getElem hjl
  have hp := pos_get hnd0 e1
  have := List.all_eq_true.1 hok B (List.mem_of_getElem? hjB)
  simp only [okP, Bool.and_eq_true] at this
  exact ⟨ls[j], e1, idx_get e1, hp, (lk _).2 j B hp hjB, this.1, this.2⟩
 have back : ∀ k B, lookB (initB (idx ls) ls Bs) k = some B → ∃ j B0, pos ls k = some j ∧ Bs[j]? = some B0 ∧ B = B0.ren (idx ls) ∧ idx ls j = k := by
  intro k B hk
  cases hp : pos ls k with
  | none => rw [(lk k).1 hp] at hk; cases hk
  | some j =>
   have h1 := pos_some hp
   have hjl := (List.getElem?_eq_some_iff.1 h1).1
   rw [hls] at hjl
   have hb0 : Bs[j]? = some Bs[j] := List.getElem?_eq_getElem hjl
   rw [(lk k).2 j _ hp hb0] at hk
   exact ⟨j, Bs[j], rfl, hb0, (Option.some.inj hk).symm, idx_get h1⟩
 have gS : ∀ k j, pos ls k = some j → (g0.push g ls).bl k = g.bl j ∧ (g0.push g ls).hd k = g.hd j ∧ (g0.push g ls).ds k = g.ds j := by
  intro k j hp; simp only [Gh.push, hp]; exact ⟨trivial, trivial, trivial⟩
 have T : Tr Bs.length (fun l => l) (idx ls) (lkL Bs) g (lookB (initB (idx ls) ls Bs)) (g0.push g ls) := by
  refine ⟨fun l hl B hlb => ?_⟩
  obtain ⟨k, k1, k2, k3, k4, _⟩ := at_ l B hlb
  obtain ⟨e0, e1, _⟩ := gS k l k3
  refine ⟨B.ren (idx ls), by rw [k2]; exact k4, fun n u hq => ?_, fun off u hq => ?_⟩
  ·rw [k2, e1]; exact ownB_ren.2 hq
  ·rw [k2, e0]; exact ptrB_ren.2 hq
 have repI : ∀ (j : Nat) (B : LB) (k : Nat), Bs[j]? = some B → ls[j]? = some k → RepLB w F (lookB (initB (idx ls) ls Bs)) (g0.push g ls) k (B.ren (idx ls)) ∧ SoftOk F (g0.push g ls) k (B.ren (idx ls)) := by
  intro j B k hjB hk
  obtain ⟨k', k1, k2, k3, k4, k5, _⟩ := at_ j B hjB
  rw [hk] at k1
  obtain rfl := Option.some.inj k1
  obtain ⟨e0, e1, e2⟩ := gS k j k3
  have q1 := tr_LB (j := j) (ρ := fun l => l) T k5 (by rw [k2]; exact e0) (by rw [k2]; exact e1) (by rw [k2]; exact e2) (by rw [LB.ren_id]; exact hX.lb j B hjB)
  have q2 := tr_soft (F := F) (σ := idx ls) (j := j) (ρ := fun l => l) (g := g) (g' := g0.push g ls) (B := B) (by rw [k2]; exact e0) (by rw [k2]; exact e1) (by rw [k2]; exact e2) (by rw [LB.ren_id]; exact hX.so j B hjB)
  rw [k2] at q1 q2
  exact ⟨q1, q2⟩
 have hun : ∀ b, InX g Bs b → ∀ o, ¬ F b o := by
  rintro b ⟨j, B, hjB, hbm⟩
  obtain ⟨k, k1, k2, k3, k4, k5, k6⟩ := at_ j B hjB
  obtain ⟨q1, q2⟩ := repI j B k hjB k1
  exact okX_un k5 k6 q1 q2 b (by rw [(gS k j k3).2.2]; exact hbm)
 obtain ⟨S, hS⟩ : ∃ S : List Nat, ∀ b, b ∈ S ↔ InX g Bs b := by
  refine ⟨(List.range Bs.length).flatMap g.ds, fun b => ?_⟩
  rw [List.mem_flatMap]
  constructor
  ·rintro ⟨j, hj, hbm⟩
   exact ⟨j, _, List.getElem?_eq_getElem (List.mem_range.1 hj), hbm⟩
  ·rintro ⟨j, B, hj, hbm⟩
   exact ⟨j, List.mem_range.2 (List.getElem?_eq_some_iff.1 hj).1, hbm⟩
 have hargs1 : RepAVs w F (lookB (initB (idx ls) ls Bs)) (g0.push g ls) (args.map (AV.ren1 (idx ls))) us := tr_AV1s (ρ := fun l => l) T hA (by rw [avs_ren1_id]; exact hargs)
 have hal := RepAVs.len _ _ hargs1
 rw [List.length_map] at hal
 have hsim : Sim w ⟨S, gvX g 0 Bs⟩ F F (g0.push g ls) (mk fn.ntmps (enumA 0 (args.map (AV.ren1 (idx ls)))) (initB (idx ls) ls Bs) (ghX ls Bs)) { tmps := us.toArray ++ Array.replicate (fn.ntmps - us.toArray.size) undef, defers := [] } w := {
  sz := by
   simp only [mk_n, Array.size_append, List.size_toArray, Array.size_replicate]
   omega
  df := rfl
  sl := fun i => by
   have e : us.toArray ++ Array.replicate (fn.ntmps - us.toArray.size) undef = (us ++ List.replicate (fn.ntmps - us.length) undef).toArray := by simp
   simp only [mk_sl, mk_lb, e, getD_toArray]
   rcases enumA_rep _ us 0 i (List.replicate (fn.ntmps - us.length) undef) hargs1 with h | ⟨_, _, h⟩
   ·rw [h]; simp only [RepAV]
   ·exact h
  gh := by
   refine ghX_rep Bs ls 0 hls (fun i B l h1 h2 => ?_)
   obtain ⟨k, k1, k2, k3, k4, k5, k6⟩ := at_ i B h1
   rw [h2] at k1
   obtain rfl := Option.some.inj k1
   obtain ⟨e0, e1, _⟩ := gS l i k3
   rw [Nat.zero_add]
   cases B with
   | var cells =>
    simp only [a0X, v0X, RepAV, RepAC, mk_lb]
    exact ⟨rfl, _, k4, by simp only [LB.ren, okPtrB, e0]⟩
   | arr e sz rows fz =>
    have hone : (g.hd i).oneCell' = true := by
     obtain ⟨_, _, xs, _, hown, _⟩ := hX.lb i _ h1
     rcases hown.2 with ⟨e1, _⟩ | ⟨_, _, _, e1, _⟩ <;> (have e1 : g.hd i = _ := e1; rw [e1]; rfl)
    simp only [a0X, v0X, RepAV, RepAC, mk_lb]
    exact ⟨hone, _, k4, by simp only [LB.ren, okOwnB, e1, List.length_map]; exact ⟨Nat.le_refl _, fun _ => trivial⟩⟩
   | tok x => exact absurd k5 (by simp [okX])
   | dead => exact absurd k6 (by simp [notDead])
  lb := fun k B hk => by
   obtain ⟨j, B0, hp, hB0, rfl, _⟩ := back k B hk
   exact (repI j B0 k hB0 (pos_some hp)).1
  so := fun k B hk => by
   obtain ⟨j, B0, hp, hB0, rfl, _⟩ := back k B hk
   exact (repI j B0 k hB0 (pos_some hp)).2
  nd := fun k B hk => by
   obtain ⟨j, B0, hp, hB0, rfl, _⟩ := back k B hk
   rw [(gS k j hp).2.2]; exact hX.nd j B0 hB0
  dj := fun k k' B B' hne hk hk' b hb1 hb2 => by
   obtain ⟨j, B0, hp, hB0, rfl, e⟩ := back k B hk
   obtain ⟨j', B0', hp', hB0', rfl, e'⟩ := back k' B' hk'
   rw [(gS k j hp).2.2] at hb1
   rw [(gS k' j' hp').2.2] at hb2
   refine hX.dj j j' B0 B0' ?_ hB0 hB0' b hb1 hb2
   rintro rfl
   exact hne (e.symm.trans e')
  nw := fun k B hk b hb1 => by
   obtain ⟨j, B0, hp, hB0, rfl, _⟩ := back k B hk
   rw [(gS k j hp).2.2] at hb1
   exact ⟨.inr ((hS b).2 ⟨j, B0, hB0, hb1⟩), hX.nw j B0 hB0 b hb1⟩
  f0 := fun _ _ h => h
  f1 := fun _ _ h => .inl h
  f2 := hF.lt
  tb := hF.tb.start (fun b hb o => hun b ((hS b).1 hb) o)
  os := rfl
  tape := rfl
  output := rfl
  size := Nat.le_refl _
  block := fun _ _ _ => rfl }
 refine calls_of_wp hf hb (wp_mono (h w ⟨S, gvX g 0 Bs⟩ F _ w ⟨F, g0.push g ls, hsim⟩) ?_)
 rintro ex a' w' ⟨s', hq, F1, g2, hs'⟩
 have main : retXS tab fn.results.toList Bs Bs' r s' → ∃ v, (results fn a'.tmps).run P w' = .ok v w' ∧ ∃ v1 F' g', Ending.returned v = .returned v1 ∧ RepAV w' F' (lkL Bs') g' r v1 ∧ OutX w F g Bs w' F' g' Bs' := by
  intro hq
  unfold retXS at hq
  rw [hls0] at hq
  split at hq
  case h_2 => exact hq.elim
  rename_i p vs ho
  obtain ⟨hp, ns, hnd, hlen', hend, hghe, hcon⟩ := hq
  obtain ⟨us', hrun, hres⟩ := results_run hT hs' rfl ho hp
  obtain ⟨F2, hs2, u1, p1⟩ := hs'.freezes (ownX vs (resL r))
  have hcon := conA_ok hcon
  have hno := ownX_none hcon
  generalize hos : ownX vs (resL r) = os at hs2 p1 hno
  have hres2 := RepAVs.mono (w := w') (w' := w') ⟨u1, fun _ _ _ => rfl⟩ (Keeps.refl s'.lb g2) _ _ hres
  have endG := endB_get hend
  have lbq2 : ∀ l, l ∈ ls ++ ns → (s'.frzs os).lb l = s'.lb l := fun l hl => frzs_other os s' l (fun hm => hno l hm hl)
  have hgh2 : (s'.frzs os).gh = ghX ls Bs := by rw [frzs_gh]; exact hghe
  generalize s'.frzs os = s2 at hs2 lbq2 hgh2
  have ρL : ∀ j B, Bs'[j]? = some B → ∃ l, (ls ++ ns)[j]? = some l ∧ idx (ls ++ ns) j = l ∧ l ∈ ls ++ ns ∧ (B = .dead ∨ s'.lb l = some (B.ren (idx (ls ++ ns)))) := by
   intro j B hjB
   obtain ⟨l, h1, h2⟩ := endG j B hjB
   exact ⟨l, h1, idx_get h1, List.mem_of_getElem? h1, h2⟩
  generalize hρ : idx (ls ++ ns) = ρ at *
  obtain ⟨g3, hg3⟩ : ∃ g3 : Gh, g3 = ⟨fun j => g2.bl (ρ j), fun j => g2.hd (ρ j), fun j => match Bs'[j]? with | some .dead => [] | _ => g2.ds (ρ j)⟩ := ⟨_, rfl⟩
  have g3b : ∀ j, g3.bl j = g2.bl (ρ j) := fun j => by rw [hg3]
  have g3h : ∀ j, g3.hd j = g2.hd (ρ j) := fun j => by rw [hg3]
  have g3d : ∀ j B, Bs'[j]? = some B → (B = .dead ∧ g3.ds j = []) ∨ (s2.lb (ρ j) = some (B.ren ρ) ∧ g3.ds j = g2.ds (ρ j)) := by
   intro j B hjB
   obtain ⟨l, k1, k2, k3, k4⟩ := ρL j B hjB
   by_cases hd : B = .dead
   ·subst hd; exact .inl ⟨rfl, by rw [hg3]; simp [hjB]⟩
   ·have k4 := k4.resolve_left hd
    refine .inr ⟨by rw [k2, lbq2 l k3]; exact k4, ?_⟩
    cases B with
    | dead => exact absurd rfl hd
    | _ => rw [hg3]; simp [hjB]
  have T3 : ∀ lbq : Lk, (∀ l, l ∈ ls ++ ns → lbq l = s'.lb l) → Tr Bs'.length ρ (fun l => l) lbq g2 (lkL Bs') g3 := by
   intro lbq hq
   refine ⟨fun l hl B hlb => ?_⟩
   have hb0 : Bs'[l]? = some Bs'[l] := List.getElem?_eq_getElem hl
   obtain ⟨k, k1, k2, k3, k4⟩ := ρL l _ hb0
   rw [k2, hq k k3] at hlb
   refine ⟨Bs'[l], hb0, ?_⟩
   generalize Bs'[l] = B0 at *
   rcases k4 with rfl | k4
   ·exact ⟨fun _ _ _ => trivial, fun _ _ _ => trivial⟩
   ·rw [hlb] at k4
    obtain rfl := Option.some.inj k4
    rw [g3h, g3b]
    exact ⟨fun n u hq => ownB_ren.1 hq, fun off u hq => ptrB_ren.1 hq⟩
  have okB' : ∀ j B, Bs'[j]? = some B → okX Bs'.length B = true := fun j B hjB => List.all_eq_true.1 hok' B (List.mem_of_getElem? hjB)
  have ρne : ∀ j j' B B', j ≠ j' → Bs'[j]? = some B → Bs'[j']? = some B' → ρ j ≠ ρ j' := by
   intro j j' B B' hne hjB hjB' he
   obtain ⟨k, k1, k2, _⟩ := ρL j B hjB
   obtain ⟨k', k1', k2', _⟩ := ρL j' B' hjB'
   have : k = k' := by rw [← k2, ← k2', he]
   subst this
   exact hne (Option.some.inj ((pos_get hnd k1).symm.trans (pos_get hnd k1')))
  have hrep : RepX w' F2 g3 Bs' := by
   refine ⟨fun j B hjB => ?_, fun j B hjB => ?_, fun j B hjB => ?_, fun j j' B B' hne hjB hjB' b hb1 hb2 => ?_, fun j B hjB b hb1 => ?_⟩
   ·rcases g3d j B hjB with ⟨rfl, _⟩ | ⟨h1, h2⟩
    ·trivial
    ·have := tr_LB (j := j) (T3 s2.lb lbq2) (okB' j B hjB) (g3b j) (g3h j) h2 (hs2.lb _ _ h1)
     rwa [LB.ren_id] at this
   ·rcases g3d j B hjB with ⟨rfl, _⟩ | ⟨h1, h2⟩
    ·trivial
    ·have := tr_soft (F := F2) (j := j) (σ := fun l => l) (g' := g3) (g3b j) (g3h j) h2 (hs2.so _ _ h1)
     rwa [LB.ren_id] at this
   ·rcases g3d j B hjB with ⟨rfl, h2⟩ | ⟨h1, h2⟩
    ·rw [h2]; exact List.nodup_nil
    ·rw [h2]; exact hs2.nd _ _ h1
   ·rcases g3d j B hjB with ⟨rfl, h2⟩ | ⟨h1, h2⟩
    ·rw [h2] at hb1; cases hb1
    ·rw [h2] at hb1
     rcases g3d j' B' hjB' with ⟨rfl, h2'⟩ | ⟨h1', h2'⟩
     ·rw [h2'] at hb2; cases hb2
     ·rw [h2'] at hb2
      exact hs2.dj _ _ _ _ (ρne j j' B B' hne hjB hjB') h1 h1' b hb1 hb2
   ·rcases g3d j B hjB with ⟨rfl, h2⟩ | ⟨h1, h2⟩
    ·rw [h2] at hb1; cases hb1
    ·rw [h2] at hb1; exact (hs2.nw _ _ h1 b hb1).2
  refine ⟨_, hrun, _, F2, g3, rfl, ?_, { rep := hrep, keep := ?_, src := ?_, up := hs2.f0, new := ?_, lt := hs2.f2, os := hs2.os, tape := hs2.tape, output := hs2.output, size := hs2.size, frame := ?_ }⟩
  ·have hv := con_argsT hs' u1 (T3 s'.lb (fun _ _ => rfl)) hcon (by rw [hos]; exact p1) hres2
   rw [← hj]
   exact joinR_rep hv
  ·intro j B hjB
   obtain ⟨B', hB', hl1⟩ := likeX_get hlike j B hjB
   refine ⟨B', hB', ?_⟩
   obtain ⟨l, k1, k2, k3, k4, k5, k6⟩ := at_ j B hjB
   have hgh := hs2.gh
   rw [hgh2] at hgh
   have hgj := ghX_get Bs ls 0 hgh j B l hjB k1
   rw [Nat.zero_add] at hgj
   have hρl : ρ j = l := by
    rw [← hρ]
    exact idx_get (by rw [List.getElem?_append_left (List.getElem?_eq_some_iff.1 k1).1]; exact k1)
   rcases g3d j B' hB' with ⟨rfl, _⟩ | ⟨h1, _⟩
   ·exact ⟨fun _ _ _ => trivial, fun _ _ _ => trivial, fun _ _ _ _ _ => trivial, fun _ _ _ => trivial⟩
   ·rw [hρl] at h1
    rw [g3h, g3b, hρl]
    cases B with
    | var cells =>
     cases B' <;> simp only [likeX1] at hl1
     ·simp only [a0X, v0X, RepAV, RepAC] at hgj
      obtain ⟨_, B2, hB2, hq⟩ := hgj
      rw [h1] at hB2
      obtain rfl := Option.some.inj hB2
      simp only [LB.ren, okPtrB, Value.pointer.injEq, Option.some.injEq, Addr.mk.injEq, and_true] at hq
      rw [hq]
      exact ⟨fun _ _ _ => trivial, fun _ _ hq => hq, fun _ _ _ _ _ => trivial, fun _ _ _ => trivial⟩
     ·exact ⟨fun _ _ _ => trivial, fun _ _ _ => trivial, fun _ _ _ _ _ => trivial, fun _ _ _ => trivial⟩
    | arr e sz rows fz =>
     cases B' <;> simp only [likeX1] at hl1
     ·subst hl1
      rename_i e' rows' fz'
      simp only [a0X, v0X, RepAV, RepAC] at hgj
      obtain ⟨_, B2, hB2, hq⟩ := hgj
      rw [h1] at hB2
      obtain rfl := Option.some.inj hB2
      simp only [LB.ren, okOwnB, List.length_map] at hq
      obtain ⟨hq1, hq2⟩ := hq
      refine ⟨fun n u hu => ?_, fun _ _ _ => trivial, fun n i off u hu => ?_, fun _ _ _ => trivial⟩
      ·simp only [okOwnB] at hu ⊢
       refine ⟨by omega, fun hn => ?_⟩
       rw [hu.2 (by omega), hq2 (by omega)]
      ·simp only [okEpB] at hu ⊢
       refine ⟨by omega, fun hn => ?_⟩
       rw [← hq2 (by omega)]
       exact hu.2 (by omega)
     ·exact ⟨fun _ _ _ => trivial, fun _ _ _ => trivial, fun _ _ _ _ _ => trivial, fun _ _ _ => trivial⟩
    | tok x => exact absurd k5 (by simp [okX])
    | dead => exact absurd k6 (by simp [notDead])
  ·intro j B hjB b hb1
   rcases g3d j B hjB with ⟨rfl, h2⟩ | ⟨h1, h2⟩
   ·rw [h2] at hb1; cases hb1
   ·rw [h2] at hb1
    rcases (hs2.nw _ _ h1 b hb1).1 with hq | hq
    ·exact .inr hq
    ·exact .inl ((hS b).1 hq)
  ·intro b o hq
   rcases hs2.f1 b o hq with hq | hq | hq
   ·exact .inl hq
   ·exact .inr (.inl hq)
   ·exact .inr (.inr ((hS b).1 hq))
  ·exact fun k hk hn => hs2.block k hk (fun hm => hn ((hS k).1 hm))
 cases ex with
 | normal => exact ⟨hs'.df, main hq⟩
 | ret => exact ⟨hs'.df, main hq⟩
 | _ => exact hq.elim
theorem satX_of_code (hT : TabOk P tab) (hm : P.follows .mixedOrders = true) {f : FuncId} {fn : Func} {c : Code} {args : List AV} {Bs Bs' : List LB} {r : AV} {rs : List ResultVar} {n : Nat} (hf : P.funcs[f]? = some fn) (hb : fn.body = some c) (hr : fn.results.toList = rs) (hn : fn.ntmps = n) (hname : fn.name ≠ "runtime.NumGoroutine")
  (hoc : okCode c = true) (hlen : args.length ≤ n) (hA : args.all (okA1 Bs.length) = true) (hok : (Bs.all (okP Bs.length)) = true) (hok' : (Bs'.all (okX Bs'.length)) = true) (hrx : okAx Bs'.length r = true) (hlike : likeX Bs Bs') (hj : joinR (resL r) = r)
  (h : codeK P tab c (retXA tab rs Bs Bs' r) (mk n (enumA 0 (args.map (AV.ren1 (idx (nums 9000 Bs.length))))) (initB (idx (nums 9000 Bs.length)) (nums 9000 Bs.length) Bs) (ghX (nums 9000 Bs.length) Bs))) : SatX P f args Bs Bs' r :=
 satX_of_awp hT hf hb hr hn hname hlen hA hok hok' hrx hlike hj (codeK_sound hT hm c _ _ hoc h)
theorem satX_of_codeD (Δ : List (Nat × List Pr)) (hT : TabOk P tab) (hm : P.follows .mixedOrders = true) {f : FuncId} {fn : Func} {c : Code} {args : List AV} {Bs Bs' : List LB} {r : AV} {rs : List ResultVar} {n : Nat} (hf : P.funcs[f]? = some fn) (hb : fn.body = some c) (hr : fn.results.toList = rs) (hn : fn.ntmps = n) (hname : fn.name ≠ "runtime.NumGoroutine")
  (hoc : okCodeD Δ c = true) (hlen : args.length ≤ n) (hA : args.all (okA1 Bs.length) = true) (hok : (Bs.all (okP Bs.length)) = true) (hok' : (Bs'.all (okX Bs'.length)) = true) (hrx : okAx Bs'.length r = true) (hlike : likeX Bs Bs') (hj : joinR (resL r) = r)
  (h : codeD P tab Δ c (retXA tab rs Bs Bs' r) (mk n (enumA 0 (args.map (AV.ren1 (idx (nums 9000 Bs.length))))) (initB (idx (nums 9000 Bs.length)) (nums 9000 Bs.length) Bs) (ghX (nums 9000 Bs.length) Bs))) : SatX P f args Bs Bs' r :=
 satX_of_awp hT hf hb hr hn hname hlen hA hok hok' hrx hlike hj (codeD_sound Δ hT hm c _ _ hoc h)
theorem acs_ren_c (ρ : Nat → Nat) (cs : List C) : (cs.map AC.c).map (AC.ren ρ) = cs.map AC.c := by
 induction cs with
 | nil => rfl
 | cons c cs ih => simp only [List.map_cons, AC.ren, ih]
theorem acs_ok_c (m : Nat) (cs : List C) : (cs.map AC.c).all (okA m) = true := by
 induction cs with
 | nil => rfl
 | cons c cs ih => simp only [List.map_cons, List.all_cons, okA, ih, Bool.and_self]
theorem acs_ref_c (cs : List C) : (cs.map AC.c).any refA = false := by
 induction cs with
 | nil => rfl
 | cons c cs ih => simp only [List.map_cons, List.any_cons, refA, ih, Bool.or_self]
theorem acs_own_c (cs : List C) : (cs.map AC.c).flatMap AC.owns = [] := by
 induction cs with
 | nil => rfl
 | cons c cs ih => simp only [List.map_cons, List.flatMap_cons, AC.owns, ih, List.append_nil]
theorem rows_ren_c {α : Type} (ρ : Nat → Nat) (f : α → List C) (xs : List α) : ((xs.map fun x => (f x).map AC.c).map fun r => r.map (AC.ren ρ)) = xs.map fun x => (f x).map AC.c := by
 rw [List.map_map]
 exact List.map_congr_left (fun x _ => acs_ren_c ρ (f x))
attribute [go_sem] acs_ren_c acs_ok_c acs_ref_c acs_own_c AC.ren AV.ren1 AV.ren LB.ren okA okA1 okAx okX okP notDead idx nums initB a0X ghX endB likeX likeX1 resL refA refV noneOf conAK conB conK conS ownX putsX freshX joinR
end Go.Ai
