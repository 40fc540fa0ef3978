/- Steps that name different blocks may be exchanged, writes among them. -/
import Derived.Test.YtofbieojmaobfaaGreatAiRegion
import Derived.Test.YtofbieojmaobfaaGreatAiRow2
set_option linter.unusedVariables false
set_option linter.unusedSimpArgs false
namespace Go.Ai
open Go.RowKit
variable {P : Program} {tab : Tab} {ops : Array Oper}
structure AgreeE (ops : Array Oper) (o : Oper) (s t : St) : Prop where
 sl : ∀ k, k ∈ o.looksAt ops → t.sl k = s.sl k
 lb : ∀ x, x ∈ o.op.operands.toList → ∀ l, l ∈ (opv s x).refs → t.lb l = s.lb l
 dn : ∀ d, o.dst = some d → s.lb d = none → t.lb d = none
 n : t.n = s.n
inductive FormU (o : Oper) (s : St) : (Lk → Lk) → Prop
 | id : FormU o s (fun lb => lb)
 | put (d : Nat) (B : LB) (hd : o.dst = some d) (hn : s.lb d = none) : FormU o s (putL d B)
 | frz (ls : List Nat) (h : ∀ l, l ∈ ls → ∃ x, x ∈ o.op.operands.toList ∧ l ∈ (opv s x).refs) : FormU o s (frzL ls)
 | upd (l : Nat) (B : LB) (h : ∃ x, x ∈ o.op.operands.toList ∧ l ∈ (opv s x).refs) : FormU o s (putL l B)
theorem Form.toU {o : Oper} {s : St} {φ : Lk → Lk} (h : Form o s φ) : FormU o s φ := by
 cases h with
 | id => exact .id
 | put d B hd hn => exact .put d B hd hn
 | frz ls h => exact .frz ls h
theorem moreA_congr {lb lb' : Lk} {y : AV} (h : ∀ l, l ∈ y.refs → lb' l = lb l) : moreA lb' y = moreA lb y := by
 unfold moreA
 split <;> try rfl
 rename_i l n
 rw [h l (by simp [AV.refs, AC.refs])]
theorem appendA_congr {lb lb' : Lk} {d : Nat} {e : TypeId} {x y : AV} (hx : ∀ l, l ∈ x.refs → lb' l = lb l) (hy : ∀ l, l ∈ y.refs → lb' l = lb l) : appendA tab lb' d e x y = appendA tab lb d e x y := by
 have hm := moreA_congr hy
 unfold appendA
 rw [hm]
 split <;> try rfl
 split <;> try rfl
 rename_i l n
 rw [hx l (by simp [AV.refs, AC.refs])]
theorem storeA_congr {lb lb' : Lk} {t : TypeId} {p x : AV} (hp : ∀ l, l ∈ p.refs → lb' l = lb l) : storeA tab lb' t p x = storeA tab lb t p x := by
 unfold storeA
 split <;> try rfl
 ·rw [hp _ (by simp [AV.refs, AC.refs])]
 ·rw [hp _ (by simp [AV.refs, AC.refs])]
theorem outF_congrE {s s' : St} {o : Oper} (hs : ∀ t, t ∈ tmpsOf o.op.operands → s'.sl t = s.sl t) (hl : ∀ x, x ∈ o.op.operands.toList → ∀ l, l ∈ (opv s x).refs → s'.lb l = s.lb l) : outF tab o s' = outF tab o s := by
 by_cases hw : strong o = false
 ·exact outF_congr hw hs (fun x hx l h => by rw [hl x hx l h]; exact eqv.refl _)
 ·have O : ∀ x, x ∈ o.op.operands.toList → opv s' x = opv s x := fun x hx => opv_same hs hx
  have hpure := pureF_congr (tab := tab) hs (fun x hx l h => by rw [hl x hx l h]; exact eqv.refl _)
  unfold outF
  split
  ·rfl
  ·rename_i t x hop; exact absurd (by simp [strong, hop]) hw
  ·rename_i t len parts hop; exact absurd (by simp [strong, hop]) hw
  ·rename_i t x y hop; exact absurd (by simp [strong, hop]) hw
  ·rename_i t p x hop
   have hp : p ∈ o.op.operands.toList := by simp [hop, Op.operands]
   rw [O p hp, O x (by simp [hop, Op.operands])]
   exact storeA_congr (hl p hp)
  ·rename_i c hop
   have C : ∀ x, x ∈ c.args.toList → x ∈ o.op.operands.toList := fun x hx => by
    simp only [hop, Op.operands, Call.operands, Array.toList_append, List.mem_append]; exact .inr hx
   unfold callF
   split
   ·split
    ·rename_i x y t t' ha ht
     have hx := C x (by simp [ha])
     have hy := C y (by simp [ha])
     rw [O x hx, O y hy]
     split
     ·split
      ·exact appendA_congr (hl x hx) (hl y hy)
      ·rfl
     ·rfl
    ·rfl
   ·unfold pureF at hpure
    simp only [hop] at hpure
    rw [hpure]
  ·rw [hpure]
theorem upd_ref {o : Oper} {s : St} {pr : Prop} {v : AV} {l : Nat} {B : LB} (h : outF tab o s = some (pr, .upd v l B)) : ∃ x, x ∈ o.op.operands.toList ∧ l ∈ (opv s x).refs := by
 unfold outF at h
 split at h
 ·cases ht : tab _ <;> rw [ht] at h <;> cases h
 ·cases ht : (opv s _).cs <;> rw [ht] at h <;> cases h
 ·split at h
  ·split at h
   ·split at h
    ·rename_i x _ _ _ _ _
     cases hf : fillA _ _ _ <;> rw [hf] at h <;> cases h
    ·cases h
   ·cases h
  ·cases h
 ·split at h
  ·split at h
   ·split at h
    ·cases h
    ·cases h
   ·cases h
  ·cases h
 ·rename_i t p x hop
  refine ⟨p, by simp [hop, Op.operands], ?_⟩
  unfold storeA at h
  split at h
  ·rename_i hp _
   split at h
   ·split at h
    ·cases h; rw [hp]; simp [AV.refs, AC.refs]
    ·cases h
   ·cases h
  ·rename_i hp _
   split at h
   ·split at h
    ·cases h; rw [hp]; simp [AV.refs, AC.refs]
    ·cases h
   ·cases h
  ·cases h
 ·rename_i c hop
  unfold callF at h
  split at h
  ·split at h
   ·rename_i x y t t' ha ht
    have hx : x ∈ o.op.operands.toList := by
     simp only [hop, Op.operands, Call.operands, Array.toList_append, List.mem_append]; exact .inr (by simp [ha])
    refine ⟨x, hx, ?_⟩
    split at h
    ·split at h
     ·unfold appendA at h
      split at h
      ·cases h
      ·split at h
       ·rename_i hp
        split at h
        ·split at h
         ·cases h; rw [hp]; simp [AV.refs, AC.refs]
         ·cases h
        ·cases h
       ·split at h
        ·cases h
        ·split at h <;> cases h
        ·cases h
       ·split at h
        ·cases h
        ·split at h <;> cases h
        ·cases h
       ·cases h
     ·cases h
    ·cases h
   ·cases h
  ·cases hf : callPure tab s c <;> rw [hf] at h <;> cases h
 ·cases hf : pureF tab o s <;> rw [hf] at h <;> cases h
theorem step_form {o : Oper} {s s' : St} (h : Step P tab ops o s s') : ∃ φ v, s' = s.app φ o.dst v ∧ FormU o s φ ∧ ∀ t, AgreeE ops o s t → Step P tab ops o t (t.app φ o.dst v) := by
 by_cases hw : strong o = false
 ·obtain ⟨φ, v, h1, h2, h3⟩ := step_weak hw h
  exact ⟨φ, v, h1, h2.toU, fun t ha => h3 t ⟨ha.sl, fun x hx l hl => by rw [ha.lb x hx l hl]; exact eqv.refl _, ha.dn, ha.n⟩⟩
 ·rcases h with ⟨hwant, hact⟩ | ⟨hwant, hd, rfl⟩
  ·rcases hact with ⟨pr, e, ho, hp, hk, rfl⟩ | hc
   ·have cong : ∀ t, AgreeE ops o s t → outF tab o t = some (pr, e) := fun t ha => by
     rw [← ho]; exact outF_congrE (fun k hk => ha.sl k (looks_ops hk)) ha.lb
    cases e with
    | val v => exact ⟨fun lb => lb, v, rfl, .id, fun t ha => .inl ⟨want_congr ha.sl hwant, .inl ⟨pr, .val v, cong t ha, hp, by simp only [Eff.ok] at hk ⊢; rw [ha.n]; exact hk, rfl⟩⟩⟩
    | new v B =>
     obtain ⟨d, hd, hn, hf⟩ := hk
     exact ⟨putL d B, v, app_new hd, .put d B hd hf, fun t ha => .inl ⟨want_congr ha.sl hwant, .inl ⟨pr, .new v B, cong t ha, hp, ⟨d, hd, by rw [ha.n]; exact hn, ha.dn d hd hf⟩, (app_new hd).symm⟩⟩⟩
    | upd v l B => exact ⟨putL l B, v, rfl, .upd l B (upd_ref ho), fun t ha => .inl ⟨want_congr ha.sl hwant, .inl ⟨pr, .upd v l B, cong t ha, hp, by simp only [Eff.ok] at hk ⊢; rw [ha.n]; exact hk, rfl⟩⟩⟩
   ·obtain ⟨φ, v, h1, h2, h3⟩ := actsCall_form (ops := ops) hc
    exact ⟨φ, v, h1, h2.toU, fun t ha => .inl ⟨want_congr ha.sl hwant, .inr (h3 t ⟨ha.sl, fun x hx l hl => by rw [ha.lb x hx l hl]; exact eqv.refl _, ha.dn, ha.n⟩)⟩⟩
  ·exact ⟨fun lb => lb, .tup [], rfl, .id, fun t ha => .inr ⟨want_congr ha.sl hwant, by rw [ha.n]; exact hd, rfl⟩⟩
theorem frzL_at (ls : List Nat) : ∀ (lb : Lk) (k : Nat), frzL ls lb k = if k ∈ ls then (lb k).map LB.frz else lb k := by
 induction ls with
 | nil => intro lb k; simp [frzL]
 | cons l ls ih =>
  intro lb k
  show frzL ls (frzL1 l lb) k = _
  rw [ih]
  have ff : ∀ x : Option LB, (x.map LB.frz).map LB.frz = x.map LB.frz := by
   intro x; cases x with
   | none => rfl
   | some B => cases B <;> rfl
  unfold frzL1
  by_cases e1 : k ∈ ls <;> by_cases e2 : k = l <;> simp [e1, e2, ff]
def FormU.At (φ : Lk → Lk) (A : Nat → Prop) : Prop := ∃ f : Nat → Option LB → Option LB, (∀ lb k, φ lb k = f k (lb k)) ∧ ∀ k, ¬ A k → ∀ x, f k x = x
theorem at_comm {φ ψ : Lk → Lk} {A B : Nat → Prop} (h1 : FormU.At φ A) (h2 : FormU.At ψ B) (hd : ∀ k, A k → ¬ B k) (lb : Lk) : φ (ψ lb) = ψ (φ lb) := by
 obtain ⟨f, f1, f2⟩ := h1
 obtain ⟨g, g1, g2⟩ := h2
 funext k
 rw [f1, g1, g1, f1]
 by_cases hA : A k
 ·rw [g2 k (hd k hA), g2 k (hd k hA)]
 ·rw [f2 k hA, f2 k hA]
theorem at_put (d : Nat) (B : LB) : FormU.At (putL d B) (fun k => k = d) :=
 ⟨fun k x => if k = d then some B else x, fun lb k => rfl, fun k hk x => by simp [show ¬ k = d from hk]⟩
theorem at_frz (ls : List Nat) : FormU.At (frzL ls) (fun k => k ∈ ls) :=
 ⟨fun k x => if k ∈ ls then x.map LB.frz else x, fun lb k => frzL_at ls lb k, fun k hk x => by simp [show ¬ k ∈ ls from hk]⟩
theorem at_id : FormU.At (fun lb => lb) (fun _ => False) := ⟨fun _ x => x, fun _ _ => rfl, fun _ _ _ => rfl⟩
theorem form_at {o : Oper} {s : St} {φ : Lk → Lk} (h : FormU o s φ) : ∃ A, FormU.At φ A ∧ (∀ k, A k → (s.lb k = none ∧ o.dst = some k) ∨ ∃ x, x ∈ o.op.operands.toList ∧ k ∈ (opv s x).refs) ∧ ∀ lb k, φ lb k = none → lb k = none := by
 cases h with
 | id => exact ⟨_, at_id, fun k hk => hk.elim, fun _ _ h => h⟩
 | put d B hd hn => exact ⟨_, at_put d B, fun k hk => .inl (by subst hk; exact ⟨hn, hd⟩), fun lb k h => by unfold putL at h; split at h; cases h; exact h⟩
 | frz ls h => exact ⟨_, at_frz ls, fun k hk => .inr (h k hk), fun lb k h => by rw [frzL_at] at h; split at h <;> simpa using h⟩
 | upd l B h => exact ⟨_, at_put l B, fun k hk => .inr (by subst hk; exact h), fun lb k h => by unfold putL at h; split at h; cases h; exact h⟩
theorem swapE {x y : Oper} {s s1 s2 : St} (hh : Here s) (hap : x.apart ops y = true) (hsep : ∀ z, z ∈ x.op.operands.toList → ∀ z', z' ∈ y.op.operands.toList → ∀ l, l ∈ (opv s z).refs → l ∉ (opv s z').refs)
  (h1 : Step P tab ops x s s1) (h2 : Step P tab ops y s1 s2) : ∃ s1', Step P tab ops y s s1' ∧ Step P tab ops x s1' s2 := by
 obtain ⟨a1, a2, a3⟩ := Oper.apart_spec hap
 have nx : ∀ k, k ∈ y.looksAt ops → x.dst ≠ some k := fun k hk e => a1 k e hk
 have ny : ∀ k, k ∈ x.looksAt ops → y.dst ≠ some k := fun k hk e => a3 k e hk
 have hne : ∀ t, x.dst = some t → y.dst ≠ some t := fun t e => a2 t e
 obtain ⟨φ, v, rfl, F1, k1⟩ := step_form h1
 obtain ⟨ψ, u, rfl, F2, k2⟩ := step_form h2
 have Oy : ∀ z, z ∈ y.op.operands.toList → opv (s.app φ x.dst v) z = opv s z := fun z hz => opv_same (fun k hk => app_sl _ _ _ _ _ (nx k (looks_ops hk))) hz
 obtain ⟨A, A1, A2, A3⟩ := form_at F1
 obtain ⟨B, B1, B2, B3⟩ := form_at F2
 have B2' : ∀ k, B k → (s.lb k = none ∧ y.dst = some k) ∨ ∃ z, z ∈ y.op.operands.toList ∧ k ∈ (opv s z).refs := by
  intro k hk
  rcases B2 k hk with ⟨h, hd⟩ | ⟨z, hz, hl⟩
  ·rw [app_lb] at h; exact .inl ⟨A3 _ _ h, hd⟩
  ·rw [Oy z hz] at hl; exact .inr ⟨z, hz, hl⟩
 have hdis : ∀ k, A k → ¬ B k := by
  intro k hA hB
  rcases A2 k hA with ⟨hn, hd⟩ | ⟨z, hz, hl⟩
  ·rcases B2' k hB with ⟨_, hd'⟩ | ⟨z', hz', hl'⟩
   ·exact hne k hd hd'
   ·exact here_opv hh z' k hl' hn
  ·rcases B2' k hB with ⟨hn', _⟩ | ⟨z', hz', hl'⟩
   ·exact here_opv hh z k hl hn'
   ·exact hsep z hz z' hz' k hl hl'
 have offA : ∀ (lb : Lk) k, ¬ A k → φ lb k = lb k := by
  intro lb k hk
  obtain ⟨f, f1, f2⟩ := A1
  rw [f1, f2 k hk]
 have offB : ∀ (lb : Lk) k, ¬ B k → ψ lb k = lb k := by
  intro lb k hk
  obtain ⟨f, f1, f2⟩ := B1
  rw [f1, f2 k hk]
 have G2 : AgreeE ops y (s.app φ x.dst v) s := by
  refine ⟨fun k hk => (app_sl _ _ _ _ _ (nx k hk)).symm, fun z hz l hl => ?_, fun d hd hn => ?_, (app_n _ _ _ _).symm⟩
  ·rw [Oy z hz] at hl
   rw [app_lb]
   refine (offA _ l (fun hA => ?_)).symm
   rcases A2 l hA with ⟨hn, _⟩ | ⟨z', hz', hl'⟩
   ·exact here_opv hh z l hl hn
   ·exact hsep z' hz' z hz l hl' hl
  ·rw [app_lb] at hn; exact A3 _ _ hn
 have S2 := k2 s G2
 have G1 : AgreeE ops x s (s.app ψ y.dst u) := by
  refine ⟨fun k hk => app_sl _ _ _ _ _ (ny k hk), fun z hz l hl => ?_, fun d hd hn => ?_, app_n _ _ _ _⟩
  ·rw [app_lb]
   refine offB _ l (fun hB => ?_)
   rcases B2' l hB with ⟨hn, _⟩ | ⟨z', hz', hl'⟩
   ·exact here_opv hh z l hl hn
   ·exact hsep z hz z' hz' l hl hl'
  ·rw [app_lb, offB _ d (fun hB => ?_)]
   ·exact hn
   ·rcases B2' d hB with ⟨_, hd'⟩ | ⟨z', hz', hl'⟩
    ·exact hne d hd hd'
    ·exact here_opv hh z' d hl' hn
 have S1 := k1 _ G1
 refine ⟨_, S2, ?_⟩
 rw [app_comm s φ ψ x.dst y.dst v u hne (at_comm A1 B1 hdis s.lb)]
 exact S1
end Go.Ai
/- Drawn regions in which a write and what it is not ordered with name different blocks. -/
namespace Go.Ai
open Go.RowKit
variable {P : Program} {tab : Tab} {ops : Array Oper} {w0 : World} {M0 : Ms} {F0 : Fz}
structure Pr where
 i : Nat
 j : Nat
 a : List Tmp
 b : List Tmp
def slotsOk (ops : Array Oper) (i : Nat) (x : Oper) : Bool := (List.range ops.size).all fun m => decide (m < i) || match ops.toList[m]? with
 | none => true
 | some q => match q.dst with
  | none => true
  | some d => !(x.looksAt ops).contains d
def prOk (ops : Array Oper) (p : Pr) : Bool := decide (p.i < p.j) && match ops.toList[p.i]?, ops.toList[p.j]? with
 | some x, some y => x.apart ops y && slotsOk ops p.i x && slotsOk ops p.j y && (tmpsOf x.op.operands == p.a) && (tmpsOf y.op.operands == p.b)
 | _, _ => false
def regOkD (ops : Array Oper) (prs : List Pr) : Bool :=
 prs.all (prOk ops) && (List.range ops.size).all fun j => match ops.toList[j]? with
  | none => true
  | some oj => oj.after.toList.all (fun e => !Region.binds .any e || decide (e.on < j)) &&
   (List.range j).all fun i => match ops.toList[i]? with
    | none => true
    | some oi => ((befsA [] ops.toList).getD j 0).testBit i || commOk ops oi oj || prs.any fun p => p.i == i && p.j == j
def refsAt (s : St) (ts : List Tmp) : List Nat := ts.flatMap fun t => (s.sl t).refs
def SepAt (prs : List Pr) (j : Nat) (s : St) : Prop := ∀ p, p ∈ prs → p.j = j → ∀ l, l ∈ refsAt s p.a → l ∉ refsAt s p.b
def StepsD (P : Program) (tab : Tab) (fx : Nat → Bool) (ops : Array Oper) (prs : List Pr) : List Nat → St → St → Prop
 | [], s, s' => s' = s
 | i :: is, s, s' => ∃ o s1, ops[i]? = some o ∧ SepAt prs i s ∧ StepX P tab (fx i) ops o s s1 ∧ StepsD P tab fx ops prs is s1 s'
theorem stepsD_append {fx : Nat → Bool} {prs : List Pr} : ∀ (l m : List Nat) (s s' : St), StepsD P tab fx ops prs (l ++ m) s s' ↔ ∃ s1, StepsD P tab fx ops prs l s s1 ∧ StepsD P tab fx ops prs m s1 s'
 | [], m, s, s' => by simp [StepsD]
 | i :: l, m, s, s' => by
  simp only [List.cons_append, StepsD]
  constructor
  ·rintro ⟨o, s1, ho, hsep, h1, h2⟩
   obtain ⟨s2, k1, k2⟩ := (stepsD_append l m s1 s').1 h2
   exact ⟨s2, ⟨o, s1, ho, hsep, h1, k1⟩, k2⟩
  ·rintro ⟨s2, ⟨o, s1, ho, hsep, h1, k1⟩, k2⟩
   exact ⟨o, s1, ho, hsep, h1, (stepsD_append l m s1 s').2 ⟨s2, k1, k2⟩⟩
theorem opv_refs {s : St} {xs : Array Operand} {z : Operand} (hz : z ∈ xs.toList) {l : Nat} (hl : l ∈ (opv s z).refs) : ∃ t, t ∈ tmpsOf xs ∧ l ∈ (s.sl t).refs := by
 cases z with
 | tmp t => exact ⟨t, by simp only [tmpsOf, List.mem_filterMap]; exact ⟨.tmp t, hz, rfl⟩, hl⟩
 | const v =>
  simp only [opv] at hl
  have : ∀ v, (constAV v).refs = [] := by
   intro v
   cases v <;> try rfl
   rename_i A n c
   cases A with
   | none => cases n with
    | zero => cases c <;> rfl
    | succ n => rfl
   | some A => rfl
  rw [this] at hl; cases hl
 | global g => simp [opv, AV.refs] at hl
 | func f => simp [opv, AV.refs, AC.refs] at hl
theorem slotsOk_spec {i : Nat} {x : Oper} (h : slotsOk ops i x = true) {m : Nat} (hm : i ≤ m) {q : Oper} (hq : ops[m]? = some q) : ∀ k, k ∈ x.looksAt ops → q.dst ≠ some k := by
 intro k hk e
 have hlt := (Array.getElem?_eq_some_iff.1 hq).1
 have := List.all_eq_true.1 h m (List.mem_range.2 hlt)
 have hq' : ops.toList[m]? = some q := by simpa using hq
 rw [hq'] at this
 simp only [e, Bool.or_eq_true, decide_eq_true_eq, Bool.not_eq_true'] at this
 rcases this with h | h
 ·omega
 ·have hc : (x.looksAt ops).contains k = true := by simpa using hk
  rw [hc] at h; cases h
theorem step_keep {o : Oper} {s s' : St} (h : Step P tab ops o s s') {k : Tmp} (hk : o.dst ≠ some k) : s'.sl k = s.sl k := by
 obtain ⟨φ, v, rfl, _, _⟩ := step_form h
 exact app_sl _ _ _ _ _ hk
theorem steps_keep {fx : Nat → Bool} {prs : List Pr} {k : Tmp} : ∀ (pre : List Nat) (s sm : St), (∀ p, p ∈ pre → fx p = false) → (∀ p q, p ∈ pre → ops[p]? = some q → q.dst ≠ some k) → StepsD P tab fx ops prs pre s sm → sm.sl k = s.sl k
 | [], s, sm, _, _, h => by simp only [StepsD] at h; rw [h]
 | p :: pre, s, sm, hx, hd, h => by
  obtain ⟨q, sp, hq, _, hp, h1⟩ := h
  have hp : Step P tab ops q s sp := hp.resolve_right (fun h => by rw [hx p (by simp)] at h; cases h.1)
  rw [steps_keep pre sp sm (fun p' hp' => hx p' (by simp [hp'])) (fun p' q' hp' => hd p' q' (by simp [hp'])) h1, step_keep hp (hd p q (by simp) hq)]
theorem refsAt_congr {s t : St} {ts : List Tmp} (h : ∀ k, k ∈ ts → t.sl k = s.sl k) : refsAt t ts = refsAt s ts := by
 unfold refsAt
 rw [List.flatMap_def, List.flatMap_def]
 congr 1
 exact List.map_congr_left (fun k hk => by rw [h k hk])
theorem prOk_spec {prs : List Pr} (h : regOkD ops prs = true) {p : Pr} (hp : p ∈ prs) {x y : Oper} (hx : ops[p.i]? = some x) (hy : ops[p.j]? = some y) :
  p.i < p.j ∧ x.apart ops y = true ∧ slotsOk ops p.i x = true ∧ slotsOk ops p.j y = true ∧ tmpsOf x.op.operands = p.a ∧ tmpsOf y.op.operands = p.b := by
 simp only [regOkD, Bool.and_eq_true] at h
 have h1 := List.all_eq_true.1 h.1 p hp
 have hx' : ops.toList[p.i]? = some x := by simpa using hx
 have hy' : ops.toList[p.j]? = some y := by simpa using hy
 simp only [prOk, hx', hy', Bool.and_eq_true, decide_eq_true_eq, beq_iff_eq] at h1
 exact ⟨h1.1, h1.2.1.1.1.1, h1.2.1.1.1.2, h1.2.1.1.2, h1.2.1.2, h1.2.2⟩
theorem regOkD_edges {prs : List Pr} (h : regOkD ops prs = true) {j : Nat} {o : Oper} (ho : ops[j]? = some o) {e : Edge} (he : e ∈ o.after) (hb : Region.binds .any e = true) : e.on < j := by
 have hj : j < ops.size := (Array.getElem?_eq_some_iff.1 ho).1
 simp only [regOkD, Bool.and_eq_true] at h
 have := List.all_eq_true.1 h.2 j (List.mem_range.2 hj)
 have ho' : ops.toList[j]? = some o := by simpa using ho
 rw [ho'] at this
 simp only [Bool.and_eq_true] at this
 have := List.all_eq_true.1 this.1 e (by simpa using he)
 simpa [hb] using this
theorem regOkD_pair {prs : List Pr} (h : regOkD ops prs = true) {i j : Nat} {x y : Oper} (hij : i < j) (hx : ops[i]? = some x) (hy : ops[j]? = some y) : ((befsA [] ops.toList).getD j 0).testBit i = true ∨ (commOk ops x y = true ∨ ∃ p, p ∈ prs ∧ p.i = i ∧ p.j = j) := by
 have hj : j < ops.size := (Array.getElem?_eq_some_iff.1 hy).1
 simp only [regOkD, Bool.and_eq_true] at h
 have := List.all_eq_true.1 h.2 j (List.mem_range.2 hj)
 have hy' : ops.toList[j]? = some y := by simpa using hy
 have hx' : ops.toList[i]? = some x := by simpa using hx
 rw [hy'] at this
 simp only [Bool.and_eq_true] at this
 have := List.all_eq_true.1 this.2 i (List.mem_range.2 hij)
 rw [hx'] at this
 simp only [Bool.or_eq_true] at this
 rcases this with (h | h) | h
 ·exact .inl h
 ·exact .inr (.inl h)
 ·obtain ⟨p, hp, hq⟩ := List.any_eq_true.1 h
  simp only [Bool.and_eq_true, beq_iff_eq] at hq
  exact .inr (.inr ⟨p, hp, hq.1, hq.2⟩)
theorem before_listedD {prs : List Pr} (h : regOkD ops prs = true) {listed : Array Bool} (hdown : ∀ j o, ops[j]? = some o → listed.getD j false = true → ∀ e, e ∈ o.after → Region.binds .any e = true → listed.getD e.on false = true) (i : Nat) :
  ∀ (j : Nat) (o : Oper), ops[j]? = some o → (∀ e, e ∈ o.after → Region.binds .any e = true → listed.getD e.on false = true) → ((befsA [] ops.toList).getD j 0).testBit i = true → listed.getD i false = true := by
 intro j
 induction j using Nat.strongRecOn with
 | _ j ih =>
  intro o ho hall hbit
  have R := befs_R ops.toList [] [] rfl (by intro k m hk; simp at hk)
  cases hm : (befsA [] ops.toList)[j]? with
  | none => simp [List.getD, hm] at hbit
  | some m =>
   simp [List.getD, hm] at hbit
   obtain ⟨o', ho', e, he, hb, hq⟩ := R j m hm i hbit
   simp at ho'
   rw [ho] at ho'
   obtain rfl := Option.some.inj ho'
   have hle := hall e (by simpa using he) hb
   rcases hq with rfl | ⟨m', hm', hb'⟩
   ·exact hle
   ·have hlt := regOkD_edges h ho (by simpa using he) hb
    have hjs : e.on < ops.size := Nat.lt_trans hlt (Array.getElem?_eq_some_iff.1 ho).1
    have hoe : ops[e.on]? = some ops[e.on] := Array.getElem?_eq_getElem hjs
    exact ih e.on hlt _ hoe (fun e' he' hb'' => hdown e.on _ hoe hle e' he' hb'') (by simp [List.getD, hm', hb'])
theorem bubbleD (hT : TabOk P tab) {prs : List Pr} (hok : regOkD ops prs = true) {fx : Nat → Bool} {o : Oper} {j : Nat} (ho : ops[j]? = some o) : ∀ (pre : List Nat) (s sm sn : St), (∃ a w, SimE w0 M0 F0 s a w) → pre.Pairwise (· < ·) → (∀ p, p ∈ pre → p < j) →
  (∀ p q, p ∈ pre → ops[p]? = some q → commOk ops q o = true ∨ ∃ r, r ∈ prs ∧ r.i = p ∧ r.j = j) → (∀ p, p ∈ pre → fx p = false) →
  StepsD P tab fx ops prs pre s sm → SepAt prs j sm → Step P tab ops o sm sn → ∃ s1, Step P tab ops o s s1 ∧ StepsD P tab fx ops prs pre s1 sn
 | [], s, sm, sn, _, _, _, _, _, h1, _, h2 => by simp only [StepsD] at h1; subst h1; exact ⟨sn, h2, rfl⟩
 | p :: pre, s, sm, sn, hl, hpw, hlt, hc, hx, h1, hsep, h2 => by
  have hall := h1
  obtain ⟨q, sp, hq, hsepp, hp, h1⟩ := h1
  have hp : Step P tab ops q s sp := hp.resolve_right (fun h => by rw [hx p (by simp)] at h; cases h.1)
  have hpw' := List.pairwise_cons.1 hpw
  have hap : ∀ p' q', p' ∈ p :: pre → ops[p']? = some q' → q'.apart ops o = true := by
   intro p' q' hp' hq'
   rcases hc p' q' hp' hq' with h | ⟨r, hr, e1, e2⟩
   ·simp only [commOk, Bool.and_eq_true] at h; exact h.1.1
   ·exact (prOk_spec hok hr (by rw [e1]; exact hq') (by rw [e2]; exact ho)).2.1
  obtain ⟨s1', k1, k2⟩ := bubbleD hT hok ho pre sp sm sn (step_live hT hl hp) hpw'.2 (fun p' hp' => hlt p' (by simp [hp'])) (fun p' q' hp' => hc p' q' (by simp [hp'])) (fun p' hp' => hx p' (by simp [hp'])) h1 hsep h2
  have hsw : ∃ s1, Step P tab ops o s s1 ∧ Step P tab ops q s1 s1' := by
   rcases hc p q (by simp) hq with h | ⟨r, hr, e1, e2⟩
   ·exact swap (here_of_sim hl) h hp k1
   ·obtain ⟨_, g2, g3, g4, g5, g6⟩ := prOk_spec hok hr (by rw [e1]; exact hq) (by rw [e2]; exact ho)
    refine swapE (here_of_sim hl) g2 (fun z hz z' hz' l hl1 hl2 => ?_) hp k1
    obtain ⟨t, ht, hlt1⟩ := opv_refs hz hl1
    obtain ⟨t', ht', hlt2⟩ := opv_refs hz' hl2
    have ka : ∀ k, k ∈ r.a → s.sl k = sm.sl k := fun k hk => (steps_keep (p :: pre) s sm hx (fun p' q' hp' hq' => by
     have hle : r.i ≤ p' := by
      rw [e1]
      rcases List.mem_cons.1 hp' with h | h
      ·omega
      ·have := hpw'.1 p' h; omega
     exact slotsOk_spec g3 hle hq' k (looks_ops (by rw [g5]; exact hk))) hall).symm
    have kb : ∀ k, k ∈ r.b → s.sl k = sm.sl k := fun k hk => (steps_keep (p :: pre) s sm hx (fun p' q' hp' hq' e => by
     exact (Oper.apart_spec (hap p' q' hp' hq')).1 k e (looks_ops (by rw [g6]; exact hk))) hall).symm
    refine hsep r hr e2 l ?_ ?_
    ·rw [← refsAt_congr ka]
     exact List.mem_flatMap.2 ⟨t, by rw [← g5]; exact ht, hlt1⟩
    ·rw [← refsAt_congr kb]
     exact List.mem_flatMap.2 ⟨t', by rw [← g6]; exact ht', hlt2⟩
  obtain ⟨s1, k3, k4⟩ := hsw
  refine ⟨s1, k3, q, s1', hq, fun r hr e l hl1 => ?_, .inl k4, k2⟩
  have hpj := hlt p (by simp)
  have hri : ∃ x, ops[r.i]? = some x := by
   simp only [regOkD, Bool.and_eq_true] at hok
   have h1 := List.all_eq_true.1 hok.1 r hr
   simp only [prOk, Bool.and_eq_true] at h1
   cases hxx : ops.toList[r.i]? with
   | none => rw [hxx] at h1; simp at h1
   | some x => exact ⟨x, by simpa using hxx⟩
  obtain ⟨x, hxx⟩ := hri
  obtain ⟨g1, _, g3, g4, g5, g6⟩ := prOk_spec hok hr hxx (by rw [e]; exact hq)
  have ka : ∀ k, k ∈ r.a → s1.sl k = s.sl k := fun k hk => step_keep k3 (slotsOk_spec g3 (by omega) ho k (looks_ops (by rw [g5]; exact hk)))
  have kb : ∀ k, k ∈ r.b → s1.sl k = s.sl k := fun k hk => step_keep k3 (slotsOk_spec g4 (by omega) ho k (looks_ops (by rw [g6]; exact hk)))
  rw [refsAt_congr ka] at hl1
  rw [refsAt_congr kb]
  exact hsepp r hr e l hl1
theorem any_soundD (hT : TabOk P tab) {prs : List Pr} (hok : regOkD ops prs = true) {Q : Exit → Act → World → Prop} {s' : St} (hQ : ∀ a' w', SimE w0 M0 F0 s' a' w' → Q .normal a' w') :
  ∀ (fuel : Nat) (rem : List Nat) (listed : Array Bool) (s : St) (a : Act) (w : World), rem.length = fuel → rem.Pairwise (· < ·) → listed.size = ops.size →
   (∀ i, i ∈ rem ↔ i < ops.size ∧ listed.getD i false = false) →
   (∀ j o, ops[j]? = some o → listed.getD j false = true → ∀ e, e ∈ o.after → Region.binds .any e = true → listed.getD e.on false = true) →
   StepsD P tab (fixAt ops) ops prs rem s s' → SimE w0 M0 F0 s a w → wpAny P .any ops Q fuel listed a w := by
 intro fuel
 have gd : ∀ (listed : Array Bool) (i : Nat) (b c : Bool), i < listed.size → listed.getD i b = listed.getD i c := by
  intro listed i b c hi; simp [hi]
 have noready : ∀ (rem : List Nat) (listed : Array Bool), rem.Pairwise (· < ·) → listed.size = ops.size → (∀ i, i ∈ rem ↔ i < ops.size ∧ listed.getD i false = false) → Region.ready .any ops listed = [] → rem = [] := by
  intro rem listed hpw hsz hrem hr
  cases rem with
  | nil => rfl
  | cons i rest =>
   exfalso
   obtain ⟨hi, hli⟩ := (hrem i).1 (by simp)
   have hoi : ops[i]? = some ops[i] := Array.getElem?_eq_getElem hi
   have : i ∈ Region.ready .any ops listed := by
    rw [mem_ready]
    refine ⟨by rw [gd listed i true false (by omega)]; exact hli, ops[i], hoi, fun e he hb => ?_⟩
    have hlt := regOkD_edges hok hoi he hb
    cases hle : listed.getD e.on false with
    | true => rfl
    | false =>
     have hin := (hrem e.on).2 ⟨by omega, hle⟩
     rcases List.mem_cons.1 hin with h | h
     ·omega
     ·have := (List.pairwise_cons.1 hpw).1 e.on h; omega
   rw [hr] at this; cases this
 induction fuel with
 | zero =>
  intro rem listed s a w hlen hpw hsz hrem hdown hs h
  obtain rfl := List.eq_nil_of_length_eq_zero hlen
  simp only [StepsD] at hs
  subst hs
  refine ⟨?_, hQ _ _ h⟩
  apply List.eq_nil_iff_forall_not_mem.2
  intro i hi
  obtain ⟨hli, o, ho, _⟩ := mem_ready.1 hi
  have hlt := (Array.getElem?_eq_some_iff.1 ho).1
  have := (hrem i).2 ⟨hlt, by rw [gd listed i false true (by omega)]; exact hli⟩
  cases this
 | succ fuel ih =>
  intro rem listed s a w hlen hpw hsz hrem hdown hs h
  refine ⟨fun hr => ?_, fun i hi => ?_⟩
  ·have := noready rem listed hpw hsz hrem hr
   subst this
   simp at hlen
  ·obtain ⟨hli, o, ho, hall⟩ := mem_ready.1 hi
   have hlt := (Array.getElem?_eq_some_iff.1 ho).1
   have hin : i ∈ rem := (hrem i).2 ⟨hlt, by rw [gd listed i false true (by omega)]; exact hli⟩
   obtain ⟨pre, post, rfl⟩ := List.append_of_mem hin
   obtain ⟨sm, k1, k2⟩ := (stepsD_append pre (i :: post) s s').1 hs
   obtain ⟨o', sn, ho', ksep, k3, k4⟩ := k2
   rw [ho] at ho'
   obtain rfl := Option.some.inj ho'
   have hpre : ∀ p, p ∈ pre → p < i := fun p hp => by
    have := (List.pairwise_append.1 hpw).2.2 p hp i (by simp); exact this
   have hnb : ∀ p, p ∈ pre → ((befsA [] ops.toList).getD i 0).testBit p = true → False := fun p hp hb => by
    have := before_listedD hok hdown p i o ho hall hb
    have hp2 := ((hrem p).1 (by simp [hp])).2
    rw [this] at hp2; cases hp2
   have hbub : ∃ s1, StepX P tab (fixAt ops i) ops o s s1 ∧ StepsD P tab (fixAt ops) ops prs pre s1 sn := by
    cases pre with
    | nil =>
     simp only [StepsD] at k1
     subst k1
     exact ⟨sn, k3, rfl⟩
    | cons p0 pre0 =>
     have hfi : fixAt ops i = false := by
      cases hf : fixAt ops i with
      | false => rfl
      | true => exact (hnb p0 (by simp) ((fixAt_spec hf (by have := ((hrem p0).1 (by simp)).1; exact this)).1 (hpre p0 (by simp)))).elim
     have hfp : ∀ p, p ∈ p0 :: pre0 → fixAt ops p = false := fun p hp => by
      cases hf : fixAt ops p with
      | false => rfl
      | true => exact (hnb p hp ((fixAt_spec hf hlt).2 (hpre p hp))).elim
     obtain ⟨s1, b1, b2⟩ := bubbleD hT hok ho (p0 :: pre0) s sm sn ⟨a, w, h⟩ (List.pairwise_append.1 hpw).1 hpre (fun p q hp hq => by
      rcases regOkD_pair hok (hpre p hp) hq ho with hb | hc
      ·exact (hnb p hp hb).elim
      ·exact hc) hfp k1 ksep (k3.resolve_right (fun h => by rw [hfi] at h; cases h.1))
     exact ⟨s1, .inl b1, b2⟩
   obtain ⟨s1, b1, b2⟩ := hbub
   have hs1 : StepsD P tab (fixAt ops) ops prs (pre ++ post) s1 s' := (stepsD_append pre post s1 s').2 ⟨sn, b2, k4⟩
   have hset : ∀ k, (listed.setIfInBounds i true).getD k false = if k = i then true else listed.getD k false := by
    intro k
    simp only [Array.getD_eq_getD_getElem?, Array.getElem?_setIfInBounds]
    by_cases e : i = k
    ·subst e; simp [hsz, hlt]
    ·simp [e, Ne.symm e]
   unfold wpOp
   simp only [ho]
   refine stepX_sound hT h b1 (fun a' w' h' => ih (pre ++ post) (listed.setIfInBounds i true) s1 a' w' (by simp at hlen ⊢; omega) ?_ (by simpa using hsz) (fun k => ?_) (fun j oj hoj hlj e he hb => ?_) hs1 h')
   ·rw [List.pairwise_append] at hpw ⊢
    exact ⟨hpw.1, (List.pairwise_cons.1 hpw.2.1).2, fun x hx y hy => hpw.2.2 x hx y (by simp [hy])⟩
   ·rw [hset]
    have hk := hrem k
    simp only [List.mem_append, List.mem_cons] at hk ⊢
    have hnd : ∀ k, k ∈ pre ∨ k ∈ post → k ≠ i := by
     rintro k (hk | hk) e
     ·have := hpre k hk; omega
     ·have := (List.pairwise_cons.1 (List.pairwise_append.1 hpw).2.1).1 k hk; omega
    constructor
    ·intro hk'
     have hne := hnd k hk'
     rw [if_neg hne]
     exact hk.1 (hk'.imp id .inr)
    ·rintro ⟨h1, h2⟩
     by_cases e : k = i
     ·rw [if_pos e] at h2; cases h2
     ·rw [if_neg e] at h2
      rcases hk.2 ⟨h1, h2⟩ with hq | hq | hq
      ·exact .inl hq
      ·exact absurd hq e
      ·exact .inr hq
   ·rw [hset] at hlj ⊢
    split
    ·rfl
    ·by_cases e' : j = i
     ·subst e'
      rw [ho] at hoj
      obtain rfl := Option.some.inj hoj
      exact hall e he hb
     ·rw [if_neg e'] at hlj
      exact hdown j oj hoj hlj e he hb
end Go.Ai
/- Code in which drawn regions write: the regions in Δ are shown by what they name. -/
namespace Go.Ai
open Go.RowKit
variable {P : Program} {tab : Tab}
def notIn (l : Nat) : List Nat → Prop
 | [] => True
 | b :: bs => l ≠ b ∧ notIn l bs
def disj : List Nat → List Nat → Prop
 | [], _ => True
 | l :: ls, bs => notIn l bs ∧ disj ls bs
theorem notIn_spec {l : Nat} : ∀ {bs : List Nat}, notIn l bs → l ∉ bs
 | [], _, h => by cases h
 | b :: bs, h, hm => by
  rcases List.mem_cons.1 hm with e | hm
  ·exact h.1 e
  ·exact notIn_spec h.2 hm
theorem disj_spec : ∀ {as bs : List Nat}, disj as bs → ∀ l, l ∈ as → l ∉ bs
 | [], _, _, l, h => by cases h
 | a :: as, bs, h, l, hl => by
  rcases List.mem_cons.1 hl with rfl | hl
  ·exact notIn_spec h.1
  ·exact disj_spec h.2 l hl
def sepK (s : St) (j : Nat) : List Pr → Prop
 | [] => True
 | p :: ps => (if p.j = j then disj (refsAt s p.a) (refsAt s p.b) else True) ∧ sepK s j ps
theorem sepK_spec {s : St} {j : Nat} : ∀ {prs : List Pr}, sepK s j prs → SepAt prs j s
 | [], _, p, hp, _ => by cases hp
 | q :: prs, h, p, hp, e => by
  rcases List.mem_cons.1 hp with rfl | hp
  ·have h1 := h.1
   rw [if_pos e] at h1
   exact disj_spec h1
  ·exact sepK_spec h.2 p hp e
def regD (P : Program) (tab : Tab) (x : Nat → Bool) (ops : Array Oper) (prs : List Pr) : Nat → List Oper → St → (St → Prop) → Prop
 | _, [], s, k => k s
 | j, o :: os, s, k => sepK s j prs ∧ regK P tab (x j) ops [o] s (fun s' => regD P tab x ops prs (j + 1) os s' k)
theorem regD_steps {ops : Array Oper} {prs : List Pr} : ∀ (l : List Oper) (n : Nat) {s : St} {k : St → Prop}, (∀ j, l[j]? = ops[n + j]?) → regD P tab (fixAt ops) ops prs n l s k → ∃ s', StepsD P tab (fixAt ops) ops prs (List.range' n l.length) s s' ∧ k s'
 | [], _, s, _, _, h => ⟨s, rfl, h⟩
 | o :: l, n, s, k, hl, h => by
  obtain ⟨hs, h⟩ := h
  obtain ⟨s1, h1, h2⟩ := regK_steps h
  obtain ⟨s1', h1, e⟩ := h1
  simp only [StepsL] at e
  subst e
  obtain ⟨s', h3, h4⟩ := regD_steps l (n + 1) (fun j => by have := hl (j + 1); simpa [Nat.add_assoc, Nat.add_comm 1 j] using this) h2
  have h0 : ops[n]? = some o := by simpa using (hl 0).symm
  have h1 : StepX P tab (fixAt ops n) ops o s s1 := by
   rcases h1 with h1 | ⟨hx, hw, hm⟩
   ·exact .inl h1
   ·exact .inr ⟨hx, hw, hm⟩
  exact ⟨s', ⟨o, s1, h0, sepK_spec hs, h1, h3⟩, h4⟩
theorem region_soundD {w0 : World} {M0 : Ms} {F0 : Fz} {ops : Array Oper} {prs : List Pr} (hT : TabOk P tab) (hm : P.follows .mixedOrders = true) {id : Nat} {draw : Bool} (hok : (draw && regOkD ops prs) = true) {Q : Exit → Act → World → Prop} {s s' : St} {a : Act} {w : World}
  (hs : StepsD P tab (fixAt ops) ops prs (List.range ops.size) s s') (h : SimE w0 M0 F0 s a w) (hQ : ∀ a' w', SimE w0 M0 F0 s' a' w' → Q .normal a' w') : (Code.region id ops draw).wp P Q a w := by
 simp only [Bool.and_eq_true] at hok
 obtain ⟨rfl, hok⟩ := hok
 have h' : SimE w0 M0 F0 s a { w with drawn := w.drawn + 1 } := by obtain ⟨F, g, h⟩ := h; exact ⟨F, g, h.drew⟩
 refine wp_region_any hm (any_soundD hT hok hQ ops.size (List.range ops.size) _ s a _ (by simp) List.pairwise_lt_range (by simp) (fun i => ?_) (fun j o ho hl => ?_) hs h')
 ·simp only [List.mem_range]
  constructor
  ·intro hi; exact ⟨hi, by simp [Array.getD_eq_getD_getElem?, Array.getElem?_replicate, hi]⟩
  ·exact fun hi => hi.1
 ·have hj := (Array.getElem?_eq_some_iff.1 ho).1
  simp [Array.getD_eq_getD_getElem?, Array.getElem?_replicate, hj] at hl
def lookD (id : Nat) : List (Nat × List Pr) → Option (List Pr)
 | [] => none
 | (i, p) :: ds => if i = id then some p else lookD id ds
def codeD (P : Program) (tab : Tab) (Δ : List (Nat × List Pr)) : Code → (Exit → St → Prop) → St → Prop
 | .skip, Q, s => Q .normal s
 | .region id ops draw, Q, s => match lookD id Δ with
  | some prs => regD P tab (fixAt ops) ops prs 0 ops.toList s (Q .normal)
  | none => regK P tab (!draw || fixedOk ops) ops ops.toList s (Q .normal)
 | .seq a b, Q, s => codeD P tab Δ a (thenA (codeD P tab Δ b Q) Q) s
 | .cond c a b, Q, s => match opv s c with
  | .one (.c (.v (.bool t))) => (t = true → codeD P tab Δ a Q s) ∧ (t = false → codeD P tab Δ b Q s)
  | _ => False
 | .block id c, Q, s => codeD P tab Δ c (blockA id Q) s
 | .exit id, Q, s => Q (.exit id) s
 | .ret, Q, s => Q .ret s
 | .scope c, Q, s => codeD P tab Δ c (scopeA Q) s
 | .loop c, Q, s => loopA P c Q s
 | _, _, _ => False
def okCodeD (Δ : List (Nat × List Pr)) : Code → Bool
 | .region id ops draw => match lookD id Δ with
  | some prs => draw && regOkD ops prs
  | none => !draw || regOk ops
 | .seq a b => okCodeD Δ a && okCodeD Δ b
 | .cond _ a b => okCodeD Δ a && okCodeD Δ b
 | .block _ c => okCodeD Δ c
 | .scope c => okCodeD Δ c
 | .loop c => okCodeD Δ c
 | _ => true
theorem codeD_sound (Δ : List (Nat × List Pr)) (hT : TabOk P tab) (hm : P.follows .mixedOrders = true) : ∀ (c : Code) (Q : Exit → St → Prop) (s : St), okCodeD Δ c = true → codeD P tab Δ c Q s → AWP P c Q s
 | .skip, Q, s, _, h => fun w0 M0 F0 a w hs => wp_skip ⟨s, h, hs⟩
 | .exit id, Q, s, _, h => fun w0 M0 F0 a w hs => wp_exit ⟨s, h, hs⟩
 | .ret, Q, s, _, h => fun w0 M0 F0 a w hs => wp_ret ⟨s, h, hs⟩
 | .region id ops draw, Q, s, hok, h => fun w0 M0 F0 a w hs => by
  simp only [codeD] at h
  simp only [okCodeD] at hok
  split at h
  ·rename_i prs hpr
   obtain ⟨s', h1, h2⟩ := regD_steps ops.toList 0 (by simp) h
   rw [hpr] at hok
   exact region_soundD hT hm hok (by simpa [List.range_eq_range'] using h1) hs (fun a' w' hs' => ⟨s', h2, hs'⟩)
  ·rename_i hpr
   obtain ⟨s', h1, h2⟩ := regK_steps h
   refine region_sound hT hm ?_ h1 hs (fun a' w' hs' => ⟨s', h2, hs'⟩)
   intro hd
   subst hd
   rw [hpr] at hok
   simpa using hok
 | .seq x y, Q, s, hok, h => fun w0 M0 F0 a w hs => by
  simp only [okCodeD, Bool.and_eq_true] at hok
  refine wp_seq (wp_mono (codeD_sound Δ hT hm x _ s hok.1 h w0 M0 F0 a w hs) ?_)
  rintro e a' w' ⟨s', hq, hs'⟩
  cases e with
  | normal => exact codeD_sound Δ hT hm y Q s' hok.2 hq w0 M0 F0 a' w' hs'
  | _ => exact ⟨s', hq, hs'⟩
 | .cond c x y, Q, s, hok, h => fun w0 M0 F0 a w hs => by
  simp only [okCodeD, Bool.and_eq_true] at hok
  simp only [codeD] at h
  split at h
  ·rename_i t ht
   obtain ⟨F, g, hsim⟩ := hs
   have hc := opv_sound hsim c
   rw [ht] at hc
   have hc := hc.c_v
   cases t with
   | true => exact wp_cond_true hc (codeD_sound Δ hT hm x Q s hok.1 (h.1 rfl) w0 M0 F0 a w ⟨F, g, hsim⟩)
   | false => exact wp_cond_false hc (codeD_sound Δ hT hm y Q s hok.2 (h.2 rfl) w0 M0 F0 a w ⟨F, g, hsim⟩)
  ·exact h.elim
 | .block id c, Q, s, hok, h => fun w0 M0 F0 a w hs => by
  refine wp_block (wp_mono (codeD_sound Δ hT hm c _ s hok h w0 M0 F0 a w hs) ?_)
  rintro e a' w' ⟨s', hq, hs'⟩
  cases e with
  | exit id' =>
   simp only [blockA] at hq
   simp only [Exit.inBlock]
   split
   ·rename_i e; rw [if_pos e] at hq; exact ⟨s', hq, hs'⟩
   ·rename_i e; rw [if_neg e] at hq; exact ⟨s', hq, hs'⟩
  | _ => exact ⟨s', hq, hs'⟩
 | .scope c, Q, s, hok, h => fun w0 M0 F0 a w hs => by
  refine wp_scope_straight (wp_mono (codeD_sound Δ hT hm c _ s hok h w0 M0 F0 a w hs) ?_)
  rintro e a' w' ⟨s', hq, hs'⟩
  cases e with
  | goto l => exact hq.elim
  | _ => exact ⟨s', hq, hs'⟩
 | .loop c, Q, s, _, h => h
 | .rangeFunc .., _, _, _, h => h.elim
 | .label _, _, _, _, h => h.elim
 | .goto _, _, _, _, h => h.elim
 | .refuse _, _, _, _, h => h.elim
theorem loopD_rule (Δ : List (Nat × List Pr)) {ι : Type} {c : Code} {Q : Exit → St → Prop} {s : St} (S : ι → St) (I : ι → Prop) (μ : ι → Nat) (i0 : ι) (hI : I i0) (h0 : Wk s (S i0)) (hT : TabOk P tab) (hm : P.follows .mixedOrders = true) (hok : okCodeD Δ c = true)
  (round : ∀ i, I i → codeD P tab Δ c (thenA (fun s' => ∃ j, I j ∧ μ j < μ i ∧ Wk s' (S j)) Q) (S i)) : @LoopK P c s ⟨Q⟩ :=
 loop_rule (ι := {i : ι // I i}) (fun i => S i.1) (fun i => μ i.1) ⟨i0, hI⟩ h0 (fun i => AWP.mono (codeD_sound Δ hT hm c _ _ hok (round i.1 i.2)) (fun e s hq => by
  cases e with
  | normal => obtain ⟨j, h1, h2, h3⟩ := hq; exact ⟨⟨j, h1⟩, h3, h2⟩
  | _ => exact hq))
def regDX (P : Program) (tab : Tab) (x : Nat → Bool) (ops : Array Oper) (prs : List Pr) (n : Nat) (l : List Oper) (s : St) [κ : Kn] : Prop := regD P tab x ops prs n l s κ.default
def pickD (P : Program) (tab : Tab) (o : Option (List Pr)) (ops : Array Oper) (draw : Bool) (s : St) [κ : Kn] : Prop := match o with
 | some prs => @regDX P tab (fixAt ops) ops prs 0 ops.toList s κ
 | none => @regX P tab (!draw || fixedOk ops) ops ops.toList s κ
section eqs
variable {s : St} {k : St → Prop} {Q : Exit → St → Prop} {κ κ' : Kn} {Δ : List (Nat × List Pr)} {prs : List Pr} {n : Nat}
theorem codeD_skip : codeD P tab Δ .skip Q s = Q .normal s := rfl
theorem codeD_region {id : Nat} {ops : Array Oper} {draw : Bool} : codeD P tab Δ (.region id ops draw) Q s = @pickD P tab (lookD id Δ) ops draw s ⟨Q .normal⟩ := by
 simp only [codeD, pickD]; split <;> rfl
theorem pickD_some {ops : Array Oper} {draw : Bool} : @pickD P tab (some prs) ops draw s κ = @regDX P tab (fixAt ops) ops prs 0 ops.toList s κ := rfl
theorem pickD_text {ops : Array Oper} : @pickD P tab none ops false s κ = @regX P tab true ops ops.toList s κ := rfl
theorem pickD_draw {ops : Array Oper} : @pickD P tab none ops true s κ = @regX P tab (fixedOk ops) ops ops.toList s κ := rfl
theorem lookD_nil {id : Nat} : lookD id [] = none := rfl
theorem lookD_cons {id i : Nat} {p : List Pr} {ds : List (Nat × List Pr)} : lookD id ((i, p) :: ds) = if i = id then some p else lookD id ds := rfl
theorem codeD_seq {a b : Code} : codeD P tab Δ (.seq a b) Q s = codeD P tab Δ a (thenA (codeD P tab Δ b Q) Q) s := rfl
theorem codeD_cond {c : Operand} {a b : Code} : codeD P tab Δ (.cond c a b) Q s = @condK (opv s c) s ⟨fun s => codeD P tab Δ a Q s⟩ ⟨fun s => codeD P tab Δ b Q s⟩ := rfl
theorem codeD_block {id : Nat} {c : Code} : codeD P tab Δ (.block id c) Q s = codeD P tab Δ c (blockA id Q) s := rfl
theorem codeD_exit {id : Nat} : codeD P tab Δ (.exit id) Q s = Q (.exit id) s := rfl
theorem codeD_ret : codeD P tab Δ .ret Q s = Q .ret s := rfl
theorem codeD_scope {c : Code} : codeD P tab Δ (.scope c) Q s = codeD P tab Δ c (scopeA Q) s := rfl
theorem codeD_loop {c : Code} : codeD P tab Δ (.loop c) Q s = @LoopK P c s ⟨Q⟩ := rfl
theorem regDX_nil {bx : Nat → Bool} {ops : Array Oper} : @regDX P tab bx ops prs n [] s κ = κ.default s := rfl
theorem regDX_cons {bx : Nat → Bool} {ops : Array Oper} {o : Oper} {os : List Oper} : @regDX P tab bx ops prs n (o :: os) s κ = (sepK s n prs ∧ @regX P tab (bx n) ops [o] s ⟨fun s' => @regDX P tab bx ops prs (n + 1) os s' κ⟩) := rfl
theorem sepK_nil : sepK s n [] = True := rfl
theorem sepK_cons {p : Pr} : sepK s n (p :: prs) = ((if p.j = n then disj (refsAt s p.a) (refsAt s p.b) else True) ∧ sepK s n prs) := rfl
theorem refsAt_nil : refsAt s [] = [] := rfl
theorem refsAt_cons {t : Tmp} {ts : List Tmp} : refsAt s (t :: ts) = (s.sl t).refs ++ refsAt s ts := rfl
theorem refs_own {l m : Nat} : (AV.one (.own l m)).refs = [l] := rfl
theorem refs_ptr {l m : Nat} : (AV.one (.ptr l m)).refs = [l] := rfl
theorem refs_c {x : C} : (AV.one (.c x)).refs = [] := rfl
theorem refs_nil : (AV.one .nil).refs = [] := rfl
theorem refs_ip {cs : List C} : (AV.one (.ip cs)).refs = [] := rfl
theorem refs_ep {l m i o : Nat} : (AV.one (.ep l m i o)).refs = [l] := rfl
theorem refs_agg {as : List AC} : (AV.agg as).refs = as.flatMap AC.refs := rfl
theorem refs_tup {vs : List AV} : (AV.tup vs).refs = [] := rfl
theorem refs_any : AV.any.refs = [] := rfl
theorem crefs_c {x : C} : (AC.c x).refs = [] := rfl
theorem crefs_own {l m : Nat} : (AC.own l m).refs = [l] := rfl
theorem disj_nil {bs : List Nat} : disj [] bs = True := rfl
theorem disj_cons {l : Nat} {ls bs : List Nat} : disj (l :: ls) bs = (notIn l bs ∧ disj ls bs) := rfl
theorem notIn_nil {l : Nat} : notIn l [] = True := rfl
theorem notIn_cons {l b : Nat} {bs : List Nat} : notIn l (b :: bs) = (l ≠ b ∧ notIn l bs) := rfl
end eqs
attribute [go_sem ↓] codeD_skip codeD_region codeD_seq codeD_cond codeD_block codeD_exit codeD_ret codeD_scope codeD_loop
attribute [go_sem] pickD_some pickD_text pickD_draw lookD_nil lookD_cons regDX_nil regDX_cons sepK_nil sepK_cons refsAt_nil refsAt_cons refs_own refs_ptr refs_c refs_nil refs_ip refs_ep refs_agg refs_tup refs_any crefs_c crefs_own disj_nil disj_cons notIn_nil notIn_cons List.flatMap_cons List.flatMap_nil
end Go.Ai
/- Contracts with an owned result, or a row that is given and taken, of code in which drawn regions write. -/
namespace Go.Ai
open Go.RowKit
variable {P : Program} {tab : Tab}
theorem satF_of_codeD (Δ : List (Nat × List Pr)) (ds : List AV) {r : AV} (hds : joinR ds = r) (htup : ∀ vs, r = .tup vs → ds = vs) (hT : TabOk P tab) (hm : P.follows .mixedOrders = true) {f : FuncId} {fn : Func} {c : Code} {args : List AV} {rs : List ResultVar} {n : Nat} (hf : P.funcs[f]? = some fn) (hb : fn.body = some c) (hr : fn.results.toList = rs) (hn : fn.ntmps = n) (hname : fn.name ≠ "runtime.NumGoroutine")
  (hok : okCodeD Δ c = true) (hlen : args.length ≤ n) (h : codeD P tab Δ c (retFA tab rs ds) (mk n (enumA 0 args) [])) : SatF P f args r := by
 subst hr hn
 refine ⟨⟨fn, hf, hname, by rw [hb]; simp⟩, fun w F us hF hrep => ?_⟩
 refine calls_of_wp hf hb (wp_mono (codeD_sound Δ hT hm c _ _ hok h w ⟨[], []⟩ F _ w ⟨F, g0, entry_sim hF hlen hrep⟩) ?_)
 rintro e a' w' ⟨s', hq, F1, g1, hs'⟩
 have main : retFS tab fn.results.toList ds s' → ∃ v, (results fn a'.tmps).run P w' = .ok v w' ∧ ∃ v' S, Ending.returned v = .returned v' ∧ Below w.heap.size w w' ∧ OwnR w' r v' S ∧ S.Nodup ∧ ∀ b, b ∈ S → w.heap.size ≤ b ∧ b < w'.heap.size := by
  intro hq
  unfold retFS at hq
  split at hq
  case h_2 => exact hq.elim
  rename_i p vs ho
  obtain ⟨hp, hret⟩ := hq
  obtain ⟨us', hrun, hargs⟩ := results_run hT hs' rfl ho hp
  obtain ⟨Z, hZ⟩ : ∃ Z : List Nat, ∀ b, b ∈ Z ↔ w.heap.size ≤ b ∧ b < w'.heap.size := ⟨(List.range w'.heap.size).filter (fun b => decide (w.heap.size ≤ b)), fun b => by simp [and_comm]⟩
  have hlast : Last w' F1 Z s'.lb [] vs us' := ⟨g1, hs'.bare, by simp, fun l B hl b hb => ⟨by simp, (hZ b).2 ⟨(hs'.nw l B hl b hb).1.resolve_right (fun hq => by cases hq), (hs'.nw l B hl b hb).2⟩⟩, by simp, hargs⟩
  obtain ⟨lb', S, _, hL, hown⟩ := retVs_sound (fun _ _ h => h) hret hlast
  rw [List.nil_append] at hL
  obtain ⟨_, _, k1, _, k2, _⟩ := hL.ex
  exact ⟨_, hrun, _, S, rfl, ⟨hs'.os, hs'.tape, hs'.output, hs'.size, fun k hk => hs'.block k hk (fun h => by cases h)⟩, ownR_of_Rs hds htup hown, k1, fun b hb => (hZ b).1 (k2 b hb)⟩
 cases e with
 | normal => exact ⟨hs'.df, main hq⟩
 | ret => exact ⟨hs'.df, main hq⟩
 | _ => exact hq.elim
theorem satA_of_codeD (Δ : List (Nat × List Pr)) (hT : TabOk P tab) (hm : P.follows .mixedOrders = true) {f : FuncId} {fn : Func} {c : Code} {pre post : List AV} {e : TypeId} {sz : Nat} {rows rows' : List (List AC)} {rest : List AV} {rs : List ResultVar} {n : Nat} (hf : P.funcs[f]? = some fn) (hb : fn.body = some c) (hr : fn.results.toList = rs) (hn : fn.ntmps = n) (hname : fn.name ≠ "runtime.NumGoroutine")
  (hok : okCodeD Δ c = true) (hlen : pre.length + post.length + 1 ≤ n) (hsz : 0 < sz) (hpl : rest.all plainR1 = true) (hcl : clR rows) (hcl' : clR rows') (hnd : noD rows = true) (hnd' : noD rows' = true)
  (h : codeD P tab Δ c (retAA tab rs e sz rows' rest) (mk n (enumA 0 (pre ++ .one (.own 9001 rows.length) :: post)) [(9001, .arr e sz rows false)])) : SatA P f pre post e sz rows rows' rest := by
 subst hr hn
 refine ⟨⟨fn, hf, hname, by rw [hb]; simp⟩, hsz, hpl, hcl, hcl', hnd, hnd', fun w F us1 v0 us2 S hF h1 h2 hrow hS hSf => ?_⟩
 have one : ∀ l B, lookB [(9001, LB.arr e sz rows false)] l = some B → l = 9001 ∧ B = .arr e sz rows false := by
  intro l B hl
  simp only [lookB] at hl
  split at hl
  ·exact ⟨‹_›, (Option.some.inj hl).symm⟩
  ·cases hl
 have K0 : ∀ {lb : Lk} {g : Gh}, Keeps noLk g0 lb g := fun {lb} {g} => ⟨fun l B hl => by simp [noLk] at hl⟩
 have hone : v0.oneCell' = true := by
  obtain ⟨_, _, xs, _, hown, _⟩ := hrow
  rcases hown.2 with ⟨e1, _⟩ | ⟨_, _, _, e1, _⟩ <;> (have e1 : v0 = _ := e1; rw [e1]; rfl)
 have hhd : RepAV w F (lookB [(9001, LB.arr e sz rows false)]) (gA v0 S) (.one (.own 9001 rows.length)) v0 := by
  simp only [RepAV, RepAC]
  exact ⟨hone, _, by simp [lookB]; rfl, by simp [okOwnB, gA]⟩
 have hA : RepAVs w F (lookB [(9001, LB.arr e sz rows false)]) (gA v0 S) (pre ++ .one (.own 9001 rows.length) :: post) (us1 ++ v0 :: us2) :=
  RepAVs.appendL (RepAVs.mono (Stays.refl _ _) K0 _ _ h1) ⟨v0, us2, rfl, hhd, RepAVs.mono (Stays.refl _ _) K0 _ _ h2⟩
 have hal := RepAVs.len _ _ hA
 have hds : ∀ b, b ∈ blkOf v0 → b ∈ S := by
  obtain ⟨_, _, _, _, _, _, hd⟩ := hrow
  intro b hb
  have : S = blkOf v0 ++ _ := hd
  rw [this]; simp [hb]
 have hsim : Sim w ⟨S, []⟩ F F (gA v0 S) (mk fn.ntmps (enumA 0 (pre ++ .one (.own 9001 rows.length) :: post)) [(9001, .arr e sz rows false)] []) { tmps := (us1 ++ v0 :: us2).toArray ++ Array.replicate (fn.ntmps - (us1 ++ v0 :: us2).toArray.size) undef, defers := [] } w := {
  sz := by
   simp only [mk_n, Array.size_append, List.size_toArray, Array.size_replicate]
   rw [List.length_append, List.length_cons] at hal
   omega
  df := rfl
  sl := fun i => by
   have e : (us1 ++ v0 :: us2).toArray ++ Array.replicate (fn.ntmps - (us1 ++ v0 :: us2).toArray.size) undef = ((us1 ++ v0 :: us2) ++ List.replicate (fn.ntmps - (us1 ++ v0 :: us2).length) undef).toArray := by simp
   simp only [mk_sl, mk_lb, e, getD_toArray]
   rcases enumA_rep (pre ++ .one (.own 9001 rows.length) :: post) (us1 ++ v0 :: us2) 0 i (List.replicate (fn.ntmps - (us1 ++ v0 :: us2).length) undef) hA with h | ⟨_, _, h⟩
   ·rw [h]; simp only [RepAV]
   ·exact h
  gh := rfl
  lb := fun l B hl => by
   obtain ⟨rfl, rfl⟩ := one l B hl
   exact clR_row (g := gA v0 S) (l := 0) hcl rfl rfl hrow
  so := fun l B hl => by
   obtain ⟨rfl, rfl⟩ := one l B hl
   simp only [SoftOk]
   exact ⟨fun b hb o _ => (hSf b (hds b hb)).2 o, fun _ _ b hb o => (hSf b hb).2 o⟩
  nd := fun l B hl => hS
  dj := fun l l' B B' hne hl hl' => by
   obtain ⟨rfl, _⟩ := one l B hl
   obtain ⟨rfl, _⟩ := one l' B' hl'
   exact absurd rfl hne
  nw := fun l B hl b hb => ⟨.inr hb, (hSf b hb).1⟩
  f0 := fun _ _ h => h
  f1 := fun _ _ h => .inl h
  f2 := hF.lt
  tb := hF.tb.start (fun b hb => (hSf b hb).2)
  os := rfl
  tape := rfl
  output := rfl
  size := Nat.le_refl _
  block := fun _ _ _ => rfl }
 refine calls_of_wp hf hb (wp_mono (codeD_sound Δ hT hm c _ _ hok h w ⟨S, []⟩ F _ w ⟨F, gA v0 S, hsim⟩) ?_)
 rintro ex a' w' ⟨s', hq, F1, g2, hs'⟩
 have main : retAS tab fn.results.toList e sz rows' rest s' → ∃ v, (results fn a'.tmps).run P w' = .ok v w' ∧ ∃ v1 vs F' S', Ending.returned v = .returned (accV v1 vs) ∧ RepAVs w' F' noLk g0 rest vs ∧ RepLB w' F' noLk (gA v1 S') 0 (.arr e sz rows' false) ∧ S'.Nodup ∧
   (∀ b, b ∈ S' → (b ∈ S ∨ w.heap.size ≤ b) ∧ b < w'.heap.size ∧ ∀ o, ¬ F' b o) ∧ (∀ b o, F b o → F' b o) ∧ (∀ b o, F' b o → F b o ∨ w.heap.size ≤ b ∨ b ∈ S) ∧ (∀ b o, F' b o → b < w'.heap.size) ∧
   w'.os = w.os ∧ w'.tape = w.tape ∧ w'.output = w.output ∧ w.heap.size ≤ w'.heap.size ∧ ∀ k, k < w.heap.size → k ∉ S → w'.heap[k]? = w.heap[k]? := by
  intro hq
  unfold retAS at hq
  have jn : ∀ (u : Value) (us : List Value), joinU (u :: us) = accV u us := fun u us => by cases us <;> rfl
  split at hq
  ·rename_i p l k vs ho
   obtain ⟨hp, rfl, hk, hl⟩ := hq
   obtain ⟨us, hrun, hargs⟩ := results_run hT hs' rfl ho hp
   simp only [RepAVs, RepAV] at hargs
   obtain ⟨u, us', rfl, hu, hrest⟩ := hargs
   simp only [RepAC] at hu
   obtain ⟨_, B, hB, hq⟩ := hu
   rw [hl] at hB
   obtain rfl := Option.some.inj hB
   have hux : u = g2.hd l := hq.2 hk
   have hun : ∀ b, b ∈ g2.ds l → ∀ o, ¬ F1 b o := (hs'.so l _ hl).2 rfl hnd'
   refine ⟨_, hrun, u, us', F1, g2.ds l, by rw [jn], plainRs_rep hpl hrest, clR_row (g := g2) (l := l) hcl' hux rfl (hs'.lb l _ hl), hs'.nd l _ hl, fun b hb => ⟨((hs'.nw l _ hl b hb).1).symm, (hs'.nw l _ hl b hb).2, hun b hb⟩, hs'.f0, hs'.f1, hs'.f2, hs'.os, hs'.tape, hs'.output, hs'.size, fun k hk hk' => hs'.block k hk hk'⟩
  ·rename_i p vs ho
   obtain ⟨hp, rfl, rfl⟩ := hq
   obtain ⟨us, hrun, hargs⟩ := results_run hT hs' rfl ho hp
   simp only [RepAVs, RepAV] at hargs
   obtain ⟨u, us', rfl, hu, hrest⟩ := hargs
   simp only [RepAC] at hu
   subst hu
   exact ⟨_, hrun, _, us', F1, [], by rw [jn], plainRs_rep hpl hrest, ⟨hsz, by simp, [], [], ⟨by simp, .inl ⟨rfl, rfl⟩⟩, ⟨rfl, rfl⟩, rfl⟩, by simp, (fun b hb => by cases hb), hs'.f0, hs'.f1, hs'.f2, hs'.os, hs'.tape, hs'.output, hs'.size, fun k hk hk' => hs'.block k hk hk'⟩
  ·exact hq.elim
 cases ex with
 | normal => exact ⟨hs'.df, main hq⟩
 | ret => exact ⟨hs'.df, main hq⟩
 | _ => exact hq.elim
attribute [go_sem] othersK
end Go.Ai
/- Drawn regions in which one call is given a row (the others frozen), what is behind it being free to come first where it names other blocks. Written by mkreg4.py after AiRegion3. -/
namespace Go.Ai
open Go.RowKit
variable {P : Program} {tab : Tab} {ops : Array Oper} {w0 : World} {M0 : Ms} {F0 : Fz}
theorem actsAF_form {o : Oper} {s s' : St} (h : ActsAF P o s s') : ∃ φ v, s' = s.app φ o.dst v ∧ (∃ A, FormU.At φ A ∧ (∀ k, A k → (s.lb k = none ∧ o.dst = some k) ∨ ∃ x, x ∈ o.op.operands.toList ∧ k ∈ (opv s x).refs) ∧ ∀ lb k, φ lb k = none → lb k = none) ∧
  ∀ t, AgreeE ops o s t → ActsAF P o t (t.app φ o.dst v) := by
 obtain ⟨c, f, fid, ds, k, e, sz, rows, rows', rest, d, hop, hcal, hfn, hdst, hview, hsat, hacc, hd, hf, rfl⟩ := h
 have O : ∀ t, AgreeE ops o s t → ∀ x, x ∈ o.op.operands.toList → opv t x = opv s x := fun t ha x hx => opv_same (fun k hk => ha.sl k (looks_ops hk)) hx
 have args : ∀ t, AgreeE ops o s t → c.args.toList.map (opv t) = c.args.toList.map (opv s) := fun t ha => List.map_congr_left (fun x hx => O t ha x (by rw [hop]; exact call_operands hx))
 have look : ∀ t, AgreeE ops o s t → ∀ v, v ∈ c.args.toList.map (opv s) → ∀ l, l ∈ v.refs → t.lb l = s.lb l := fun t ha v hv l hl => by
  obtain ⟨x, hx, rfl⟩ := List.mem_map.1 hv
  exact ha.lb x (by rw [hop]; exact call_operands hx) l hl
 generalize hvs : c.args.toList.map (opv s) = vs at hview hacc args look
 have hops : ∀ v, v ∈ vs → ∃ x, x ∈ o.op.operands.toList ∧ opv s x = v := fun v hv => by
  rw [← hvs] at hv
  obtain ⟨x, hx, rfl⟩ := List.mem_map.1 hv
  exact ⟨x, by rw [hop]; exact call_operands hx, rfl⟩
 have hacc0 := hacc
 unfold Ai.accF at hacc
 split at hacc
 case h_2 => exact hacc.elim
 rename_i l n hvk
 obtain ⟨hn, hl, hlo⟩ := hacc
 have hdrop : ∀ t : St, dropA vs k t = t.put l .dead := fun t => by unfold dropA; rw [hvk]
 have happ : ∀ t : St, (((dropA vs k (t.frzs (othersK vs k))).put d (.arr e sz rows' false)).set o.dst (accR d rows'.length rest)) = t.app (fun lb => putL d (.arr e sz rows' false) (putL l .dead (frzL (othersK vs k) lb))) o.dst (accR d rows'.length rest) := fun t => by
  rw [hdrop, frzs_eq]; rfl
 refine ⟨fun lb => putL d (.arr e sz rows' false) (putL l .dead (frzL (othersK vs k) lb)), accR d rows'.length rest, happ s, ⟨fun j => j = d ∨ j = l ∨ j ∈ othersK vs k, ⟨fun j x => if j = d then some (.arr e sz rows' false) else if j = l then some .dead else if j ∈ othersK vs k then x.map LB.frz else x, fun lb j => by simp only [putL, frzL_at], fun j hj x => ?_⟩, fun j hj => ?_, fun lb j hj => ?_⟩, fun t ha => ?_⟩
 ·simp only [not_or] at hj
  simp [hj.1, hj.2.1, hj.2.2]
 ·rcases hj with rfl | rfl | hj
  ·exact .inl ⟨hf, hd⟩
  ·obtain ⟨x, hx, e⟩ := hops _ (List.mem_of_getElem? hvk)
   exact .inr ⟨x, hx, by rw [e]; simp [AV.refs, AC.refs]⟩
  ·unfold othersK at hj
   have hj : ∃ v, v ∈ vs ∧ j ∈ v.owns := by
    rcases List.mem_append.1 hj with hj | hj
    ·obtain ⟨v, hv, hj⟩ := List.mem_flatMap.1 hj
     exact ⟨v, List.mem_of_mem_take hv, hj⟩
    ·obtain ⟨v, hv, hj⟩ := List.mem_flatMap.1 hj
     exact ⟨v, List.mem_of_mem_drop hv, hj⟩
   obtain ⟨v, hv, hj⟩ := hj
   obtain ⟨x, hx, e⟩ := hops v hv
   exact .inr ⟨x, hx, by rw [e]; exact owns_refs _ _ hj⟩
 ·simp only [putL, frzL_at] at hj
  split at hj
  ·cases hj
  ·split at hj
   ·cases hj
   ·split at hj <;> simpa using hj
 ·refine ⟨c, f, fid, ds, k, e, sz, rows, rows', rest, d, hop, hcal, by rw [O t ha f (by rw [hop]; exact call_callee hcal)]; exact hfn, by rw [ha.n]; exact hdst, ?_, hsat, ?_, hd, ha.dn d hd hf, ?_⟩
  ·rw [args t ha]
   exact viewAVs_congr _ _ (fun v hv l hl => by rw [look t ha v hv l hl]; exact eqv.refl _) hview
  ·rw [args t ha]
   unfold Ai.accF
   rw [hvk]
   exact ⟨hn, by rw [look t ha _ (List.mem_of_getElem? hvk) l (by simp [AV.refs, AC.refs])]; exact hl, hlo⟩
  ·rw [args t ha]; exact (happ t).symm
theorem swapH {x y : Oper} {s s1 s2 : St} (hh : Here s) (hap : x.apart ops y = true) (hsep : ∀ z, z ∈ x.op.operands.toList → ∀ z', z' ∈ y.op.operands.toList → ∀ l, l ∈ (opv s z).refs → l ∉ (opv s z').refs)
  (h1 : Want ops x s true ∧ ActsAF P x s s1) (h2 : Step P tab ops y s1 s2) : ∃ s1', Step P tab ops y s s1' ∧ Want ops x s1' true ∧ ActsAF P x s1' s2 := by
 obtain ⟨a1, a2, a3⟩ := Oper.apart_spec hap
 have nx : ∀ k, k ∈ y.looksAt ops → x.dst ≠ some k := fun k hk e => a1 k e hk
 have ny : ∀ k, k ∈ x.looksAt ops → y.dst ≠ some k := fun k hk e => a3 k e hk
 have hne : ∀ t, x.dst = some t → y.dst ≠ some t := fun t e => a2 t e
 obtain ⟨hw, h1⟩ := h1
 obtain ⟨φ, v, rfl, ⟨A, A1, A2, A3⟩, k1⟩ := actsAF_form (ops := ops) h1
 obtain ⟨ψ, u, rfl, F2, k2⟩ := step_form h2
 have Oy : ∀ z, z ∈ y.op.operands.toList → opv (s.app φ x.dst v) z = opv s z := fun z hz => opv_same (fun k hk => app_sl _ _ _ _ _ (nx k (looks_ops hk))) hz
 obtain ⟨B, B1, B2, B3⟩ := form_at F2
 have B2' : ∀ k, B k → (s.lb k = none ∧ y.dst = some k) ∨ ∃ z, z ∈ y.op.operands.toList ∧ k ∈ (opv s z).refs := by
  intro k hk
  rcases B2 k hk with ⟨h, hd⟩ | ⟨z, hz, hl⟩
  ·rw [app_lb] at h; exact .inl ⟨A3 _ _ h, hd⟩
  ·rw [Oy z hz] at hl; exact .inr ⟨z, hz, hl⟩
 have hdis : ∀ k, A k → ¬ B k := by
  intro k hA hB
  rcases A2 k hA with ⟨hn, hd⟩ | ⟨z, hz, hl⟩
  ·rcases B2' k hB with ⟨_, hd'⟩ | ⟨z', hz', hl'⟩
   ·exact hne k hd hd'
   ·exact here_opv hh z' k hl' hn
  ·rcases B2' k hB with ⟨hn', _⟩ | ⟨z', hz', hl'⟩
   ·exact here_opv hh z k hl hn'
   ·exact hsep z hz z' hz' k hl hl'
 have offA : ∀ (lb : Lk) k, ¬ A k → φ lb k = lb k := by
  intro lb k hk
  obtain ⟨f, f1, f2⟩ := A1
  rw [f1, f2 k hk]
 have offB : ∀ (lb : Lk) k, ¬ B k → ψ lb k = lb k := by
  intro lb k hk
  obtain ⟨f, f1, f2⟩ := B1
  rw [f1, f2 k hk]
 have G2 : AgreeE ops y (s.app φ x.dst v) s := by
  refine ⟨fun k hk => (app_sl _ _ _ _ _ (nx k hk)).symm, fun z hz l hl => ?_, fun d hd hn => ?_, (app_n _ _ _ _).symm⟩
  ·rw [Oy z hz] at hl
   rw [app_lb]
   refine (offA _ l (fun hA => ?_)).symm
   rcases A2 l hA with ⟨hn, _⟩ | ⟨z', hz', hl'⟩
   ·exact here_opv hh z l hl hn
   ·exact hsep z' hz' z hz l hl' hl
  ·rw [app_lb] at hn; exact A3 _ _ hn
 have S2 := k2 s G2
 have G1 : AgreeE ops x s (s.app ψ y.dst u) := by
  refine ⟨fun k hk => app_sl _ _ _ _ _ (ny k hk), fun z hz l hl => ?_, fun d hd hn => ?_, app_n _ _ _ _⟩
  ·rw [app_lb]
   refine offB _ l (fun hB => ?_)
   rcases B2' l hB with ⟨hn, _⟩ | ⟨z', hz', hl'⟩
   ·exact here_opv hh z l hl hn
   ·exact hsep z hz z' hz' l hl hl'
  ·rw [app_lb, offB _ d (fun hB => ?_)]
   ·exact hn
   ·rcases B2' d hB with ⟨_, hd'⟩ | ⟨z', hz', hl'⟩
    ·exact hne d hd hd'
    ·exact here_opv hh z' d hl' hn
 have S1 := k1 _ G1
 refine ⟨_, S2, want_congr (fun k hk => app_sl _ _ _ _ _ (ny k hk)) hw, ?_⟩
 rw [app_comm s φ ψ x.dst y.dst v u hne (at_comm A1 B1 hdis s.lb)]
 exact S1
def rowOk (ops : Array Oper) (prs : List Pr) (g : Nat) : Bool := match ops.toList[g]? with
 | none => true
 | some q => (List.range ops.size).all fun j => j == g || (if j < g then ((befsA [] ops.toList).getD g 0).testBit j else ((befsA [] ops.toList).getD j 0).testBit g || prs.any fun p => p.i == g && p.j == j)
theorem rowOk_spec {prs : List Pr} {g j : Nat} (h : rowOk ops prs g = true) {q o : Oper} (hq : ops[g]? = some q) (ho : ops[j]? = some o) : (j < g → ((befsA [] ops.toList).getD g 0).testBit j = true) ∧ (g < j → ((befsA [] ops.toList).getD j 0).testBit g = true ∨ ∃ r, r ∈ prs ∧ r.i = g ∧ r.j = j) := by
 have hq' : ops.toList[g]? = some q := by simpa using hq
 have hj : j < ops.size := (Array.getElem?_eq_some_iff.1 ho).1
 unfold rowOk at h
 rw [hq'] at h
 have := List.all_eq_true.1 h j (List.mem_range.2 hj)
 simp only [Bool.or_eq_true, beq_iff_eq] at this
 refine ⟨fun hlt => ?_, fun hlt => ?_⟩
 ·rcases this with h | h
  ·omega
  ·rwa [if_pos hlt] at h
 ·rcases this with h | h
  ·omega
  ·rw [if_neg (by omega)] at h
   simp only [Bool.or_eq_true] at h
   refine h.imp id (fun h => ?_)
   obtain ⟨p, hp, hq⟩ := List.any_eq_true.1 h
   simp only [Bool.and_eq_true, beq_iff_eq] at hq
   exact ⟨p, hp, hq.1, hq.2⟩
def StepH (P : Program) (tab : Tab) (x : Bool) (y : Prop) (ops : Array Oper) (o : Oper) (s s' : St) : Prop := StepX P tab x ops o s s' ∨ (y ∧ Want ops o s true ∧ ActsAF P o s s')
theorem stepH_sound (hT : TabOk P tab) {x : Bool} {y : Prop} {s s' : St} {a : Act} {w : World} (h : SimE w0 M0 F0 s a w) {o : Oper} (hs : StepH P tab x y ops o s s') {K : Act → World → Prop} {Q : Exit → Act → World → Prop} (hK : ∀ a' w', SimE w0 M0 F0 s' a' w' → K a' w') :
  if Region.wanted o (yielded ops a.tmps) then o.wp P a w K Q ∨ (o.asks P a w ∧ LetsOut Q) else K (a.put o.dst undef) w := by
 rcases hs with hs | ⟨_, hw, hm⟩
 ·exact stepX_sound hT h hs hK
 ·obtain ⟨F, g, h⟩ := h
  rw [want_sound h hw]
  exact .inl (actsAF_sound h hm hK)
theorem stepH_live (hT : TabOk P tab) {x : Bool} {y : Prop} {s s' : St} (hl : ∃ a w, SimE w0 M0 F0 s a w) {o : Oper} (hs : StepH P tab x y ops o s s') : ∃ a w, SimE w0 M0 F0 s' a w := by
 obtain ⟨a, w, h⟩ := hl
 have := stepH_sound (Q := fun _ _ _ => False) hT h hs (K := fun a' w' => SimE w0 M0 F0 s' a' w') (fun _ _ h => h)
 split at this
 ·rcases this with h | ⟨_, _, _, h⟩
  ·unfold Oper.wp at h
   generalize (execOp a.eval o).run P w = r at h
   cases r with
   | ok n w' =>
    cases n <;> simp only [Oper.upon] at h
    case value v => exact ⟨_, _, h⟩
    case skip => exact ⟨_, _, h⟩
    case defer d => exact ⟨_, _, h⟩
    case enter f args =>
     obtain ⟨e, w'', fr, hR, _⟩ := h []
     cases e with
     | returned v => exact ⟨_, _, hR⟩
     | panicked c => exact hR.elim
     | outgrown => obtain ⟨_, _, hq⟩ := hR; exact hq.elim
    case row row args =>
     obtain ⟨v, w'', hR, _⟩ := h default []
     exact ⟨_, _, hR⟩
   | halt x w' => cases x <;> simp only [Oper.upon] at h
  ·exact h.elim
 ·exact ⟨_, _, this⟩
theorem actsAF_keep {o : Oper} {s s' : St} (h : ActsAF P o s s') {k : Tmp} (hk : o.dst ≠ some k) : s'.sl k = s.sl k := by
 obtain ⟨φ, v, rfl, _, _⟩ := actsAF_form (ops := #[]) h
 exact app_sl _ _ _ _ _ hk
def StepsH (P : Program) (tab : Tab) (fx : Nat → Bool) (g : Nat) (ops : Array Oper) (prs : List Pr) : List Nat → St → St → Prop
 | [], s, s' => s' = s
 | i :: is, s, s' => ∃ o s1, ops[i]? = some o ∧ SepAt prs i s ∧ StepH P tab (fx i) (i = g) ops o s s1 ∧ StepsH P tab fx g ops prs is s1 s'
theorem stepsH_append {fx : Nat → Bool} {g : Nat} {prs : List Pr} : ∀ (l m : List Nat) (s s' : St), StepsH P tab fx g ops prs (l ++ m) s s' ↔ ∃ s1, StepsH P tab fx g ops prs l s s1 ∧ StepsH P tab fx g ops prs m s1 s'
 | [], m, s, s' => by simp [StepsH]
 | i :: l, m, s, s' => by
  simp only [List.cons_append, StepsH]
  constructor
  ·rintro ⟨o, s1, ho, hsep, h1, h2⟩
   obtain ⟨s2, k1, k2⟩ := (stepsH_append l m s1 s').1 h2
   exact ⟨s2, ⟨o, s1, ho, hsep, h1, k1⟩, k2⟩
  ·rintro ⟨s2, ⟨o, s1, ho, hsep, h1, k1⟩, k2⟩
   exact ⟨o, s1, ho, hsep, h1, (stepsH_append l m s1 s').2 ⟨s2, k1, k2⟩⟩
theorem stepsH_keep {fx : Nat → Bool} {g : Nat} {prs : List Pr} {k : Tmp} : ∀ (pre : List Nat) (s sm : St), (∀ p, p ∈ pre → fx p = false) → (∀ p q, p ∈ pre → ops[p]? = some q → q.dst ≠ some k) → StepsH P tab fx g ops prs pre s sm → sm.sl k = s.sl k
 | [], s, sm, _, _, h => by simp only [StepsH] at h; rw [h]
 | p :: pre, s, sm, hx, hd, h => by
  obtain ⟨q, sp, hq, _, hp, h1⟩ := h
  have hkp : sp.sl k = s.sl k := by
   rcases hp with (hp | h) | hp
   ·exact step_keep hp (hd p q (by simp) hq)
   ·rw [hx p (by simp)] at h; cases h.1
   ·exact actsAF_keep hp.2.2 (hd p q (by simp) hq)
  rw [stepsH_keep pre sp sm (fun p' hp' => hx p' (by simp [hp'])) (fun p' q' hp' => hd p' q' (by simp [hp'])) h1, hkp]
theorem bubbleH (hT : TabOk P tab) {prs : List Pr} (hok : regOkD ops prs = true) {fx : Nat → Bool} {g : Nat} {o : Oper} {j : Nat} (ho : ops[j]? = some o) : ∀ (pre : List Nat) (s sm sn : St), (∃ a w, SimE w0 M0 F0 s a w) → pre.Pairwise (· < ·) → (∀ p, p ∈ pre → p < j) →
  (∀ p q, p ∈ pre → ops[p]? = some q → commOk ops q o = true ∨ ∃ r, r ∈ prs ∧ r.i = p ∧ r.j = j) → (∀ p, p ∈ pre → fx p = false) → (∀ p q, p ∈ pre → p = g → ops[p]? = some q → ∃ r, r ∈ prs ∧ r.i = p ∧ r.j = j) →
  StepsH P tab fx g ops prs pre s sm → SepAt prs j sm → Step P tab ops o sm sn → ∃ s1, Step P tab ops o s s1 ∧ StepsH P tab fx g ops prs pre s1 sn
 | [], s, sm, sn, _, _, _, _, _, _, h1, _, h2 => by simp only [StepsH] at h1; subst h1; exact ⟨sn, h2, rfl⟩
 | p :: pre, s, sm, sn, hl, hpw, hlt, hc, hx, hgp, h1, hsep, h2 => by
  have hall := h1
  obtain ⟨q, sp, hq, hsepp, hp, h1⟩ := h1
  have hpw' := List.pairwise_cons.1 hpw
  have hap : ∀ p' q', p' ∈ p :: pre → ops[p']? = some q' → q'.apart ops o = true := by
   intro p' q' hp' hq'
   rcases hc p' q' hp' hq' with h | ⟨r, hr, e1, e2⟩
   ·simp only [commOk, Bool.and_eq_true] at h; exact h.1.1
   ·exact (prOk_spec hok hr (by rw [e1]; exact hq') (by rw [e2]; exact ho)).2.1
  obtain ⟨s1', k1, k2⟩ := bubbleH hT hok ho pre sp sm sn (stepH_live hT hl hp) hpw'.2 (fun p' hp' => hlt p' (by simp [hp'])) (fun p' q' hp' => hc p' q' (by simp [hp'])) (fun p' hp' => hx p' (by simp [hp'])) (fun p' q' hp' => hgp p' q' (by simp [hp'])) h1 hsep h2
  have hsw : ∃ s1, Step P tab ops o s s1 ∧ StepH P tab (fx p) (p = g) ops q s1 s1' := by
   rcases hp with (hp | h) | hp
   ·have hst : ∃ s1, Step P tab ops o s s1 ∧ Step P tab ops q s1 s1' := by
     rcases hc p q (by simp) hq with h | ⟨r, hr, e1, e2⟩
     ·exact swap (here_of_sim hl) h hp k1
     ·obtain ⟨_, g2, g3, g4, g5, g6⟩ := prOk_spec hok hr (by rw [e1]; exact hq) (by rw [e2]; exact ho)
      refine swapE (here_of_sim hl) g2 (fun z hz z' hz' l hl1 hl2 => ?_) hp k1
      obtain ⟨t, ht, hlt1⟩ := opv_refs hz hl1
      obtain ⟨t', ht', hlt2⟩ := opv_refs hz' hl2
      have ka : ∀ k, k ∈ r.a → s.sl k = sm.sl k := fun k hk => (stepsH_keep (p :: pre) s sm hx (fun p' q' hp' hq' => by
       have hle : r.i ≤ p' := by
        rw [e1]
        rcases List.mem_cons.1 hp' with h | h
        ·omega
        ·have := hpw'.1 p' h; omega
       exact slotsOk_spec g3 hle hq' k (looks_ops (by rw [g5]; exact hk))) hall).symm
      have kb : ∀ k, k ∈ r.b → s.sl k = sm.sl k := fun k hk => (stepsH_keep (p :: pre) s sm hx (fun p' q' hp' hq' e => by
       exact (Oper.apart_spec (hap p' q' hp' hq')).1 k e (looks_ops (by rw [g6]; exact hk))) hall).symm
      refine hsep r hr e2 l ?_ ?_
      ·rw [← refsAt_congr ka]
       exact List.mem_flatMap.2 ⟨t, by rw [← g5]; exact ht, hlt1⟩
      ·rw [← refsAt_congr kb]
       exact List.mem_flatMap.2 ⟨t', by rw [← g6]; exact ht', hlt2⟩
    obtain ⟨s1, j1, j2⟩ := hst
    exact ⟨s1, j1, .inl (.inl j2)⟩
   ·rw [hx p (by simp)] at h; cases h.1
   ·obtain ⟨r, hr, e1, e2⟩ := hgp p q (by simp) hp.1 hq
    obtain ⟨_, g2, g3, g4, g5, g6⟩ := prOk_spec hok hr (by rw [e1]; exact hq) (by rw [e2]; exact ho)
    have hsw : ∃ s1, Step P tab ops o s s1 ∧ Want ops q s1 true ∧ ActsAF P q s1 s1' := by
     refine swapH (here_of_sim hl) g2 (fun z hz z' hz' l hl1 hl2 => ?_) hp.2 k1
     obtain ⟨t, ht, hlt1⟩ := opv_refs hz hl1
     obtain ⟨t', ht', hlt2⟩ := opv_refs hz' hl2
     have ka : ∀ k, k ∈ r.a → s.sl k = sm.sl k := fun k hk => (stepsH_keep (p :: pre) s sm hx (fun p' q' hp' hq' => by
      have hle : r.i ≤ p' := by
       rw [e1]
       rcases List.mem_cons.1 hp' with h | h
       ·omega
       ·have := hpw'.1 p' h; omega
      exact slotsOk_spec g3 hle hq' k (looks_ops (by rw [g5]; exact hk))) hall).symm
     have kb : ∀ k, k ∈ r.b → s.sl k = sm.sl k := fun k hk => (stepsH_keep (p :: pre) s sm hx (fun p' q' hp' hq' e => by
      exact (Oper.apart_spec (hap p' q' hp' hq')).1 k e (looks_ops (by rw [g6]; exact hk))) hall).symm
     refine hsep r hr e2 l ?_ ?_
     ·rw [← refsAt_congr ka]
      exact List.mem_flatMap.2 ⟨t, by rw [← g5]; exact ht, hlt1⟩
     ·rw [← refsAt_congr kb]
      exact List.mem_flatMap.2 ⟨t', by rw [← g6]; exact ht', hlt2⟩
    obtain ⟨s1, j1, j2⟩ := hsw
    exact ⟨s1, j1, .inr ⟨hp.1, j2⟩⟩
  obtain ⟨s1, k3, k4⟩ := hsw
  refine ⟨s1, k3, q, s1', hq, fun r hr e l hl1 => ?_, k4, k2⟩
  have hpj := hlt p (by simp)
  have hri : ∃ x, ops[r.i]? = some x := by
   simp only [regOkD, Bool.and_eq_true] at hok
   have h1 := List.all_eq_true.1 hok.1 r hr
   simp only [prOk, Bool.and_eq_true] at h1
   cases hxx : ops.toList[r.i]? with
   | none => rw [hxx] at h1; simp at h1
   | some x => exact ⟨x, by simpa using hxx⟩
  obtain ⟨x, hxx⟩ := hri
  obtain ⟨g1, _, g3, g4, g5, g6⟩ := prOk_spec hok hr hxx (by rw [e]; exact hq)
  have ka : ∀ k, k ∈ r.a → s1.sl k = s.sl k := fun k hk => step_keep k3 (slotsOk_spec g3 (by omega) ho k (looks_ops (by rw [g5]; exact hk)))
  have kb : ∀ k, k ∈ r.b → s1.sl k = s.sl k := fun k hk => step_keep k3 (slotsOk_spec g4 (by omega) ho k (looks_ops (by rw [g6]; exact hk)))
  rw [refsAt_congr ka] at hl1
  rw [refsAt_congr kb]
  exact hsepp r hr e l hl1
theorem any_soundH (hT : TabOk P tab) {prs : List Pr} (hok : regOkD ops prs = true) {g : Nat} (hg : rowOk ops prs g = true) {Q : Exit → Act → World → Prop} {s' : St} (hQ : ∀ a' w', SimE w0 M0 F0 s' a' w' → Q .normal a' w') :
  ∀ (fuel : Nat) (rem : List Nat) (listed : Array Bool) (s : St) (a : Act) (w : World), rem.length = fuel → rem.Pairwise (· < ·) → listed.size = ops.size →
   (∀ i, i ∈ rem ↔ i < ops.size ∧ listed.getD i false = false) →
   (∀ j o, ops[j]? = some o → listed.getD j false = true → ∀ e, e ∈ o.after → Region.binds .any e = true → listed.getD e.on false = true) →
   StepsH P tab (fixAt ops) g ops prs rem s s' → SimE w0 M0 F0 s a w → wpAny P .any ops Q fuel listed a w := by
 intro fuel
 have gd : ∀ (listed : Array Bool) (i : Nat) (b c : Bool), i < listed.size → listed.getD i b = listed.getD i c := by
  intro listed i b c hi; simp [hi]
 have noready : ∀ (rem : List Nat) (listed : Array Bool), rem.Pairwise (· < ·) → listed.size = ops.size → (∀ i, i ∈ rem ↔ i < ops.size ∧ listed.getD i false = false) → Region.ready .any ops listed = [] → rem = [] := by
  intro rem listed hpw hsz hrem hr
  cases rem with
  | nil => rfl
  | cons i rest =>
   exfalso
   obtain ⟨hi, hli⟩ := (hrem i).1 (by simp)
   have hoi : ops[i]? = some ops[i] := Array.getElem?_eq_getElem hi
   have : i ∈ Region.ready .any ops listed := by
    rw [mem_ready]
    refine ⟨by rw [gd listed i true false (by omega)]; exact hli, ops[i], hoi, fun e he hb => ?_⟩
    have hlt := regOkD_edges hok hoi he hb
    cases hle : listed.getD e.on false with
    | true => rfl
    | false =>
     have hin := (hrem e.on).2 ⟨by omega, hle⟩
     rcases List.mem_cons.1 hin with h | h
     ·omega
     ·have := (List.pairwise_cons.1 hpw).1 e.on h; omega
   rw [hr] at this; cases this
 induction fuel with
 | zero =>
  intro rem listed s a w hlen hpw hsz hrem hdown hs h
  obtain rfl := List.eq_nil_of_length_eq_zero hlen
  simp only [StepsH] at hs
  subst hs
  refine ⟨?_, hQ _ _ h⟩
  apply List.eq_nil_iff_forall_not_mem.2
  intro i hi
  obtain ⟨hli, o, ho, _⟩ := mem_ready.1 hi
  have hlt := (Array.getElem?_eq_some_iff.1 ho).1
  have := (hrem i).2 ⟨hlt, by rw [gd listed i false true (by omega)]; exact hli⟩
  cases this
 | succ fuel ih =>
  intro rem listed s a w hlen hpw hsz hrem hdown hs h
  refine ⟨fun hr => ?_, fun i hi => ?_⟩
  ·have := noready rem listed hpw hsz hrem hr
   subst this
   simp at hlen
  ·obtain ⟨hli, o, ho, hall⟩ := mem_ready.1 hi
   have hlt := (Array.getElem?_eq_some_iff.1 ho).1
   have hin : i ∈ rem := (hrem i).2 ⟨hlt, by rw [gd listed i false true (by omega)]; exact hli⟩
   obtain ⟨pre, post, rfl⟩ := List.append_of_mem hin
   obtain ⟨sm, k1, k2⟩ := (stepsH_append pre (i :: post) s s').1 hs
   obtain ⟨o', sn, ho', ksep, k3, k4⟩ := k2
   rw [ho] at ho'
   obtain rfl := Option.some.inj ho'
   have hpre : ∀ p, p ∈ pre → p < i := fun p hp => by
    have := (List.pairwise_append.1 hpw).2.2 p hp i (by simp); exact this
   have hnb : ∀ p, p ∈ pre → ((befsA [] ops.toList).getD i 0).testBit p = true → False := fun p hp hb => by
    have := before_listedD hok hdown p i o ho hall hb
    have hp2 := ((hrem p).1 (by simp [hp])).2
    rw [this] at hp2; cases hp2
   have hbub : ∃ s1, StepH P tab (fixAt ops i) (i = g) ops o s s1 ∧ StepsH P tab (fixAt ops) g ops prs pre s1 sn := by
    cases pre with
    | nil =>
     simp only [StepsH] at k1
     subst k1
     exact ⟨sn, k3, rfl⟩
    | cons p0 pre0 =>
     have hfi : fixAt ops i = false := by
      cases hf : fixAt ops i with
      | false => rfl
      | true => exact (hnb p0 (by simp) ((fixAt_spec hf (by have := ((hrem p0).1 (by simp)).1; exact this)).1 (hpre p0 (by simp)))).elim
     have hfp : ∀ p, p ∈ p0 :: pre0 → fixAt ops p = false := fun p hp => by
      cases hf : fixAt ops p with
      | false => rfl
      | true => exact (hnb p hp ((fixAt_spec hf hlt).2 (hpre p hp))).elim
     have hig : i ≠ g := by
      rintro rfl
      obtain ⟨q0, hq0⟩ : ∃ q0, ops[p0]? = some q0 := ⟨_, Array.getElem?_eq_getElem ((hrem p0).1 (by simp)).1⟩
      exact hnb p0 (by simp) ((rowOk_spec hg ho hq0).1 (hpre p0 (by simp)))
     obtain ⟨s1, b1, b2⟩ := bubbleH hT hok ho (p0 :: pre0) s sm sn ⟨a, w, h⟩ (List.pairwise_append.1 hpw).1 hpre (fun p q hp hq => by
      rcases regOkD_pair hok (hpre p hp) hq ho with hb | hc
      ·exact (hnb p hp hb).elim
      ·exact hc) hfp (fun p q hp hpg hq => by
       subst hpg
       rcases (rowOk_spec hg hq ho).2 (hpre p hp) with hb | hc
       ·exact (hnb p hp hb).elim
       ·exact hc) k1 ksep ((k3.resolve_right (fun h => hig h.1)).resolve_right (fun h => by rw [hfi] at h; cases h.1))
     exact ⟨s1, .inl (.inl b1), b2⟩
   obtain ⟨s1, b1, b2⟩ := hbub
   have hs1 : StepsH P tab (fixAt ops) g ops prs (pre ++ post) s1 s' := (stepsH_append pre post s1 s').2 ⟨sn, b2, k4⟩
   have hset : ∀ k, (listed.setIfInBounds i true).getD k false = if k = i then true else listed.getD k false := by
    intro k
    simp only [Array.getD_eq_getD_getElem?, Array.getElem?_setIfInBounds]
    by_cases e : i = k
    ·subst e; simp [hsz, hlt]
    ·simp [e, Ne.symm e]
   unfold wpOp
   simp only [ho]
   refine stepH_sound hT h b1 (fun a' w' h' => ih (pre ++ post) (listed.setIfInBounds i true) s1 a' w' (by simp at hlen ⊢; omega) ?_ (by simpa using hsz) (fun k => ?_) (fun j oj hoj hlj e he hb => ?_) hs1 h')
   ·rw [List.pairwise_append] at hpw ⊢
    exact ⟨hpw.1, (List.pairwise_cons.1 hpw.2.1).2, fun x hx y hy => hpw.2.2 x hx y (by simp [hy])⟩
   ·rw [hset]
    have hk := hrem k
    simp only [List.mem_append, List.mem_cons] at hk ⊢
    have hnd : ∀ k, k ∈ pre ∨ k ∈ post → k ≠ i := by
     rintro k (hk | hk) e
     ·have := hpre k hk; omega
     ·have := (List.pairwise_cons.1 (List.pairwise_append.1 hpw).2.1).1 k hk; omega
    constructor
    ·intro hk'
     have hne := hnd k hk'
     rw [if_neg hne]
     exact hk.1 (hk'.imp id .inr)
    ·rintro ⟨h1, h2⟩
     by_cases e : k = i
     ·rw [if_pos e] at h2; cases h2
     ·rw [if_neg e] at h2
      rcases hk.2 ⟨h1, h2⟩ with hq | hq | hq
      ·exact .inl hq
      ·exact absurd hq e
      ·exact .inr hq
   ·rw [hset] at hlj ⊢
    split
    ·rfl
    ·by_cases e' : j = i
     ·subst e'
      rw [ho] at hoj
      obtain rfl := Option.some.inj hoj
      exact hall e he hb
     ·rw [if_neg e'] at hlj
      exact hdown j oj hoj hlj e he hb
end Go.Ai
/- Code with drawn regions in which one call is given a row. Written by mkreg4.py after AiDyn3. -/
namespace Go.Ai
open Go.RowKit
variable {P : Program} {tab : Tab}
def hvC (P : Program) (fid : FuncId) (nt : Prop) (ds vs : List AV) (d : Option Tmp) (s : St) (k : St → Prop) : Prop :=
 nt ∧ ∃ j e sz rows rows' rest t, SatA P fid (ds.take j) (ds.drop (j + 1)) e sz rows rows' rest ∧ Ai.accF vs j e sz rows s ∧ d = some t ∧ s.lb t = none ∧ k (((dropA vs j (s.frzs (othersK vs j))).put t (.arr e sz rows' false)).set d (accR t rows'.length rest))
def hvF (P : Program) (fid : Option FuncId) (vs : List AV) (d : Option Tmp) (s : St) (k : St → Prop) : Prop :=
 match fid with
 | none => False
 | some fid => okBVs s.lb vs ∧ dOk d s ∧ hvC P fid (noTkVs vs) (vAVs s.lb vs) vs d s k
def hvO (P : Program) (o : Oper) (s : St) (k : St → Prop) : Prop :=
 match o.op, o.guard with
 | .call ⟨.value f, args, _⟩, none => hvF P (fnOf (opv s f)) (args.toList.map (opv s)) o.dst s k
 | _, _ => False
theorem hvO_step {ops : Array Oper} {o : Oper} {s : St} {k : St → Prop} (h : hvO P o s k) : ∃ s', Want ops o s true ∧ ActsAF P o s s' ∧ k s' := by
 unfold hvO at h
 split at h
 ·rename_i f args ts hop hgd
  unfold hvF at h
  split at h
  ·exact h.elim
  ·rename_i fid hf
   obtain ⟨h1, h2, hnt, j, e, sz, rows, rows', rest, t, k1, k2, k3, k4, k5⟩ := h
   refine ⟨_, ?_, ⟨⟨.value f, args, ts⟩, f, fid, _, j, e, sz, rows, rows', rest, t, hop, rfl, hf, dOk_iff h2, viewAVs_ok (okBVs_noTk h1 hnt), k1, k2, k3, k4, rfl⟩, k5⟩
   unfold Want; rw [hgd]
 ·exact h.elim
def regH (P : Program) (tab : Tab) (x : Nat → Bool) (g : Nat) (ops : Array Oper) (prs : List Pr) : Nat → List Oper → St → (St → Prop) → Prop
 | _, [], s, k => k s
 | j, o :: os, s, k => sepK s j prs ∧ (if j = g then hvO P o s (fun s' => regH P tab x g ops prs (j + 1) os s' k) else regK P tab (x j) ops [o] s (fun s' => regH P tab x g ops prs (j + 1) os s' k))
theorem regH_steps {g : Nat} {ops : Array Oper} {prs : List Pr} : ∀ (l : List Oper) (n : Nat) {s : St} {k : St → Prop}, (∀ j, l[j]? = ops[n + j]?) → regH P tab (fixAt ops) g ops prs n l s k → ∃ s', StepsH P tab (fixAt ops) g ops prs (List.range' n l.length) s s' ∧ k s'
 | [], n, s, _, _, h => ⟨s, rfl, h⟩
 | o :: l, n, s, k, hl, h => by
  obtain ⟨hs, h⟩ := h
  have h0 : ops[n]? = some o := by simpa using (hl 0).symm
  have hst : ∃ s1, StepH P tab (fixAt ops n) (n = g) ops o s s1 ∧ regH P tab (fixAt ops) g ops prs (n + 1) l s1 k := by
   split at h
   ·rename_i e
    obtain ⟨s1, h1, h2, h3⟩ := hvO_step (ops := ops) h
    exact ⟨s1, .inr ⟨e, h1, h2⟩, h3⟩
   ·obtain ⟨s1, h1, h2⟩ := regK_steps h
    obtain ⟨s1', h1, e⟩ := h1
    simp only [StepsL] at e
    subst e
    exact ⟨_, .inl h1, h2⟩
  obtain ⟨s1, h1, h2⟩ := hst
  obtain ⟨s', h3, h4⟩ := regH_steps l (n + 1) (fun j => by have := hl (j + 1); simpa [Nat.add_assoc, Nat.add_comm 1 j] using this) h2
  exact ⟨s', ⟨o, s1, h0, sepK_spec hs, h1, h3⟩, h4⟩
theorem region_soundH {w0 : World} {M0 : Ms} {F0 : Fz} {ops : Array Oper} {prs : List Pr} (hT : TabOk P tab) (hm : P.follows .mixedOrders = true) {id : Nat} {draw : Bool} {g : Nat} (hok : (draw && (regOkD ops prs && rowOk ops prs g)) = true) {Q : Exit → Act → World → Prop} {s s' : St} {a : Act} {w : World}
  (hs : StepsH P tab (fixAt ops) g ops prs (List.range ops.size) s s') (h : SimE w0 M0 F0 s a w) (hQ : ∀ a' w', SimE w0 M0 F0 s' a' w' → Q .normal a' w') : (Code.region id ops draw).wp P Q a w := by
 simp only [Bool.and_eq_true] at hok
 obtain ⟨rfl, hok, hgo⟩ := hok
 have h' : SimE w0 M0 F0 s a { w with drawn := w.drawn + 1 } := by obtain ⟨F, g, h⟩ := h; exact ⟨F, g, h.drew⟩
 refine wp_region_any hm (any_soundH hT hok hgo hQ ops.size (List.range ops.size) _ s a _ (by simp) List.pairwise_lt_range (by simp) (fun i => ?_) (fun j o ho hl => ?_) hs h')
 ·simp only [List.mem_range]
  constructor
  ·intro hi; exact ⟨hi, by simp [Array.getD_eq_getD_getElem?, Array.getElem?_replicate, hi]⟩
  ·exact fun hi => hi.1
 ·have hj := (Array.getElem?_eq_some_iff.1 ho).1
  simp [Array.getD_eq_getD_getElem?, Array.getElem?_replicate, hj] at hl
def lookH (id : Nat) : List (Nat × List Pr × Nat) → Option (List Pr × Nat)
 | [] => none
 | (i, p) :: ds => if i = id then some p else lookH id ds
def codeH (P : Program) (tab : Tab) (Δ : List (Nat × List Pr × Nat)) : Code → (Exit → St → Prop) → St → Prop
 | .skip, Q, s => Q .normal s
 | .region id ops draw, Q, s => match lookH id Δ with
  | some (prs, g) => regH P tab (fixAt ops) g ops prs 0 ops.toList s (Q .normal)
  | none => regK P tab (!draw || fixedOk ops) ops ops.toList s (Q .normal)
 | .seq a b, Q, s => codeH P tab Δ a (thenA (codeH P tab Δ b Q) Q) s
 | .cond c a b, Q, s => match opv s c with
  | .one (.c (.v (.bool t))) => (t = true → codeH P tab Δ a Q s) ∧ (t = false → codeH P tab Δ b Q s)
  | _ => False
 | .block id c, Q, s => codeH P tab Δ c (blockA id Q) s
 | .exit id, Q, s => Q (.exit id) s
 | .ret, Q, s => Q .ret s
 | .scope c, Q, s => codeH P tab Δ c (scopeA Q) s
 | .loop c, Q, s => loopA P c Q s
 | _, _, _ => False
def okCodeH (Δ : List (Nat × List Pr × Nat)) : Code → Bool
 | .region id ops draw => match lookH id Δ with
  | some (prs, g) => draw && (regOkD ops prs && rowOk ops prs g)
  | none => !draw || regOk ops
 | .seq a b => okCodeH Δ a && okCodeH Δ b
 | .cond _ a b => okCodeH Δ a && okCodeH Δ b
 | .block _ c => okCodeH Δ c
 | .scope c => okCodeH Δ c
 | .loop c => okCodeH Δ c
 | _ => true
theorem codeH_sound (Δ : List (Nat × List Pr × Nat)) (hT : TabOk P tab) (hm : P.follows .mixedOrders = true) : ∀ (c : Code) (Q : Exit → St → Prop) (s : St), okCodeH Δ c = true → codeH P tab Δ c Q s → AWP P c Q s
 | .skip, Q, s, _, h => fun w0 M0 F0 a w hs => wp_skip ⟨s, h, hs⟩
 | .exit id, Q, s, _, h => fun w0 M0 F0 a w hs => wp_exit ⟨s, h, hs⟩
 | .ret, Q, s, _, h => fun w0 M0 F0 a w hs => wp_ret ⟨s, h, hs⟩
 | .region id ops draw, Q, s, hok, h => fun w0 M0 F0 a w hs => by
  simp only [codeH] at h
  simp only [okCodeH] at hok
  split at h
  ·rename_i prs g hpr
   obtain ⟨s', h1, h2⟩ := regH_steps ops.toList 0 (by simp) h
   rw [hpr] at hok
   exact region_soundH hT hm hok (by simpa [List.range_eq_range'] using h1) hs (fun a' w' hs' => ⟨s', h2, hs'⟩)
  ·rename_i hpr
   obtain ⟨s', h1, h2⟩ := regK_steps h
   refine region_sound hT hm ?_ h1 hs (fun a' w' hs' => ⟨s', h2, hs'⟩)
   intro hd
   subst hd
   rw [hpr] at hok
   simpa using hok
 | .seq x y, Q, s, hok, h => fun w0 M0 F0 a w hs => by
  simp only [okCodeH, Bool.and_eq_true] at hok
  refine wp_seq (wp_mono (codeH_sound Δ hT hm x _ s hok.1 h w0 M0 F0 a w hs) ?_)
  rintro e a' w' ⟨s', hq, hs'⟩
  cases e with
  | normal => exact codeH_sound Δ hT hm y Q s' hok.2 hq w0 M0 F0 a' w' hs'
  | _ => exact ⟨s', hq, hs'⟩
 | .cond c x y, Q, s, hok, h => fun w0 M0 F0 a w hs => by
  simp only [okCodeH, Bool.and_eq_true] at hok
  simp only [codeH] at h
  split at h
  ·rename_i t ht
   obtain ⟨F, g, hsim⟩ := hs
   have hc := opv_sound hsim c
   rw [ht] at hc
   have hc := hc.c_v
   cases t with
   | true => exact wp_cond_true hc (codeH_sound Δ hT hm x Q s hok.1 (h.1 rfl) w0 M0 F0 a w ⟨F, g, hsim⟩)
   | false => exact wp_cond_false hc (codeH_sound Δ hT hm y Q s hok.2 (h.2 rfl) w0 M0 F0 a w ⟨F, g, hsim⟩)
  ·exact h.elim
 | .block id c, Q, s, hok, h => fun w0 M0 F0 a w hs => by
  refine wp_block (wp_mono (codeH_sound Δ hT hm c _ s hok h w0 M0 F0 a w hs) ?_)
  rintro e a' w' ⟨s', hq, hs'⟩
  cases e with
  | exit id' =>
   simp only [blockA] at hq
   simp only [Exit.inBlock]
   split
   ·rename_i e; rw [if_pos e] at hq; exact ⟨s', hq, hs'⟩
   ·rename_i e; rw [if_neg e] at hq; exact ⟨s', hq, hs'⟩
  | _ => exact ⟨s', hq, hs'⟩
 | .scope c, Q, s, hok, h => fun w0 M0 F0 a w hs => by
  refine wp_scope_straight (wp_mono (codeH_sound Δ hT hm c _ s hok h w0 M0 F0 a w hs) ?_)
  rintro e a' w' ⟨s', hq, hs'⟩
  cases e with
  | goto l => exact hq.elim
  | _ => exact ⟨s', hq, hs'⟩
 | .loop c, Q, s, _, h => h
 | .rangeFunc .., _, _, _, h => h.elim
 | .label _, _, _, _, h => h.elim
 | .goto _, _, _, _, h => h.elim
 | .refuse _, _, _, _, h => h.elim
theorem loopH_rule (Δ : List (Nat × List Pr × Nat)) {ι : Type} {c : Code} {Q : Exit → St → Prop} {s : St} (S : ι → St) (I : ι → Prop) (μ : ι → Nat) (i0 : ι) (hI : I i0) (h0 : Wk s (S i0)) (hT : TabOk P tab) (hm : P.follows .mixedOrders = true) (hok : okCodeH Δ c = true)
  (round : ∀ i, I i → codeH P tab Δ c (thenA (fun s' => ∃ j, I j ∧ μ j < μ i ∧ Wk s' (S j)) Q) (S i)) : @LoopK P c s ⟨Q⟩ :=
 loop_rule (ι := {i : ι // I i}) (fun i => S i.1) (fun i => μ i.1) ⟨i0, hI⟩ h0 (fun i => AWP.mono (codeH_sound Δ hT hm c _ _ hok (round i.1 i.2)) (fun e s hq => by
  cases e with
  | normal => obtain ⟨j, h1, h2, h3⟩ := hq; exact ⟨⟨j, h1⟩, h3, h2⟩
  | _ => exact hq))
def HvC (P : Program) (fid : FuncId) (nt : Prop) (ds vs : List AV) (d : Option Tmp) (s : St) [κ : Kn] : Prop := hvC P fid nt ds vs d s κ.default
theorem HvC.mk {fid : FuncId} {ds vs : List AV} {s : St} {κ : Kn} {t : Tmp} {e : TypeId} {sz : Nat} {rows rows' : List (List AC)} {rest : List AV} (j : Nat) (h : SatA P fid (ds.take j) (ds.drop (j + 1)) e sz rows rows' rest) (ha : Ai.accF vs j e sz rows s) (hf : s.lb t = none)
  (hk : κ.default (((dropA vs j (s.frzs (othersK vs j))).put t (.arr e sz rows' false)).set (some t) (accR t rows'.length rest))) : @HvC P fid True ds vs (some t) s κ := ⟨trivial, j, e, sz, rows, rows', rest, t, h, ha, rfl, hf, hk⟩
def HvF (P : Program) (fid : Option FuncId) (vs : List AV) (d : Option Tmp) (s : St) [κ : Kn] : Prop := hvF P fid vs d s κ.default
def HvO (P : Program) (o : Oper) (s : St) [κ : Kn] : Prop := hvO P o s κ.default
def regHX (P : Program) (tab : Tab) (x : Nat → Bool) (g : Nat) (ops : Array Oper) (prs : List Pr) (n : Nat) (l : List Oper) (s : St) [κ : Kn] : Prop := regH P tab x g ops prs n l s κ.default
def pickH (P : Program) (tab : Tab) (o : Option (List Pr × Nat)) (ops : Array Oper) (draw : Bool) (s : St) [κ : Kn] : Prop := match o with
 | some (prs, g) => @regHX P tab (fixAt ops) g ops prs 0 ops.toList s κ
 | none => @regX P tab (!draw || fixedOk ops) ops ops.toList s κ
section eqs
variable {s : St} {k : St → Prop} {Q : Exit → St → Prop} {κ κ' : Kn} {Δ : List (Nat × List Pr × Nat)} {prs : List Pr} {n g : Nat}
theorem codeH_skip : codeH P tab Δ .skip Q s = Q .normal s := rfl
theorem codeH_region {id : Nat} {ops : Array Oper} {draw : Bool} : codeH P tab Δ (.region id ops draw) Q s = @pickH P tab (lookH id Δ) ops draw s ⟨Q .normal⟩ := by
 simp only [codeH, pickH]; split <;> rfl
theorem pickH_some {ops : Array Oper} {draw : Bool} : @pickH P tab (some (prs, g)) ops draw s κ = @regHX P tab (fixAt ops) g ops prs 0 ops.toList s κ := rfl
theorem pickH_text {ops : Array Oper} : @pickH P tab none ops false s κ = @regX P tab true ops ops.toList s κ := rfl
theorem pickH_draw {ops : Array Oper} : @pickH P tab none ops true s κ = @regX P tab (fixedOk ops) ops ops.toList s κ := rfl
theorem lookH_nil {id : Nat} : lookH id [] = none := rfl
theorem lookH_cons {id i : Nat} {p : List Pr × Nat} {ds : List (Nat × List Pr × Nat)} : lookH id ((i, p) :: ds) = if i = id then some p else lookH id ds := rfl
theorem codeH_seq {a b : Code} : codeH P tab Δ (.seq a b) Q s = codeH P tab Δ a (thenA (codeH P tab Δ b Q) Q) s := rfl
theorem codeH_cond {c : Operand} {a b : Code} : codeH P tab Δ (.cond c a b) Q s = @condK (opv s c) s ⟨fun s => codeH P tab Δ a Q s⟩ ⟨fun s => codeH P tab Δ b Q s⟩ := rfl
theorem codeH_block {id : Nat} {c : Code} : codeH P tab Δ (.block id c) Q s = codeH P tab Δ c (blockA id Q) s := rfl
theorem codeH_exit {id : Nat} : codeH P tab Δ (.exit id) Q s = Q (.exit id) s := rfl
theorem codeH_ret : codeH P tab Δ .ret Q s = Q .ret s := rfl
theorem codeH_scope {c : Code} : codeH P tab Δ (.scope c) Q s = codeH P tab Δ c (scopeA Q) s := rfl
theorem codeH_loop {c : Code} : codeH P tab Δ (.loop c) Q s = @LoopK P c s ⟨Q⟩ := rfl
theorem regHX_nil {bx : Nat → Bool} {ops : Array Oper} : @regHX P tab bx g ops prs n [] s κ = κ.default s := rfl
theorem regHX_cons {bx : Nat → Bool} {ops : Array Oper} {o : Oper} {os : List Oper} : @regHX P tab bx g ops prs n (o :: os) s κ = (sepK s n prs ∧ if n = g then @HvO P o s ⟨fun s' => @regHX P tab bx g ops prs (n + 1) os s' κ⟩ else @regX P tab (bx n) ops [o] s ⟨fun s' => @regHX P tab bx g ops prs (n + 1) os s' κ⟩) := rfl
theorem HvO_call {d : Option Tmp} {f : Operand} {args : Array Operand} {ts : Array TypeId} {ty : TypeId} {pos : String} {aft : Array Edge} : @HvO P ⟨d, .call ⟨.value f, args, ts⟩, ty, pos, aft, none⟩ s κ = @HvF P (fnOf (opv s f)) (args.toList.map (opv s)) d s κ := rfl
theorem HvF_some {fid : FuncId} {vs : List AV} {d : Option Tmp} : @HvF P (some fid) vs d s κ = (okBVs s.lb vs ∧ dOk d s ∧ @HvC P fid (noTkVs vs) (vAVs s.lb vs) vs d s κ) := rfl
end eqs
attribute [go_sem ↓] codeH_skip codeH_region codeH_seq codeH_cond codeH_block codeH_exit codeH_ret codeH_scope codeH_loop
attribute [go_sem] pickH_some pickH_text pickH_draw lookH_nil lookH_cons regHX_nil regHX_cons HvO_call HvF_some
theorem sat_of_codeH (Δ : List (Nat × List Pr × Nat)) (hT : TabOk P tab) (hm : P.follows .mixedOrders = true) {f : FuncId} {fn : Func} {c : Code} {args : List AV} {r : AV} {rs : List ResultVar} {n : Nat} (hf : P.funcs[f]? = some fn) (hb : fn.body = some c) (hr : fn.results.toList = rs) (hn : fn.ntmps = n) (hname : fn.name ≠ "runtime.NumGoroutine")
  (hok : okCodeH Δ c = true) (hlen : args.length ≤ n) (h : codeH P tab Δ c (retA tab rs r) (mk n (enumA 0 args) [])) : Sat P f args r := by
 subst hr hn
 refine ⟨⟨fn, hf, hname, by rw [hb]; simp⟩, fun w F us hF hrep => ?_⟩
 refine calls_of_wp hf hb (wp_mono (codeH_sound Δ hT hm c _ _ hok h w ⟨[], []⟩ F _ w ⟨F, g0, entry_sim hF hlen hrep⟩) ?_)
 rintro e a' w' ⟨s', hq, F1, g1, hs'⟩
 have main : retS tab fn.results.toList r s' → ∃ v, (results fn a'.tmps).run P w' = .ok v w' ∧ ∃ v' F', Ending.returned v = .returned v' ∧ Below w.heap.size w w' ∧ (∀ b o, F b o → F' b o) ∧ (∀ b o, F' b o → F b o ∨ w.heap.size ≤ b) ∧ (∀ b o, F' b o → b < w'.heap.size) ∧ RepAV w' F' noLk g0 r v' := by
  intro hq
  obtain ⟨v, F', k0, k1, k2, k3, k4⟩ := ret_sound hT hs' rfl hq
  exact ⟨v, k0, v, F', rfl, ⟨hs'.os, hs'.tape, hs'.output, hs'.size, fun k hk => hs'.block k hk (fun h => by cases h)⟩, k1, k2, k3, k4⟩
 cases e with
 | normal => exact ⟨hs'.df, main hq⟩
 | ret => exact ⟨hs'.df, main hq⟩
 | _ => exact hq.elim
end Go.Ai
