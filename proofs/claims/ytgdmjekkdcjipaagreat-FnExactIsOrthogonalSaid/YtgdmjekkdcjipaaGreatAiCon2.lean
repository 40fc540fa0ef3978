/- Steps that name different blocks may be exchanged, writes among them. -/
import Derived.Test.YtgdmjekkdcjipaaGreatAiRegion
import Derived.Test.YtgdmjekkdcjipaaGreatAiRow2
set_option linter.unusedVariables false
set_option linter.unusedSimpArgs false
namespace Go.Ai
open Go.RowKit
variable {P : Program} {tab : Tab} {ops : Array Oper}
def zp0 (o : Oper) : Array Operand := match o.op with
 | .store _ p _ => #[p]
 | _ => o.op.operands
theorem zv1 {o : Oper} {z : Operand} (h : z ∈ (zp0 o).toList) : z ∈ o.op.operands.toList := by
 unfold zp0 at h
 split at h
 ·rename_i t p x hop
  simp only [List.mem_singleton] at h
  subst h
  simp [hop, Op.operands]
 ·exact h
theorem bv0 {o : Oper} (h : qB0 o = false) : (zp0 o) = o.op.operands := by
 unfold zp0
 split
 ·rename_i hop; simp [qB0, hop] at h
 ·rfl
theorem jc0 {o : Oper} {c : Call} (h : o.op = .call c) : (zp0 o) = o.op.operands := by unfold zp0; rw [h]
theorem dw0 {o : Oper} {t : TypeId} {x : Operand} {lo hi m : Option Operand} (h : o.op = .slice t x lo hi m) : (zp0 o) = o.op.operands := by unfold zp0; rw [h]
theorem kh0 {o : Oper} {k : Tmp} (h : k ∈ wS0 (zp0 o)) : k ∈ o.looksAt ops := by
 refine qO0 ?_
 simp only [wS0, List.mem_filterMap] at h ⊢
 obtain ⟨z, hz, e⟩ := h
 exact ⟨z, zv1 hz, e⟩
structure AgreeE (ops : Array Oper) (o : Oper) (s t : St) : Prop where
 sl : ∀ k, k ∈ o.looksAt ops → t.sl k = s.sl k
 lb : ∀ x, x ∈ (zp0 o).toList → ∀ l, l ∈ (opv s x).refs → t.lb l = s.lb l
 dn : ∀ d, o.dst = some d → s.lb d = none → t.lb d = none
 n : t.n = s.n
inductive FormU (o : Oper) (s : St) : (Lk → Lk) → Prop
 | id : FormU o s (fun lb => lb)
 | put (d : Nat) (B : LB) (hd : o.dst = some d) (hn : s.lb d = none) : FormU o s (kR0 d B)
 | frz (ls : List Nat) (h : ∀ l, l ∈ ls → ∃ x, x ∈ (zp0 o).toList ∧ l ∈ (opv s x).refs) : FormU o s (kP0 ls)
 | upd (l : Nat) (B : LB) (h : ∃ x, x ∈ (zp0 o).toList ∧ l ∈ (opv s x).refs) : FormU o s (kR0 l B)
theorem Form.toU {o : Oper} {s : St} {φ : Lk → Lk} (hw : zp0 o = o.op.operands) (h : Form o s φ) : FormU o s φ := by
 cases h with
 | id => exact .id
 | put d B hd hn => exact .put d B hd hn
 | frz ls h => exact .frz ls (by rw [hw]; exact h)
theorem mW0 {lb lb' : Lk} {y : AV} (h : ∀ l, l ∈ y.refs → lb' l = lb l) : pV0 lb' y = pV0 lb y := by
 unfold pV0
 split <;> try rfl
 rename_i l n
 rw [h l (by simp [AV.refs, AC.refs])]
theorem bQ0 {lb lb' : Lk} {d : Nat} {e : TypeId} {x y : AV} (hx : ∀ l, l ∈ x.refs → lb' l = lb l) (hy : ∀ l, l ∈ y.refs → lb' l = lb l) : yz0 tab lb' d e x y = yz0 tab lb d e x y := by
 have hm := mW0 hy
 unfold yz0
 rw [hm]
 split <;> try rfl
 split <;> try rfl
 rename_i l n
 rw [hx l (by simp [AV.refs, AC.refs])]
theorem gp0 {lb lb' : Lk} {t : TypeId} {p x : AV} (hp : ∀ l, l ∈ p.refs → lb' l = lb l) : kv0 tab lb' t p x = kv0 tab lb t p x := by
 unfold kv0
 split <;> try rfl
 ·rw [hp _ (by simp [AV.refs, AC.refs])]
 ·rw [hp _ (by simp [AV.refs, AC.refs])]
theorem mc0 {s s' : St} {o : Oper} (hs : ∀ t, t ∈ wS0 o.op.operands → s'.sl t = s.sl t) (hl : ∀ x, x ∈ (zp0 o).toList → ∀ l, l ∈ (opv s x).refs → s'.lb l = s.lb l) : kQ0 tab o s' = kQ0 tab o s := by
 by_cases hw : qB0 o = false
 ·rw [bv0 hw] at hl
  exact vX0 hw hs (fun x hx l h => by rw [hl x hx l h]; exact eqv.refl _)
 ·have O : ∀ x, x ∈ o.op.operands.toList → opv s' x = opv s x := fun x hx => wG0 hs hx
  unfold kQ0
  split
  ·rfl
  ·rename_i t x hop; exact absurd (by simp [qB0, hop]) hw
  ·rename_i t len parts hop; exact absurd (by simp [qB0, hop]) hw
  ·rename_i t x y hop; exact absurd (by simp [qB0, hop]) hw
  ·rename_i t p x hop
   have hp : p ∈ o.op.operands.toList := by simp [hop, Op.operands]
   rw [O p hp, O x (by simp [hop, Op.operands])]
   exact gp0 (hl p (by simp [zp0, hop]))
  ·rename_i c hop
   rw [jc0 hop] at hl
   have hpure := kE0 (tab := tab) hs (fun x hx l h => by rw [hl x hx l h]; exact eqv.refl _)
   have C : ∀ x, x ∈ c.args.toList → x ∈ o.op.operands.toList := fun x hx => by
    simp only [hop, Op.operands, Call.operands, Array.toList_append, List.mem_append]; exact .inr hx
   unfold xO0
   split
   ·split
    ·rename_i x y t t' ha ht
     have hx := C x (by simp [ha])
     have hy := C y (by simp [ha])
     rw [O x hx, O y hy]
     split
     ·split
      ·exact bQ0 (hl x hx) (hl y hy)
      ·rfl
     ·rfl
    ·rfl
   ·unfold jO0 at hpure
    simp only [hop] at hpure
    rw [hpure]
  ·rename_i h1 h2 h3 h4 h5 h6
   have hs0 : qB0 o = false := by
    unfold qB0
    split <;> simp_all
   exact absurd hs0 hw
theorem vA1 {o : Oper} {s : St} {pr : Prop} {v : AV} {l : Nat} {B : LB} (h : kQ0 tab o s = some (pr, .upd v l B)) : ∃ x, x ∈ (zp0 o).toList ∧ l ∈ (opv s x).refs := by
 unfold kQ0 at h
 split at h
 ·cases ht : tab _ <;> rw [ht] at h <;> cases h
 ·cases ht : (opv s _).cs <;> rw [ht] at h <;> cases h
 ·split at h
  ·split at h
   ·split at h
    ·rename_i x _ _ _ _ _
     cases hf : jv0 _ _ _ <;> rw [hf] at h <;> cases h
    ·cases h
   ·cases h
  ·cases h
 ·split at h
  ·split at h
   ·split at h
    ·cases h
    ·cases h
   ·cases h
  ·cases h
 ·rename_i t p x hop
  refine ⟨p, by simp [zp0, hop], ?_⟩
  unfold kv0 at h
  split at h
  ·rename_i hp _
   split at h
   ·split at h
    ·cases h; rw [hp]; simp [AV.refs, AC.refs]
    ·cases h
   ·cases h
  ·rename_i hp _
   split at h
   ·split at h
    ·cases h; rw [hp]; simp [AV.refs, AC.refs]
    ·cases h
   ·cases h
  ·cases h
 ·rename_i c hop
  unfold xO0 at h
  split at h
  ·split at h
   ·rename_i x y t t' ha ht
    have hx : x ∈ o.op.operands.toList := by
     simp only [hop, Op.operands, Call.operands, Array.toList_append, List.mem_append]; exact .inr (by simp [ha])
    refine ⟨x, by rw [jc0 hop]; exact hx, ?_⟩
    split at h
    ·split at h
     ·unfold yz0 at h
      split at h
      ·cases h
      ·split at h
       ·rename_i hp
        split at h
        ·split at h
         ·cases h; rw [hp]; simp [AV.refs, AC.refs]
         ·cases h
        ·cases h
       ·split at h
        ·cases h
        ·split at h <;> cases h
        ·cases h
       ·split at h
        ·cases h
        ·split at h <;> cases h
        ·cases h
       ·cases h
     ·cases h
    ·cases h
   ·cases h
  ·cases hf : wz0 tab s c <;> rw [hf] at h <;> cases h
 ·cases hf : jO0 tab o s <;> rw [hf] at h <;> cases h
theorem go0 {o : Oper} {s s' : St} (h : fM0 P tab ops o s s') : ∃ φ v, s' = s.app φ o.dst v ∧ FormU o s φ ∧ ∀ t, AgreeE ops o s t → fM0 P tab ops o t (t.app φ o.dst v) := by
 by_cases hw : qB0 o = false
 ·obtain ⟨φ, v, h1, h2, h3⟩ := ku0 hw h
  exact ⟨φ, v, h1, h2.toU (bv0 hw), fun t ha => h3 t ⟨ha.sl, fun x hx l hl => by rw [ha.lb x (by rw [bv0 hw]; exact hx) l hl]; exact eqv.refl _, ha.dn, ha.n⟩⟩
 ·rcases h with ⟨hwant, hact⟩ | ⟨hwant, hd, rfl⟩
  ·rcases hact with ⟨pr, e, ho, hp, hk, rfl⟩ | hc
   ·have cong : ∀ t, AgreeE ops o s t → kQ0 tab o t = some (pr, e) := fun t ha => by
     rw [← ho]; exact mc0 (fun k hk => ha.sl k (qO0 hk)) ha.lb
    cases e with
    | val v => exact ⟨fun lb => lb, v, rfl, .id, fun t ha => .inl ⟨zZ0 ha.sl hwant, .inl ⟨pr, .val v, cong t ha, hp, by simp only [Eff.ok] at hk ⊢; rw [ha.n]; exact hk, rfl⟩⟩⟩
    | new v B =>
     obtain ⟨d, hd, hn, hf⟩ := hk
     exact ⟨kR0 d B, v, vJ0 hd, .put d B hd hf, fun t ha => .inl ⟨zZ0 ha.sl hwant, .inl ⟨pr, .new v B, cong t ha, hp, ⟨d, hd, by rw [ha.n]; exact hn, ha.dn d hd hf⟩, (vJ0 hd).symm⟩⟩⟩
    | upd v l B => exact ⟨kR0 l B, v, rfl, .upd l B (vA1 ho), fun t ha => .inl ⟨zZ0 ha.sl hwant, .inl ⟨pr, .upd v l B, cong t ha, hp, by simp only [Eff.ok] at hk ⊢; rw [ha.n]; exact hk, rfl⟩⟩⟩
   ·obtain ⟨φ, v, h1, h2, h3⟩ := yb0 (ops := ops) hc
    have hk : zp0 o = o.op.operands := by
     obtain ⟨c, f, fid, hop, _⟩ := hc
     exact jc0 hop
    exact ⟨φ, v, h1, h2.toU hk, fun t ha => .inl ⟨zZ0 ha.sl hwant, .inr (h3 t ⟨ha.sl, fun x hx l hl => by rw [ha.lb x (by rw [hk]; exact hx) l hl]; exact eqv.refl _, ha.dn, ha.n⟩)⟩⟩
  ·exact ⟨fun lb => lb, .tup [], rfl, .id, fun t ha => .inr ⟨zZ0 ha.sl hwant, by rw [ha.n]; exact hd, rfl⟩⟩
theorem bi0 (ls : List Nat) : ∀ (lb : Lk) (k : Nat), kP0 ls lb k = if k ∈ ls then (lb k).map LB.frz else lb k := by
 induction ls with
 | nil => intro lb k; simp [kP0]
 | cons l ls ih =>
  intro lb k
  show kP0 ls (ws0 l lb) k = _
  rw [ih]
  have ff : ∀ x : Option LB, (x.map LB.frz).map LB.frz = x.map LB.frz := by
   intro x; cases x with
   | none => rfl
   | some B => cases B <;> rfl
  unfold ws0
  by_cases e1 : k ∈ ls <;> by_cases e2 : k = l <;> simp [e1, e2, ff]
def FormU.At (φ : Lk → Lk) (A : Nat → Prop) : Prop := ∃ f : Nat → Option LB → Option LB, (∀ lb k, φ lb k = f k (lb k)) ∧ ∀ k, ¬ A k → ∀ x, f k x = x
theorem je1 {φ ψ : Lk → Lk} {A B : Nat → Prop} (h1 : FormU.At φ A) (h2 : FormU.At ψ B) (hd : ∀ k, A k → ¬ B k) (lb : Lk) : φ (ψ lb) = ψ (φ lb) := by
 obtain ⟨f, f1, f2⟩ := h1
 obtain ⟨g, g1, g2⟩ := h2
 funext k
 rw [f1, g1, g1, f1]
 by_cases hA : A k
 ·rw [g2 k (hd k hA), g2 k (hd k hA)]
 ·rw [f2 k hA, f2 k hA]
theorem jD1 (d : Nat) (B : LB) : FormU.At (kR0 d B) (fun k => k = d) :=
 ⟨fun k x => if k = d then some B else x, fun lb k => rfl, fun k hk x => by simp [show ¬ k = d from hk]⟩
theorem tq0 (ls : List Nat) : FormU.At (kP0 ls) (fun k => k ∈ ls) :=
 ⟨fun k x => if k ∈ ls then x.map LB.frz else x, fun lb k => bi0 ls lb k, fun k hk x => by simp [show ¬ k ∈ ls from hk]⟩
theorem xz1 : FormU.At (fun lb => lb) (fun _ => False) := ⟨fun _ x => x, fun _ _ => rfl, fun _ _ _ => rfl⟩
theorem jx1 {o : Oper} {s : St} {φ : Lk → Lk} (h : FormU o s φ) : ∃ A, FormU.At φ A ∧ (∀ k, A k → (s.lb k = none ∧ o.dst = some k) ∨ ∃ x, x ∈ (zp0 o).toList ∧ k ∈ (opv s x).refs) ∧ ∀ lb k, φ lb k = none → lb k = none := by
 cases h with
 | id => exact ⟨_, xz1, fun k hk => hk.elim, fun _ _ h => h⟩
 | put d B hd hn => exact ⟨_, jD1 d B, fun k hk => .inl (by subst hk; exact ⟨hn, hd⟩), fun lb k h => by unfold kR0 at h; split at h; cases h; exact h⟩
 | frz ls h => exact ⟨_, tq0 ls, fun k hk => .inr (h k hk), fun lb k h => by rw [bi0] at h; split at h <;> simpa using h⟩
 | upd l B h => exact ⟨_, jD1 l B, fun k hk => .inr (by subst hk; exact h), fun lb k h => by unfold kR0 at h; split at h; cases h; exact h⟩
end Go.Ai
namespace Go.Ai
open Go.RowKit
variable {P : Program} {tab : Tab} {ops : Array Oper} {w0 : World} {M0 : Ms} {F0 : Fz}
structure Pr where
 i : Nat
 j : Nat
 a : List Tmp
 b : List Tmp
def ps0 (ops : Array Oper) (i : Nat) (x : Oper) : Bool := (List.range ops.size).all fun m => decide (m < i) || match ops.toList[m]? with
 | none => true
 | some q => match q.dst with
  | none => true
  | some d => !(x.looksAt ops).contains d
def bA1 (ops : Array Oper) (p : Pr) : Bool := decide (p.i < p.j) && match ops.toList[p.i]?, ops.toList[p.j]? with
 | some x, some y => x.apart ops y && ps0 ops p.i x && ps0 ops p.j y && (wS0 (zp0 x) == p.a) && (wS0 (zp0 y) == p.b)
 | _, _ => false
def yU0 (ops : Array Oper) (prs : List Pr) : Bool :=
 prs.all (bA1 ops) && (List.range ops.size).all fun j => match ops.toList[j]? with
  | none => true
  | some oj => oj.after.toList.all (fun e => !Region.binds .any e || decide (e.on < j)) &&
   (List.range j).all fun i => match ops.toList[i]? with
    | none => true
    | some oi => ((yH0 [] ops.toList).getD j 0).testBit i || kV0 ops oi oj || prs.any fun p => p.i == i && p.j == j
def yv0 (s : St) (ts : List Tmp) : List Nat := ts.flatMap fun t => (s.sl t).refs
def wg1 (prs : List Pr) (j : Nat) (s : St) : Prop := ∀ p, p ∈ prs → p.j = j → ∀ l, l ∈ yv0 s p.a → l ∉ yv0 s p.b
def vR1 (P : Program) (tab : Tab) (fx : Nat → Bool) (ops : Array Oper) (prs : List Pr) : List Nat → St → St → Prop
 | [], s, s' => s' = s
 | i :: is, s, s' => ∃ o s1, ops[i]? = some o ∧ wg1 prs i s ∧ lL0 P tab (fx i) ops o s s1 ∧ vR1 P tab fx ops prs is s1 s'
theorem nu0 {s : St} {xs : Array Operand} {z : Operand} (hz : z ∈ xs.toList) {l : Nat} (hl : l ∈ (opv s z).refs) : ∃ t, t ∈ wS0 xs ∧ l ∈ (s.sl t).refs := by
 cases z with
 | tmp t => exact ⟨t, by simp only [wS0, List.mem_filterMap]; exact ⟨.tmp t, hz, rfl⟩, hl⟩
 | const v =>
  simp only [opv] at hl
  have : ∀ v, (vM0 v).refs = [] := by
   intro v
   cases v <;> try rfl
   case slice A n c =>
    cases A with
    | none => cases n with
     | zero => cases c <;> rfl
     | succ n => rfl
    | some A => rfl
   case agg xs => exact pE0 xs
  rw [this] at hl; cases hl
 | global g => simp [opv, AV.refs] at hl
 | func f => simp [opv, AV.refs, AC.refs] at hl
theorem jT0 {i : Nat} {x : Oper} (h : ps0 ops i x = true) {m : Nat} (hm : i ≤ m) {q : Oper} (hq : ops[m]? = some q) : ∀ k, k ∈ x.looksAt ops → q.dst ≠ some k := by
 intro k hk e
 have hlt := (Array.getElem?_eq_some_iff.1 hq).1
 have := List.all_eq_true.1 h m (List.mem_range.2 hlt)
 have hq' : ops.toList[m]? = some q := by simpa using hq
 rw [hq'] at this
 simp only [e, Bool.or_eq_true, decide_eq_true_eq, Bool.not_eq_true'] at this
 rcases this with h | h
 ·omega
 ·have hc : (x.looksAt ops).contains k = true := by simpa using hk
  rw [hc] at h; cases h
theorem wE1 {o : Oper} {s s' : St} (h : fM0 P tab ops o s s') {k : Tmp} (hk : o.dst ≠ some k) : s'.sl k = s.sl k := by
 obtain ⟨φ, v, rfl, _, _⟩ := go0 h
 exact wR0 _ _ _ _ _ hk
theorem yC0 {s t : St} {ts : List Tmp} (h : ∀ k, k ∈ ts → t.sl k = s.sl k) : yv0 t ts = yv0 s ts := by
 unfold yv0
 rw [List.flatMap_def, List.flatMap_def]
 congr 1
 exact List.map_congr_left (fun k hk => by rw [h k hk])
theorem pe0 {prs : List Pr} (h : yU0 ops prs = true) {p : Pr} (hp : p ∈ prs) {x y : Oper} (hx : ops[p.i]? = some x) (hy : ops[p.j]? = some y) :
  p.i < p.j ∧ x.apart ops y = true ∧ ps0 ops p.i x = true ∧ ps0 ops p.j y = true ∧ wS0 (zp0 x) = p.a ∧ wS0 (zp0 y) = p.b := by
 simp only [yU0, Bool.and_eq_true] at h
 have h1 := List.all_eq_true.1 h.1 p hp
 have hx' : ops.toList[p.i]? = some x := by simpa using hx
 have hy' : ops.toList[p.j]? = some y := by simpa using hy
 simp only [bA1, hx', hy', Bool.and_eq_true, decide_eq_true_eq, beq_iff_eq] at h1
 exact ⟨h1.1, h1.2.1.1.1.1, h1.2.1.1.1.2, h1.2.1.1.2, h1.2.1.2, h1.2.2⟩
theorem vv0 {prs : List Pr} (h : yU0 ops prs = true) {j : Nat} {o : Oper} (ho : ops[j]? = some o) {e : Edge} (he : e ∈ o.after) (hb : Region.binds .any e = true) : e.on < j := by
 have hj : j < ops.size := (Array.getElem?_eq_some_iff.1 ho).1
 simp only [yU0, Bool.and_eq_true] at h
 have := List.all_eq_true.1 h.2 j (List.mem_range.2 hj)
 have ho' : ops.toList[j]? = some o := by simpa using ho
 rw [ho'] at this
 simp only [Bool.and_eq_true] at this
 have := List.all_eq_true.1 this.1 e (by simpa using he)
 simpa [hb] using this
theorem mg0 {prs : List Pr} (h : yU0 ops prs = true) {i j : Nat} {x y : Oper} (hij : i < j) (hx : ops[i]? = some x) (hy : ops[j]? = some y) : ((yH0 [] ops.toList).getD j 0).testBit i = true ∨ (kV0 ops x y = true ∨ ∃ p, p ∈ prs ∧ p.i = i ∧ p.j = j) := by
 have hj : j < ops.size := (Array.getElem?_eq_some_iff.1 hy).1
 simp only [yU0, Bool.and_eq_true] at h
 have := List.all_eq_true.1 h.2 j (List.mem_range.2 hj)
 have hy' : ops.toList[j]? = some y := by simpa using hy
 have hx' : ops.toList[i]? = some x := by simpa using hx
 rw [hy'] at this
 simp only [Bool.and_eq_true] at this
 have := List.all_eq_true.1 this.2 i (List.mem_range.2 hij)
 rw [hx'] at this
 simp only [Bool.or_eq_true] at this
 rcases this with (h | h) | h
 ·exact .inl h
 ·exact .inr (.inl h)
 ·obtain ⟨p, hp, hq⟩ := List.any_eq_true.1 h
  simp only [Bool.and_eq_true, beq_iff_eq] at hq
  exact .inr (.inr ⟨p, hp, hq.1, hq.2⟩)
theorem fR0 {prs : List Pr} (h : yU0 ops prs = true) {listed : Array Bool} (hdown : ∀ j o, ops[j]? = some o → listed.getD j false = true → ∀ e, e ∈ o.after → Region.binds .any e = true → listed.getD e.on false = true) (i : Nat) :
  ∀ (j : Nat) (o : Oper), ops[j]? = some o → (∀ e, e ∈ o.after → Region.binds .any e = true → listed.getD e.on false = true) → ((yH0 [] ops.toList).getD j 0).testBit i = true → listed.getD i false = true := by
 intro j
 induction j using Nat.strongRecOn with
 | _ j ih =>
  intro o ho hall hbit
  have R := tt0 ops.toList [] [] rfl (by intro k m hk; simp at hk)
  cases hm : (yH0 [] ops.toList)[j]? with
  | none => simp [List.getD, hm] at hbit
  | some m =>
   simp [List.getD, hm] at hbit
   obtain ⟨o', ho', e, he, hb, hq⟩ := R j m hm i hbit
   simp at ho'
   rw [ho] at ho'
   obtain rfl := Option.some.inj ho'
   have hle := hall e (by simpa using he) hb
   rcases hq with rfl | ⟨m', hm', hb'⟩
   ·exact hle
   ·have hlt := vv0 h ho (by simpa using he) hb
    have hjs : e.on < ops.size := Nat.lt_trans hlt (Array.getElem?_eq_some_iff.1 ho).1
    have hoe : ops[e.on]? = some ops[e.on] := Array.getElem?_eq_getElem hjs
    exact ih e.on hlt _ hoe (fun e' he' hb'' => hdown e.on _ hoe hle e' he' hb'') (by simp [List.getD, hm', hb'])
end Go.Ai
namespace Go.Ai
open Go.RowKit
variable {P : Program} {tab : Tab}
def mY0 (l : Nat) : List Nat → Prop
 | [] => True
 | b :: bs => l ≠ b ∧ mY0 l bs
def jo1 : List Nat → List Nat → Prop
 | [], _ => True
 | l :: ls, bs => mY0 l bs ∧ jo1 ls bs
theorem bA0 {l : Nat} : ∀ {bs : List Nat}, mY0 l bs → l ∉ bs
 | [], _, h => by cases h
 | b :: bs, h, hm => by
  rcases List.mem_cons.1 hm with e | hm
  ·exact h.1 e
  ·exact bA0 h.2 hm
theorem dR0 : ∀ {as bs : List Nat}, jo1 as bs → ∀ l, l ∈ as → l ∉ bs
 | [], _, _, l, h => by cases h
 | a :: as, bs, h, l, hl => by
  rcases List.mem_cons.1 hl with rfl | hl
  ·exact bA0 h.1
  ·exact dR0 h.2 l hl
def jY1 (s : St) (j : Nat) : List Pr → Prop
 | [] => True
 | p :: ps => (if p.j = j then jo1 (yv0 s p.a) (yv0 s p.b) else True) ∧ jY1 s j ps
theorem gZ0 {s : St} {j : Nat} : ∀ {prs : List Pr}, jY1 s j prs → wg1 prs j s
 | [], _, p, hp, _ => by cases hp
 | q :: prs, h, p, hp, e => by
  rcases List.mem_cons.1 hp with rfl | hp
  ·have h1 := h.1
   rw [if_pos e] at h1
   exact dR0 h1
  ·exact gZ0 h.2 p hp e
def bD1 (P : Program) (tab : Tab) (x : Nat → Bool) (ops : Array Oper) (prs : List Pr) : Nat → List Oper → St → (St → Prop) → Prop
 | _, [], s, k => k s
 | j, o :: os, s, k => jY1 s j prs ∧ ta0 P tab (x j) ops [o] s (fun s' => bD1 P tab x ops prs (j + 1) os s' k)
def kL1 (id : Nat) : List (Nat × List Pr) → Option (List Pr)
 | [] => none
 | (i, p) :: ds => if i = id then some p else kL1 id ds
def rv0 (P : Program) (tab : Tab) (Δ : List (Nat × List Pr)) : Code → (Exit → St → Prop) → St → Prop
 | .skip, Q, s => Q .normal s
 | .region id ops draw, Q, s => match kL1 id Δ with
  | some prs => bD1 P tab (qa0 ops) ops prs 0 ops.toList s (Q .normal)
  | none => ta0 P tab (!draw || yf0 ops) ops ops.toList s (Q .normal)
 | .seq a b, Q, s => rv0 P tab Δ a (fC0 (rv0 P tab Δ b Q) Q) s
 | .cond c a b, Q, s => match opv s c with
  | .one (.c (.v (.bool t))) => (t = true → rv0 P tab Δ a Q s) ∧ (t = false → rv0 P tab Δ b Q s)
  | _ => False
 | .block id c, Q, s => rv0 P tab Δ c (jA0 id Q) s
 | .exit id, Q, s => Q (.exit id) s
 | .ret, Q, s => Q .ret s
 | .scope c, Q, s => rv0 P tab Δ c (qv1 Q) s
 | .loop c, Q, s => qD1 P c Q s
 | _, _, _ => False
def kC0 (Δ : List (Nat × List Pr)) : Code → Bool
 | .region id ops draw => match kL1 id Δ with
  | some prs => draw && yU0 ops prs
  | none => !draw || fZ0 ops
 | .seq a b => kC0 Δ a && kC0 Δ b
 | .cond _ a b => kC0 Δ a && kC0 Δ b
 | .block _ c => kC0 Δ c
 | .scope c => kC0 Δ c
 | .loop c => kC0 Δ c
 | _ => true
def bE1 (P : Program) (tab : Tab) (x : Nat → Bool) (ops : Array Oper) (prs : List Pr) (n : Nat) (l : List Oper) (s : St) [κ : Kn] : Prop := bD1 P tab x ops prs n l s κ.default
def lE1 (P : Program) (tab : Tab) (o : Option (List Pr)) (ops : Array Oper) (draw : Bool) (s : St) [κ : Kn] : Prop := match o with
 | some prs => @bE1 P tab (qa0 ops) ops prs 0 ops.toList s κ
 | none => @co0 P tab (!draw || yf0 ops) ops ops.toList s κ
section eqs
variable {s : St} {k : St → Prop} {Q : Exit → St → Prop} {κ κ' : Kn} {Δ : List (Nat × List Pr)} {prs : List Pr} {n : Nat}
theorem yj1 : jY1 s n [] = True := rfl
theorem qw1 {p : Pr} : jY1 s n (p :: prs) = ((if p.j = n then jo1 (yv0 s p.a) (yv0 s p.b) else True) ∧ jY1 s n prs) := rfl
theorem st0 : yv0 s [] = [] := rfl
theorem mf0 {t : Tmp} {ts : List Tmp} : yv0 s (t :: ts) = (s.sl t).refs ++ yv0 s ts := rfl
theorem yZ1 {l m : Nat} : (AV.one (.own l m)).refs = [l] := rfl
theorem ya1 {l m : Nat} : (AV.one (.ptr l m)).refs = [l] := rfl
theorem xA1 {x : C} : (AV.one (.c x)).refs = [] := rfl
theorem ke1 {cs : List C} : (AV.one (.ip cs)).refs = [] := rfl
theorem yA1 {bs : List Nat} : jo1 [] bs = True := rfl
theorem zN1 {l : Nat} {ls bs : List Nat} : jo1 (l :: ls) bs = (mY0 l bs ∧ jo1 ls bs) := rfl
theorem qQ1 {l : Nat} : mY0 l [] = True := rfl
theorem sf0 {l b : Nat} {bs : List Nat} : mY0 l (b :: bs) = (l ≠ b ∧ mY0 l bs) := rfl
end eqs
attribute [go_sem] yj1 qw1 st0 mf0 yZ1 ya1 xA1 ke1 yA1 zN1 qQ1 sf0 List.flatMap_cons List.flatMap_nil
end Go.Ai
namespace Go.Ai
open Go.RowKit
variable {P : Program} {tab : Tab}
attribute [go_sem] zs0
end Go.Ai
namespace Go.Ai
open Go.RowKit
variable {P : Program} {tab : Tab}
def dW1 : LB → AV
 | .var _ => .one (.ptr 9001 0)
 | .arr _ _ rows _ => .one (.own 9001 rows.length)
 | _ => .any
def kl1 (tab : Tab) (rs : List ResultVar) (r : AV) (B' : LB) (s : St) : Prop :=
 match kG0 tab s rs with
 | some (p, vs) => p ∧ xb0 s.lb vs ∧ zy0 (cp0 s.lb vs) = r ∧ 9001 ∉ vs.flatMap AV.owns ∧ s.lb 9001 = some B' ∧ s.gh = [dW1 B']
 | none => False
def lJ1 (tab : Tab) (rs : List ResultVar) (r : AV) (B' : LB) : Exit → St → Prop
 | .normal, s => kl1 tab rs r B' s
 | .ret, s => kl1 tab rs r B' s
 | _, _ => False
def kj1 (tab : Tab) (rs : List ResultVar) (cells : List AC) (s : St) : Prop :=
 match kG0 tab s rs with
 | some (p, [.one (.ptr l off)]) => p ∧ off = 0 ∧ s.lb l = some (.var cells)
 | _ => False
def lI1 (tab : Tab) (rs : List ResultVar) (cells : List AC) : Exit → St → Prop
 | .normal, s => kj1 tab rs cells s
 | .ret, s => kj1 tab rs cells s
 | _, _ => False
attribute [go_sem] kl1 kj1 gA0 dW1
theorem ze1 : ∀ (ls : List Nat) (s : St), (s.frzs ls).gh = s.gh
 | [], _ => rfl
 | l :: ls, s => ze1 ls (s.frz l)
end Go.Ai
namespace Go.Ai
open Go.RowKit
variable {P : Program} {tab : Tab}
def yj0 (k : Nat) : Nat → List Nat
 | 0 => []
 | m + 1 => k :: yj0 (k + 1) m
theorem ns0 : ∀ (m k : Nat), (yj0 k m).length = m
 | 0, _ => rfl
 | m + 1, k => by simp [yj0, ns0 m]
theorem qR1 : ∀ (m k l : Nat), l ∈ yj0 k m → k ≤ l
 | m + 1, k, l, h => by
  simp only [yj0, List.mem_cons] at h
  rcases h with rfl | h
  ·exact Nat.le_refl _
  ·have := qR1 m (k + 1) l h; omega
theorem bB0 : ∀ (m k : Nat), (yj0 k m).Nodup
 | 0, _ => List.nodup_nil
 | m + 1, k => List.nodup_cons.2 ⟨fun h => by have := qR1 m (k + 1) k h; omega, bB0 m (k + 1)⟩
def yh0 (ρ : Nat → Nat) : List Nat → List LB → List (Nat × LB)
 | l :: ls, B :: Bs => (l, B.ren ρ) :: yh0 ρ ls Bs
 | _, _ => []
theorem ft0 (ρ : Nat → Nat) : ∀ (ls : List Nat) (Bs : List LB), ls.length = Bs.length → ∀ k, (pos ls k = none → zR0 (yh0 ρ ls Bs) k = none) ∧ ∀ j B, pos ls k = some j → Bs[j]? = some B → zR0 (yh0 ρ ls Bs) k = some (B.ren ρ)
 | [], [], _, k => ⟨fun _ => rfl, fun j B h => by simp [pos] at h⟩
 | l :: ls, B :: Bs, hl, k => by
  obtain ⟨i1, i2⟩ := ft0 ρ ls Bs (by simpa using hl) k
  by_cases e : k = l
  ·subst e
   refine ⟨fun h => by simp [pos] at h, fun j B' hp hB => ?_⟩
   simp only [pos, if_true, Option.some.injEq] at hp
   subst hp
   simp at hB
   subst hB
   simp [yh0, zR0]
  ·refine ⟨fun h => ?_, fun j B' hp hB => ?_⟩
   ·simp only [pos, if_neg e, Option.map_eq_none_iff] at h
    simp only [yh0, zR0, if_neg e]; exact i1 h
   ·simp only [pos, if_neg e, Option.map_eq_some_iff] at hp
    obtain ⟨i, hi, rfl⟩ := hp
    simp only [yh0, zR0, if_neg e]; exact i2 i B' hi (by simpa using hB)
 | [], _ :: _, hl, _ => by simp at hl
 | _ :: _, [], hl, _ => by simp at hl
def a0X (l : Nat) : LB → AV
 | .var _ => .one (.ptr l 0)
 | .arr _ _ rows _ => .one (.own l rows.length)
 | _ => .any
def ghX : List Nat → List LB → List AV
 | l :: ls, B :: Bs => a0X l B :: ghX ls Bs
 | _, _ => []
def v0X (g : Gh) (j : Nat) : LB → Value
 | .var _ => .pointer (some ⟨g.bl j, 0, none⟩)
 | .arr _ _ _ _ => g.hd j
 | _ => undef
def gvX (g : Gh) (j : Nat) : List LB → List Value
 | B :: Bs => v0X g j B :: gvX g (j + 1) Bs
 | [] => []
theorem zh1 {w : World} {F : Fz} {lb : Lk} {g1 g : Gh} : ∀ (Bs : List LB) (ls : List Nat) (j : Nat), ls.length = Bs.length → (∀ (i : Nat) B l, Bs[i]? = some B → ls[i]? = some l → RepAV w F lb g1 (a0X l B) (v0X g (j + i) B)) → RepAVs w F lb g1 (ghX ls Bs) (gvX g j Bs)
 | [], [], _, _, _ => rfl
 | B :: Bs, l :: ls, j, hl, h => by
  refine ⟨_, _, rfl, by simpa using h 0 B l rfl rfl, zh1 Bs ls (j + 1) (by simpa using hl) (fun i B' l' h1 h2 => ?_)⟩
  have := h (i + 1) B' l' (by simpa using h1) (by simpa using h2)
  rwa [show j + 1 + i = j + (i + 1) by omega]
 | [], _ :: _, _, hl, _ => by simp at hl
 | _ :: _, [], _, hl, _ => by simp at hl
theorem zg1 {w : World} {F : Fz} {lb : Lk} {g1 g : Gh} : ∀ (Bs : List LB) (ls : List Nat) (j : Nat), RepAVs w F lb g1 (ghX ls Bs) (gvX g j Bs) → ∀ (i : Nat) B l, Bs[i]? = some B → ls[i]? = some l → RepAV w F lb g1 (a0X l B) (v0X g (j + i) B)
 | B :: Bs, l :: ls, j, h, i, B', l', h1, h2 => by
  simp only [ghX, gvX, RepAVs] at h
  obtain ⟨u, us', he, h3, h4⟩ := h
  obtain ⟨rfl, rfl⟩ := List.cons.inj he
  cases i with
  | zero => simp at h1 h2; subst h1 h2; exact h3
  | succ i =>
   have := zg1 Bs ls (j + 1) h4 i B' l' (by simpa using h1) (by simpa using h2)
   rwa [show j + 1 + i = j + (i + 1) by omega] at this
 | [], _, _, _, i, B', l', h1, _ => by simp at h1
 | _ :: _, [], _, _, i, B', l', _, h2 => by simp at h2
def xW1 (lb : Lk) (ρ : Nat → Nat) : List Nat → List LB → Prop
 | [], [] => True
 | l :: ls, B :: Bs => (B = .dead ∨ lb l = some (B.ren ρ)) ∧ xW1 lb ρ ls Bs
 | _, _ => False
theorem nY0 {lb : Lk} {ρ : Nat → Nat} : ∀ {ls : List Nat} {Bs : List LB}, xW1 lb ρ ls Bs → ∀ (j : Nat) B, Bs[j]? = some B → ∃ l, ls[j]? = some l ∧ (B = .dead ∨ lb l = some (B.ren ρ))
 | [], [], _, j, B, h => by simp at h
 | l :: ls, B :: Bs, h, j, B', hj => by
  cases j with
  | zero => simp at hj; subst hj; exact ⟨l, rfl, h.1⟩
  | succ j => simpa using nY0 h.2 j B' (by simpa using hj)
 | [], _ :: _, h, _, _, _ => h.elim
 | _ :: _, [], h, _, _, _ => h.elim
def dy0 : LB → LB → Prop
 | _, .dead => True
 | .var _, .var _ => True
 | .arr _ sz _ _, .arr _ sz' _ _ => sz = sz'
 | _, _ => False
def bz0 : List LB → List LB → Prop
 | [], _ => True
 | B :: Bs, B' :: Bs' => dy0 B B' ∧ bz0 Bs Bs'
 | _ :: _, [] => False
theorem dz0 : ∀ {Bs Bs' : List LB}, bz0 Bs Bs' → ∀ (j : Nat) B, Bs[j]? = some B → ∃ B', Bs'[j]? = some B' ∧ dy0 B B'
 | [], _, _, j, B, h => by simp at h
 | B :: Bs, B' :: Bs', h, j, C, hj => by
  cases j with
  | zero => simp at hj; subst hj; exact ⟨B', rfl, h.1⟩
  | succ j => simpa using dz0 h.2 j C (by simpa using hj)
 | _ :: _, [], h, _, _, _ => h.elim
def wc1 : AV → List AV
 | .tup vs => vs
 | v => [v]
def tE0 (tab : Tab) (rs : List ResultVar) (Bs Bs' : List LB) (r : AV) (s : St) : Prop :=
 match kG0 tab s rs with
 | some (p, vs) => p ∧ ∃ ns, (yj0 9000 Bs.length ++ ns).Nodup ∧ (yj0 9000 Bs.length ++ ns).length = Bs'.length ∧ xW1 s.lb (idx (yj0 9000 Bs.length ++ ns)) (yj0 9000 Bs.length ++ ns) Bs' ∧ s.gh = ghX (yj0 9000 Bs.length) Bs ∧
   sE0 s.lb (idx (yj0 9000 Bs.length ++ ns)) Bs'.length (yj0 9000 Bs.length ++ ns) vs (wc1 r)
 | none => False
def mi0 (tab : Tab) (rs : List ResultVar) (Bs Bs' : List LB) (r : AV) : Exit → St → Prop
 | .normal, s => tE0 tab rs Bs Bs' r s
 | .ret, s => tE0 tab rs Bs Bs' r s
 | _, _ => False
theorem qo1 {rs : List ResultVar} {Bs Bs' : List LB} {r : AV} {s : St} : mi0 tab rs Bs Bs' r .ret s = tE0 tab rs Bs Bs' r s := rfl
attribute [go_sem] qo1 tE0
theorem zu1 {w : World} {F : Fz} {lb : Lk} {g : Gh} {ds : List AV} {us : List Value} (h : RepAVs w F lb g ds us) : RepAV w F lb g (zy0 ds) (sU0 us) := by
 cases ds with
 | nil =>
  simp only [RepAVs] at h
  subst h
  simp only [zy0, RepAV, RepAVs]
  exact ⟨[], rfl, rfl⟩
 | cons d ds =>
  simp only [RepAVs] at h
  obtain ⟨u, us', rfl, k1, k2⟩ := h
  cases ds with
  | nil => simp only [RepAVs] at k2; subst k2; exact k1
  | cons d' ds =>
   simp only [RepAVs] at k2
   obtain ⟨u', us', rfl, k3, k4⟩ := k2
   simp only [zy0, RepAV, RepAVs]
   exact ⟨u :: u' :: us', rfl, u, u' :: us', rfl, k1, u', us', rfl, k3, k4⟩
theorem pp0 (hT : zU0 P tab) {f : FuncId} {fn : Func} {c : Code} {args : List AV} {Bs Bs' : List LB} {r : AV} {rs : List ResultVar} {n : Nat} (hf : P.funcs[f]? = some fn) (hb : fn.body = some c) (hr : fn.results.toList = rs) (hn : fn.ntmps = n) (hname : fn.name ≠ "runtime.NumGoroutine")
  (hlen : args.length ≤ n) (hA : args.all (lJ0 Bs.length) = true) (hok : (Bs.all (okP Bs.length)) = true) (hok' : (Bs'.all (okX Bs'.length)) = true) (hrx : qS1 Bs'.length r = true) (hlike : bz0 Bs Bs') (hj : zy0 (wc1 r) = r)
  (h : AWP P c (mi0 tab rs Bs Bs' r) (mk n (qN0 0 (args.map (AV.ren1 (idx (yj0 9000 Bs.length))))) (yh0 (idx (yj0 9000 Bs.length)) (yj0 9000 Bs.length) Bs) (ghX (yj0 9000 Bs.length) Bs))) : fL0 P f args Bs Bs' r := by
 subst hr hn
 refine ⟨⟨fn, hf, hname, by rw [hb]; simp⟩, hok, hok', hrx, fun w F g us hF hargs hX => ?_⟩
 have hls := ns0 Bs.length 9000
 have hnd0 := bB0 Bs.length 9000
 generalize hls0 : yj0 9000 Bs.length = ls at *
 have lk := ft0 (idx ls) ls Bs hls
 have at_ : ∀ j B, Bs[j]? = some B → ∃ l, ls[j]? = some l ∧ idx ls j = l ∧ pos ls l = some j ∧ zR0 (yh0 (idx ls) ls Bs) l = some (B.ren (idx ls)) ∧ okX Bs.length B = true ∧ jL0 B = true := by
  intro j B hjB
  have hjl : j < ls.length := by rw [hls]; exact (List.getElem?_eq_some_iff.1 hjB).1
  have e1 : ls[j]? = some ls[j] := List.getElem?_eq_getElem hjl
  have hp := va0 hnd0 e1
  have := List.all_eq_true.1 hok B (List.mem_of_getElem? hjB)
  simp only [okP, Bool.and_eq_true] at this
  exact ⟨ls[j], e1, yI0 e1, hp, (lk _).2 j B hp hjB, this.1, this.2⟩
 have back : ∀ k B, zR0 (yh0 (idx ls) ls Bs) k = some B → ∃ j B0, pos ls k = some j ∧ Bs[j]? = some B0 ∧ B = B0.ren (idx ls) ∧ idx ls j = k := by
  intro k B hk
  cases hp : pos ls k with
  | none => rw [(lk k).1 hp] at hk; cases hk
  | some j =>
   have h1 := yB0 hp
   have hjl := (List.getElem?_eq_some_iff.1 h1).1
   rw [hls] at hjl
   have hb0 : Bs[j]? = some Bs[j] := List.getElem?_eq_getElem hjl
   rw [(lk k).2 j _ hp hb0] at hk
   exact ⟨j, Bs[j], rfl, hb0, (Option.some.inj hk).symm, yI0 h1⟩
 have gS : ∀ k j, pos ls k = some j → (g0.push g ls).bl k = g.bl j ∧ (g0.push g ls).hd k = g.hd j ∧ (g0.push g ls).ds k = g.ds j := by
  intro k j hp; simp only [Gh.push, hp]; exact ⟨trivial, trivial, trivial⟩
 have T : Tr Bs.length (fun l => l) (idx ls) (lkL Bs) g (zR0 (yh0 (idx ls) ls Bs)) (g0.push g ls) := by
  refine ⟨fun l hl B hlb => ?_⟩
  obtain ⟨k, k1, k2, k3, k4, _⟩ := at_ l B hlb
  obtain ⟨e0, e1, _⟩ := gS k l k3
  refine ⟨B.ren (idx ls), by rw [k2]; exact k4, fun n u hq => ?_, fun off u hq => ?_⟩
  ·rw [k2, e1]; exact ownB_ren.2 hq
  ·rw [k2, e0]; exact ptrB_ren.2 hq
 have repI : ∀ (j : Nat) (B : LB) (k : Nat), Bs[j]? = some B → ls[j]? = some k → RepLB w F (zR0 (yh0 (idx ls) ls Bs)) (g0.push g ls) k (B.ren (idx ls)) ∧ SoftOk F (g0.push g ls) k (B.ren (idx ls)) := by
  intro j B k hjB hk
  obtain ⟨k', k1, k2, k3, k4, k5, _⟩ := at_ j B hjB
  rw [hk] at k1
  obtain rfl := Option.some.inj k1
  obtain ⟨e0, e1, e2⟩ := gS k j k3
  have q1 := yt1 (j := j) (ρ := fun l => l) T k5 (by rw [k2]; exact e0) (by rw [k2]; exact e1) (by rw [k2]; exact e2) (by rw [LB.ren_id]; exact hX.lb j B hjB)
  have q2 := ch0 (F := F) (σ := idx ls) (j := j) (ρ := fun l => l) (g := g) (g' := g0.push g ls) (B := B) (by rw [k2]; exact e0) (by rw [k2]; exact e1) (by rw [k2]; exact e2) (by rw [LB.ren_id]; exact hX.so j B hjB)
  rw [k2] at q1 q2
  exact ⟨q1, q2⟩
 have hun : ∀ b, InX g Bs b → ∀ o, ¬ F b o := by
  rintro b ⟨j, B, hjB, hbm⟩
  obtain ⟨k, k1, k2, k3, k4, k5, k6⟩ := at_ j B hjB
  obtain ⟨q1, q2⟩ := repI j B k hjB k1
  exact jS1 k5 k6 q1 q2 b (by rw [(gS k j k3).2.2]; exact hbm)
 obtain ⟨S, hS⟩ : ∃ S : List Nat, ∀ b, b ∈ S ↔ InX g Bs b := by
  refine ⟨(List.range Bs.length).flatMap g.ds, fun b => ?_⟩
  rw [List.mem_flatMap]
  constructor
  ·rintro ⟨j, hj, hbm⟩
   exact ⟨j, _, List.getElem?_eq_getElem (List.mem_range.1 hj), hbm⟩
  ·rintro ⟨j, B, hj, hbm⟩
   exact ⟨j, List.mem_range.2 (List.getElem?_eq_some_iff.1 hj).1, hbm⟩
 have hargs1 : RepAVs w F (zR0 (yh0 (idx ls) ls Bs)) (g0.push g ls) (args.map (AV.ren1 (idx ls))) us := nA0 (ρ := fun l => l) T hA (by rw [xx0]; exact hargs)
 have hal := RepAVs.len _ _ hargs1
 rw [List.length_map] at hal
 have hsim : Sim w ⟨S, gvX g 0 Bs⟩ F F (g0.push g ls) (mk fn.ntmps (qN0 0 (args.map (AV.ren1 (idx ls)))) (yh0 (idx ls) ls Bs) (ghX ls Bs)) { tmps := us.toArray ++ Array.replicate (fn.ntmps - us.toArray.size) undef, defers := [] } w := {
  sz := by
   simp only [xc1, Array.size_append, List.size_toArray, Array.size_replicate]
   omega
  df := rfl
  sl := fun i => by
   have e : us.toArray ++ Array.replicate (fn.ntmps - us.toArray.size) undef = (us ++ List.replicate (fn.ntmps - us.length) undef).toArray := by simp
   simp only [cB0, qs0, e, jG0]
   rcases kZ0 _ us 0 i (List.replicate (fn.ntmps - us.length) undef) hargs1 with h | ⟨_, _, h⟩
   ·rw [h]; simp only [RepAV]
   ·exact h
  gh := by
   refine zh1 Bs ls 0 hls (fun i B l h1 h2 => ?_)
   obtain ⟨k, k1, k2, k3, k4, k5, k6⟩ := at_ i B h1
   rw [h2] at k1
   obtain rfl := Option.some.inj k1
   obtain ⟨e0, e1, _⟩ := gS l i k3
   rw [Nat.zero_add]
   cases B with
   | var cells =>
    simp only [a0X, v0X, RepAV, RepAC, qs0]
    exact ⟨rfl, _, k4, by simp only [LB.ren, za0, e0]⟩
   | arr e sz rows fz =>
    have hone : (g.hd i).oneCell' = true := by
     obtain ⟨_, _, xs, _, hown, _⟩ := hX.lb i _ h1
     rcases hown.2 with ⟨e1, _⟩ | ⟨_, _, _, e1, _⟩ <;> (have e1 : g.hd i = _ := e1; rw [e1]; rfl)
    simp only [a0X, v0X, RepAV, RepAC, qs0]
    exact ⟨hone, _, k4, by simp only [LB.ren, zK0, e1, List.length_map]; exact ⟨Nat.le_refl _, fun _ => trivial⟩⟩
   | tok x => exact absurd k5 (by simp [okX])
   | dead => exact absurd k6 (by simp [jL0])
  lb := fun k B hk => by
   obtain ⟨j, B0, hp, hB0, rfl, _⟩ := back k B hk
   exact (repI j B0 k hB0 (yB0 hp)).1
  so := fun k B hk => by
   obtain ⟨j, B0, hp, hB0, rfl, _⟩ := back k B hk
   exact (repI j B0 k hB0 (yB0 hp)).2
  nd := fun k B hk => by
   obtain ⟨j, B0, hp, hB0, rfl, _⟩ := back k B hk
   rw [(gS k j hp).2.2]; exact hX.nd j B0 hB0
  dj := fun k k' B B' hne hk hk' b hb1 hb2 => by
   obtain ⟨j, B0, hp, hB0, rfl, e⟩ := back k B hk
   obtain ⟨j', B0', hp', hB0', rfl, e'⟩ := back k' B' hk'
   rw [(gS k j hp).2.2] at hb1
   rw [(gS k' j' hp').2.2] at hb2
   refine hX.dj j j' B0 B0' ?_ hB0 hB0' b hb1 hb2
   rintro rfl
   exact hne (e.symm.trans e')
  nw := fun k B hk b hb1 => by
   obtain ⟨j, B0, hp, hB0, rfl, _⟩ := back k B hk
   rw [(gS k j hp).2.2] at hb1
   exact ⟨.inr ((hS b).2 ⟨j, B0, hB0, hb1⟩), hX.nw j B0 hB0 b hb1⟩
  f0 := fun _ _ h => h
  f1 := fun _ _ h => .inl h
  f2 := hF.lt
  tb := hF.tb.start (fun b hb o => hun b ((hS b).1 hb) o)
  os := rfl
  tape := rfl
  output := rfl
  size := Nat.le_refl _
  block := fun _ _ _ => rfl }
 refine calls_of_wp hf hb (wp_mono (h w ⟨S, gvX g 0 Bs⟩ F _ w ⟨F, g0.push g ls, hsim⟩) ?_)
 rintro ex a' w' ⟨s', hq, F1, g2, hs'⟩
 have main : tE0 tab fn.results.toList Bs Bs' r s' → ∃ v, (results fn a'.tmps).run P w' = .ok v w' ∧ ∃ v1 F' g', Ending.returned v = .returned v1 ∧ RepAV w' F' (lkL Bs') g' r v1 ∧ OutX w F g Bs w' F' g' Bs' := by
  intro hq
  unfold tE0 at hq
  rw [hls0] at hq
  split at hq
  case h_2 => exact hq.elim
  rename_i p vs ho
  obtain ⟨hp, ns, hnd, hlen', hend, hghe, hcon⟩ := hq
  obtain ⟨us', hrun, hres⟩ := qR0 hT hs' rfl ho hp
  obtain ⟨F2, hs2, u1, p1⟩ := hs'.freezes (bC0 vs (wc1 r))
  have hcon := be0 hcon
  have hno := pa0 hcon
  generalize hos : bC0 vs (wc1 r) = os at hs2 p1 hno
  have hres2 := RepAVs.mono (w := w') (w' := w') ⟨u1, fun _ _ _ => rfl⟩ (Keeps.refl s'.lb g2) _ _ hres
  have endG := nY0 hend
  have lbq2 : ∀ l, l ∈ ls ++ ns → (s'.frzs os).lb l = s'.lb l := fun l hl => yP0 os s' l (fun hm => hno l hm hl)
  have hgh2 : (s'.frzs os).gh = ghX ls Bs := by rw [ze1]; exact hghe
  generalize s'.frzs os = s2 at hs2 lbq2 hgh2
  have ρL : ∀ j B, Bs'[j]? = some B → ∃ l, (ls ++ ns)[j]? = some l ∧ idx (ls ++ ns) j = l ∧ l ∈ ls ++ ns ∧ (B = .dead ∨ s'.lb l = some (B.ren (idx (ls ++ ns)))) := by
   intro j B hjB
   obtain ⟨l, h1, h2⟩ := endG j B hjB
   exact ⟨l, h1, yI0 h1, List.mem_of_getElem? h1, h2⟩
  generalize hρ : idx (ls ++ ns) = ρ at *
  obtain ⟨g3, hg3⟩ : ∃ g3 : Gh, g3 = ⟨fun j => g2.bl (ρ j), fun j => g2.hd (ρ j), fun j => match Bs'[j]? with | some .dead => [] | _ => g2.ds (ρ j)⟩ := ⟨_, rfl⟩
  have g3b : ∀ j, g3.bl j = g2.bl (ρ j) := fun j => by rw [hg3]
  have g3h : ∀ j, g3.hd j = g2.hd (ρ j) := fun j => by rw [hg3]
  have g3d : ∀ j B, Bs'[j]? = some B → (B = .dead ∧ g3.ds j = []) ∨ (s2.lb (ρ j) = some (B.ren ρ) ∧ g3.ds j = g2.ds (ρ j)) := by
   intro j B hjB
   obtain ⟨l, k1, k2, k3, k4⟩ := ρL j B hjB
   by_cases hd : B = .dead
   ·subst hd; exact .inl ⟨rfl, by rw [hg3]; simp [hjB]⟩
   ·have k4 := k4.resolve_left hd
    refine .inr ⟨by rw [k2, lbq2 l k3]; exact k4, ?_⟩
    cases B with
    | dead => exact absurd rfl hd
    | _ => rw [hg3]; simp [hjB]
  have T3 : ∀ lbq : Lk, (∀ l, l ∈ ls ++ ns → lbq l = s'.lb l) → Tr Bs'.length ρ (fun l => l) lbq g2 (lkL Bs') g3 := by
   intro lbq hq
   refine ⟨fun l hl B hlb => ?_⟩
   have hb0 : Bs'[l]? = some Bs'[l] := List.getElem?_eq_getElem hl
   obtain ⟨k, k1, k2, k3, k4⟩ := ρL l _ hb0
   rw [k2, hq k k3] at hlb
   refine ⟨Bs'[l], hb0, ?_⟩
   generalize Bs'[l] = B0 at *
   rcases k4 with rfl | k4
   ·exact ⟨fun _ _ _ => trivial, fun _ _ _ => trivial⟩
   ·rw [hlb] at k4
    obtain rfl := Option.some.inj k4
    rw [g3h, g3b]
    exact ⟨fun n u hq => ownB_ren.1 hq, fun off u hq => ptrB_ren.1 hq⟩
  have okB' : ∀ j B, Bs'[j]? = some B → okX Bs'.length B = true := fun j B hjB => List.all_eq_true.1 hok' B (List.mem_of_getElem? hjB)
  have ρne : ∀ j j' B B', j ≠ j' → Bs'[j]? = some B → Bs'[j']? = some B' → ρ j ≠ ρ j' := by
   intro j j' B B' hne hjB hjB' he
   obtain ⟨k, k1, k2, _⟩ := ρL j B hjB
   obtain ⟨k', k1', k2', _⟩ := ρL j' B' hjB'
   have : k = k' := by rw [← k2, ← k2', he]
   subst this
   exact hne (Option.some.inj ((va0 hnd k1).symm.trans (va0 hnd k1')))
  have hrep : RepX w' F2 g3 Bs' := by
   refine ⟨fun j B hjB => ?_, fun j B hjB => ?_, fun j B hjB => ?_, fun j j' B B' hne hjB hjB' b hb1 hb2 => ?_, fun j B hjB b hb1 => ?_⟩
   ·rcases g3d j B hjB with ⟨rfl, _⟩ | ⟨h1, h2⟩
    ·trivial
    ·have := yt1 (j := j) (T3 s2.lb lbq2) (okB' j B hjB) (g3b j) (g3h j) h2 (hs2.lb _ _ h1)
     rwa [LB.ren_id] at this
   ·rcases g3d j B hjB with ⟨rfl, _⟩ | ⟨h1, h2⟩
    ·trivial
    ·have := ch0 (F := F2) (j := j) (σ := fun l => l) (g' := g3) (g3b j) (g3h j) h2 (hs2.so _ _ h1)
     rwa [LB.ren_id] at this
   ·rcases g3d j B hjB with ⟨rfl, h2⟩ | ⟨h1, h2⟩
    ·rw [h2]; exact List.nodup_nil
    ·rw [h2]; exact hs2.nd _ _ h1
   ·rcases g3d j B hjB with ⟨rfl, h2⟩ | ⟨h1, h2⟩
    ·rw [h2] at hb1; cases hb1
    ·rw [h2] at hb1
     rcases g3d j' B' hjB' with ⟨rfl, h2'⟩ | ⟨h1', h2'⟩
     ·rw [h2'] at hb2; cases hb2
     ·rw [h2'] at hb2
      exact hs2.dj _ _ _ _ (ρne j j' B B' hne hjB hjB') h1 h1' b hb1 hb2
   ·rcases g3d j B hjB with ⟨rfl, h2⟩ | ⟨h1, h2⟩
    ·rw [h2] at hb1; cases hb1
    ·rw [h2] at hb1; exact (hs2.nw _ _ h1 b hb1).2
  refine ⟨_, hrun, _, F2, g3, rfl, ?_, { rep := hrep, keep := ?_, src := ?_, up := hs2.f0, new := ?_, lt := hs2.f2, os := hs2.os, tape := hs2.tape, output := hs2.output, size := hs2.size, frame := ?_ }⟩
  ·have hv := pD0 hs' u1 (T3 s'.lb (fun _ _ => rfl)) hcon (by rw [hos]; exact p1) hres2
   rw [← hj]
   exact zu1 hv
  ·intro j B hjB
   obtain ⟨B', hB', hl1⟩ := dz0 hlike j B hjB
   refine ⟨B', hB', ?_⟩
   obtain ⟨l, k1, k2, k3, k4, k5, k6⟩ := at_ j B hjB
   have hgh := hs2.gh
   rw [hgh2] at hgh
   have hgj := zg1 Bs ls 0 hgh j B l hjB k1
   rw [Nat.zero_add] at hgj
   have hρl : ρ j = l := by
    rw [← hρ]
    exact yI0 (by rw [List.getElem?_append_left (List.getElem?_eq_some_iff.1 k1).1]; exact k1)
   rcases g3d j B' hB' with ⟨rfl, _⟩ | ⟨h1, _⟩
   ·exact ⟨fun _ _ _ => trivial, fun _ _ _ => trivial, fun _ _ _ _ _ => trivial, fun _ _ _ => trivial⟩
   ·rw [hρl] at h1
    rw [g3h, g3b, hρl]
    cases B with
    | var cells =>
     cases B' <;> simp only [dy0] at hl1
     ·simp only [a0X, v0X, RepAV, RepAC] at hgj
      obtain ⟨_, B2, hB2, hq⟩ := hgj
      rw [h1] at hB2
      obtain rfl := Option.some.inj hB2
      simp only [LB.ren, za0, Value.pointer.injEq, Option.some.injEq, Addr.mk.injEq, and_true] at hq
      rw [hq]
      exact ⟨fun _ _ _ => trivial, fun _ _ hq => hq, fun _ _ _ _ _ => trivial, fun _ _ _ => trivial⟩
     ·exact ⟨fun _ _ _ => trivial, fun _ _ _ => trivial, fun _ _ _ _ _ => trivial, fun _ _ _ => trivial⟩
    | arr e sz rows fz =>
     cases B' <;> simp only [dy0] at hl1
     ·subst hl1
      rename_i e' rows' fz'
      simp only [a0X, v0X, RepAV, RepAC] at hgj
      obtain ⟨_, B2, hB2, hq⟩ := hgj
      rw [h1] at hB2
      obtain rfl := Option.some.inj hB2
      simp only [LB.ren, zK0, List.length_map] at hq
      obtain ⟨hq1, hq2⟩ := hq
      refine ⟨fun n u hu => ?_, fun _ _ _ => trivial, fun n i off u hu => ?_, fun _ _ _ => trivial⟩
      ·simp only [zK0] at hu ⊢
       refine ⟨by omega, fun hn => ?_⟩
       rw [hu.2 (by omega), hq2 (by omega)]
      ·simp only [zx0] at hu ⊢
       refine ⟨by omega, fun hn => ?_⟩
       rw [← hq2 (by omega)]
       exact hu.2 (by omega)
     ·exact ⟨fun _ _ _ => trivial, fun _ _ _ => trivial, fun _ _ _ _ _ => trivial, fun _ _ _ => trivial⟩
    | tok x => exact absurd k5 (by simp [okX])
    | dead => exact absurd k6 (by simp [jL0])
  ·intro j B hjB b hb1
   rcases g3d j B hjB with ⟨rfl, h2⟩ | ⟨h1, h2⟩
   ·rw [h2] at hb1; cases hb1
   ·rw [h2] at hb1
    rcases (hs2.nw _ _ h1 b hb1).1 with hq | hq
    ·exact .inr hq
    ·exact .inl ((hS b).1 hq)
  ·intro b o hq
   rcases hs2.f1 b o hq with hq | hq | hq
   ·exact .inl hq
   ·exact .inr (.inl hq)
   ·exact .inr (.inr ((hS b).1 hq))
  ·exact fun k hk hn => hs2.block k hk (fun hm => hn ((hS k).1 hm))
 cases ex with
 | normal => exact ⟨hs'.df, main hq⟩
 | ret => exact ⟨hs'.df, main hq⟩
 | _ => exact hq.elim
theorem ct0 (ρ : Nat → Nat) (cs : List C) : (cs.map AC.c).map (AC.ren ρ) = cs.map AC.c := by
 induction cs with
 | nil => rfl
 | cons c cs ih => simp only [List.map_cons, AC.ren, ih]
theorem nH0 (m : Nat) (cs : List C) : (cs.map AC.c).all (okA m) = true := by
 induction cs with
 | nil => rfl
 | cons c cs ih => simp only [List.map_cons, List.all_cons, okA, ih, Bool.and_self]
theorem th0 (cs : List C) : (cs.map AC.c).any vz1 = false := by
 induction cs with
 | nil => rfl
 | cons c cs ih => simp only [List.map_cons, List.any_cons, vz1, ih, Bool.or_self]
attribute [go_sem] ct0 nH0 th0 AC.ren AV.ren1 AV.ren LB.ren okA lJ0 qS1 okX okP jL0 idx yj0 yh0 a0X ghX xW1 bz0 dy0 wc1 vz1 xg1 fy0 sE0 lH0 wa1 nU0 bC0 wv0 vp0 zy0
end Go.Ai
