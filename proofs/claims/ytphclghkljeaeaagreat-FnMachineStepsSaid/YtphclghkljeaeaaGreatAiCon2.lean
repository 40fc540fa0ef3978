/- Steps that name different blocks may be exchanged, writes among them. -/
import Derived.Test.YtphclghkljeaeaaGreatAiRegion
import Derived.Test.YtphclghkljeaeaaGreatAiRow2
set_option linter.unusedVariables false
set_option linter.unusedSimpArgs false
namespace Go.Ai
open Go.RowKit
variable {P : Program} {tab : Tab} {ops : Array Oper}
def zo0 (o : Oper) : Array Operand := match o.op with
 | .store _ p _ => #[p]
 | _ => o.op.operands
theorem nM0 {o : Oper} {z : Operand} (h : z ∈ (zo0 o).toList) : z ∈ o.op.operands.toList := by
 unfold zo0 at h
 split at h
 ·rename_i t p x hop
  simp only [List.mem_singleton] at h
  subst h
  simp [hop, Op.operands]
 ·exact h
theorem cr0 {o : Oper} (h : qS0 o = false) : (zo0 o) = o.op.operands := by
 unfold zo0
 split
 ·rename_i hop; simp [qS0, hop] at h
 ·rfl
theorem kL0 {o : Oper} {c : Call} (h : o.op = .call c) : (zo0 o) = o.op.operands := by unfold zo0; rw [h]
theorem gn0 {o : Oper} {t : TypeId} {x : Operand} {lo hi m : Option Operand} (h : o.op = .slice t x lo hi m) : (zo0 o) = o.op.operands := by unfold zo0; rw [h]
theorem wp0 {o : Oper} {k : Tmp} (h : k ∈ yC0 (zo0 o)) : k ∈ o.looksAt ops := by
 refine qc0 ?_
 simp only [yC0, List.mem_filterMap] at h ⊢
 obtain ⟨z, hz, e⟩ := h
 exact ⟨z, nM0 hz, e⟩
structure AgreeE (ops : Array Oper) (o : Oper) (s t : St) : Prop where
 sl : ∀ k, k ∈ o.looksAt ops → t.sl k = s.sl k
 lb : ∀ x, x ∈ (zo0 o).toList → ∀ l, l ∈ (opv s x).refs → t.lb l = s.lb l
 dn : ∀ d, o.dst = some d → s.lb d = none → t.lb d = none
 n : t.n = s.n
inductive FormU (o : Oper) (s : St) : (Lk → Lk) → Prop
 | id : FormU o s (fun lb => lb)
 | put (d : Nat) (B : LB) (hd : o.dst = some d) (hn : s.lb d = none) : FormU o s (vC0 d B)
 | frz (ls : List Nat) (h : ∀ l, l ∈ ls → ∃ x, x ∈ (zo0 o).toList ∧ l ∈ (opv s x).refs) : FormU o s (vB0 ls)
 | upd (l : Nat) (B : LB) (h : ∃ x, x ∈ (zo0 o).toList ∧ l ∈ (opv s x).refs) : FormU o s (vC0 l B)
theorem Form.toU {o : Oper} {s : St} {φ : Lk → Lk} (hw : zo0 o = o.op.operands) (h : Form o s φ) : FormU o s φ := by
 cases h with
 | id => exact .id
 | put d B hd hn => exact .put d B hd hn
 | frz ls h => exact .frz ls (by rw [hw]; exact h)
theorem nT0 {lb lb' : Lk} {y : AV} (h : ∀ l, l ∈ y.refs → lb' l = lb l) : pz0 lb' y = pz0 lb y := by
 unfold pz0
 split <;> try rfl
 rename_i l n
 rw [h l (by simp [AV.refs, AC.refs])]
theorem cL0 {lb lb' : Lk} {d : Nat} {e : TypeId} {x y : AV} (hx : ∀ l, l ∈ x.refs → lb' l = lb l) (hy : ∀ l, l ∈ y.refs → lb' l = lb l) : jq0 tab lb' d e x y = jq0 tab lb d e x y := by
 have hm := nT0 hy
 unfold jq0
 rw [hm]
 split <;> try rfl
 split <;> try rfl
 rename_i l n
 rw [hx l (by simp [AV.refs, AC.refs])]
theorem ln0 {lb lb' : Lk} {t : TypeId} {p x : AV} (hp : ∀ l, l ∈ p.refs → lb' l = lb l) : vg0 tab lb' t p x = vg0 tab lb t p x := by
 unfold vg0
 split <;> try rfl
 ·rw [hp _ (by simp [AV.refs, AC.refs])]
 ·rw [hp _ (by simp [AV.refs, AC.refs])]
theorem nb0 {s s' : St} {o : Oper} (hs : ∀ t, t ∈ yC0 o.op.operands → s'.sl t = s.sl t) (hl : ∀ x, x ∈ (zo0 o).toList → ∀ l, l ∈ (opv s x).refs → s'.lb l = s.lb l) : vV0 tab o s' = vV0 tab o s := by
 by_cases hw : qS0 o = false
 ·rw [cr0 hw] at hl
  exact xF0 hw hs (fun x hx l h => by rw [hl x hx l h]; exact eqv.refl _)
 ·have O : ∀ x, x ∈ o.op.operands.toList → opv s' x = opv s x := fun x hx => wV0 hs hx
  unfold vV0
  split
  ·rfl
  ·rename_i t x hop; exact absurd (by simp [qS0, hop]) hw
  ·rename_i t len parts hop; exact absurd (by simp [qS0, hop]) hw
  ·rename_i t x y hop; exact absurd (by simp [qS0, hop]) hw
  ·rename_i t p x hop
   have hp : p ∈ o.op.operands.toList := by simp [hop, Op.operands]
   rw [O p hp, O x (by simp [hop, Op.operands])]
   exact ln0 (hl p (by simp [zo0, hop]))
  ·rename_i c hop
   rw [kL0 hop] at hl
   have hpure := kt0 (tab := tab) hs (fun x hx l h => by rw [hl x hx l h]; exact eqv.refl _)
   have C : ∀ x, x ∈ c.args.toList → x ∈ o.op.operands.toList := fun x hx => by
    simp only [hop, Op.operands, Call.operands, Array.toList_append, List.mem_append]; exact .inr hx
   unfold xz0
   split
   ·split
    ·rename_i x y t t' ha ht
     have hx := C x (by simp [ha])
     have hy := C y (by simp [ha])
     rw [O x hx, O y hy]
     split
     ·split
      ·exact cL0 (hl x hx) (hl y hy)
      ·rfl
     ·rfl
    ·rfl
   ·unfold kA0 at hpure
    simp only [hop] at hpure
    rw [hpure]
  ·rename_i h1 h2 h3 h4 h5 h6
   have hs0 : qS0 o = false := by
    unfold qS0
    split <;> simp_all
   exact absurd hs0 hw
theorem xr1 {o : Oper} {s : St} {pr : Prop} {v : AV} {l : Nat} {B : LB} (h : vV0 tab o s = some (pr, .upd v l B)) : ∃ x, x ∈ (zo0 o).toList ∧ l ∈ (opv s x).refs := by
 unfold vV0 at h
 split at h
 ·cases ht : tab _ <;> rw [ht] at h <;> cases h
 ·cases ht : (opv s _).cs <;> rw [ht] at h <;> cases h
 ·split at h
  ·split at h
   ·split at h
    ·rename_i x _ _ _ _ _
     cases hf : kk0 _ _ _ <;> rw [hf] at h <;> cases h
    ·cases h
   ·cases h
  ·cases h
 ·split at h
  ·split at h
   ·split at h
    ·cases h
    ·cases h
   ·cases h
  ·cases h
 ·rename_i t p x hop
  refine ⟨p, by simp [zo0, hop], ?_⟩
  unfold vg0 at h
  split at h
  ·rename_i hp _
   split at h
   ·split at h
    ·cases h; rw [hp]; simp [AV.refs, AC.refs]
    ·cases h
   ·cases h
  ·rename_i hp _
   split at h
   ·split at h
    ·cases h; rw [hp]; simp [AV.refs, AC.refs]
    ·cases h
   ·cases h
  ·cases h
 ·rename_i c hop
  unfold xz0 at h
  split at h
  ·split at h
   ·rename_i x y t t' ha ht
    have hx : x ∈ o.op.operands.toList := by
     simp only [hop, Op.operands, Call.operands, Array.toList_append, List.mem_append]; exact .inr (by simp [ha])
    refine ⟨x, by rw [kL0 hop]; exact hx, ?_⟩
    split at h
    ·split at h
     ·unfold jq0 at h
      split at h
      ·cases h
      ·split at h
       ·rename_i hp
        split at h
        ·split at h
         ·cases h; rw [hp]; simp [AV.refs, AC.refs]
         ·cases h
        ·cases h
       ·split at h
        ·cases h
        ·split at h <;> cases h
        ·cases h
       ·split at h
        ·cases h
        ·split at h <;> cases h
        ·cases h
       ·cases h
     ·cases h
    ·cases h
   ·cases h
  ·cases hf : yj0 tab s c <;> rw [hf] at h <;> cases h
 ·cases hf : kA0 tab o s <;> rw [hf] at h <;> cases h
theorem vc0 {o : Oper} {s s' : St} (h : ki0 P tab ops o s s') : ∃ φ v, s' = s.app φ o.dst v ∧ FormU o s φ ∧ ∀ t, AgreeE ops o s t → ki0 P tab ops o t (t.app φ o.dst v) := by
 by_cases hw : qS0 o = false
 ·obtain ⟨φ, v, h1, h2, h3⟩ := vf0 hw h
  exact ⟨φ, v, h1, h2.toU (cr0 hw), fun t ha => h3 t ⟨ha.sl, fun x hx l hl => by rw [ha.lb x (by rw [cr0 hw]; exact hx) l hl]; exact eqv.refl _, ha.dn, ha.n⟩⟩
 ·rcases h with ⟨hwant, hact⟩ | ⟨hwant, hd, rfl⟩
  ·rcases hact with ⟨pr, e, ho, hp, hk, rfl⟩ | hc
   ·have cong : ∀ t, AgreeE ops o s t → vV0 tab o t = some (pr, e) := fun t ha => by
     rw [← ho]; exact nb0 (fun k hk => ha.sl k (qc0 hk)) ha.lb
    cases e with
    | val v => exact ⟨fun lb => lb, v, rfl, .id, fun t ha => .inl ⟨want_congr ha.sl hwant, .inl ⟨pr, .val v, cong t ha, hp, by simp only [Eff.ok] at hk ⊢; rw [ha.n]; exact hk, rfl⟩⟩⟩
    | new v B =>
     obtain ⟨d, hd, hn, hf⟩ := hk
     exact ⟨vC0 d B, v, vp0 hd, .put d B hd hf, fun t ha => .inl ⟨want_congr ha.sl hwant, .inl ⟨pr, .new v B, cong t ha, hp, ⟨d, hd, by rw [ha.n]; exact hn, ha.dn d hd hf⟩, (vp0 hd).symm⟩⟩⟩
    | upd v l B => exact ⟨vC0 l B, v, rfl, .upd l B (xr1 ho), fun t ha => .inl ⟨want_congr ha.sl hwant, .inl ⟨pr, .upd v l B, cong t ha, hp, by simp only [Eff.ok] at hk ⊢; rw [ha.n]; exact hk, rfl⟩⟩⟩
   ·obtain ⟨φ, v, h1, h2, h3⟩ := jQ0 (ops := ops) hc
    have hk : zo0 o = o.op.operands := by
     obtain ⟨c, f, fid, hop, _⟩ := hc
     exact kL0 hop
    exact ⟨φ, v, h1, h2.toU hk, fun t ha => .inl ⟨want_congr ha.sl hwant, .inr (h3 t ⟨ha.sl, fun x hx l hl => by rw [ha.lb x (by rw [hk]; exact hx) l hl]; exact eqv.refl _, ha.dn, ha.n⟩)⟩⟩
  ·exact np1
theorem cb0 (ls : List Nat) : ∀ (lb : Lk) (k : Nat), vB0 ls lb k = if k ∈ ls then (lb k).map LB.frz else lb k := by
 induction ls with
 | nil => intro lb k; simp [vB0]
 | cons l ls ih =>
  intro lb k
  show vB0 ls (yU0 l lb) k = _
  rw [ih]
  have ff : ∀ x : Option LB, (x.map LB.frz).map LB.frz = x.map LB.frz := by
   intro x; cases x with
   | none => rfl
   | some B => cases B <;> rfl
  unfold yU0
  by_cases e1 : k ∈ ls <;> by_cases e2 : k = l <;> simp [e1, e2, ff]
def FormU.At (φ : Lk → Lk) (A : Nat → Prop) : Prop := ∃ f : Nat → Option LB → Option LB, (∀ lb k, φ lb k = f k (lb k)) ∧ ∀ k, ¬ A k → ∀ x, f k x = x
theorem qM1 {φ ψ : Lk → Lk} {A B : Nat → Prop} (h1 : FormU.At φ A) (h2 : FormU.At ψ B) (hd : ∀ k, A k → ¬ B k) (lb : Lk) : φ (ψ lb) = ψ (φ lb) := by
 obtain ⟨f, f1, f2⟩ := h1
 obtain ⟨g, g1, g2⟩ := h2
 funext k
 rw [f1, g1, g1, f1]
 by_cases hA : A k
 ·rw [g2 k (hd k hA), g2 k (hd k hA)]
 ·rw [f2 k hA, f2 k hA]
theorem kz1 (d : Nat) (B : LB) : FormU.At (vC0 d B) (fun k => k = d) :=
 ⟨fun k x => if k = d then some B else x, fun lb k => rfl, fun k hk x => by simp [show ¬ k = d from hk]⟩
theorem qN1 (ls : List Nat) : FormU.At (vB0 ls) (fun k => k ∈ ls) :=
 ⟨fun k x => if k ∈ ls then x.map LB.frz else x, fun lb k => cb0 ls lb k, fun k hk x => by simp [show ¬ k ∈ ls from hk]⟩
theorem bT1 : FormU.At (fun lb => lb) (fun _ => False) := ⟨fun _ x => x, fun _ _ => rfl, fun _ _ _ => rfl⟩
theorem mp0 {o : Oper} {s : St} {φ : Lk → Lk} (h : FormU o s φ) : ∃ A, FormU.At φ A ∧ (∀ k, A k → (s.lb k = none ∧ o.dst = some k) ∨ ∃ x, x ∈ (zo0 o).toList ∧ k ∈ (opv s x).refs) ∧ ∀ lb k, φ lb k = none → lb k = none := by
 cases h with
 | id => exact ⟨_, bT1, fun k hk => hk.elim, fun _ _ h => h⟩
 | put d B hd hn => exact ⟨_, kz1 d B, fun k hk => .inl (by subst hk; exact ⟨hn, hd⟩), fun lb k h => by unfold vC0 at h; split at h; cases h; exact h⟩
 | frz ls h => exact ⟨_, qN1 ls, fun k hk => .inr (h k hk), fun lb k h => by rw [cb0] at h; split at h <;> simpa using h⟩
 | upd l B h => exact ⟨_, kz1 l B, fun k hk => .inr (by subst hk; exact h), fun lb k h => by unfold vC0 at h; split at h; cases h; exact h⟩
theorem ma1 {x y : Oper} {s s1 s2 : St} (hh : xu1 s) (hap : x.apart ops y = true) (hsep : ∀ z, z ∈ (zo0 x).toList → ∀ z', z' ∈ (zo0 y).toList → ∀ l, l ∈ (opv s z).refs → l ∉ (opv s z').refs)
  (h1 : ki0 P tab ops x s s1) (h2 : ki0 P tab ops y s1 s2) : ∃ s1', ki0 P tab ops y s s1' ∧ ki0 P tab ops x s1' s2 := by
 obtain ⟨a1, a2, a3⟩ := Oper.apart_spec hap
 have nx : ∀ k, k ∈ y.looksAt ops → x.dst ≠ some k := fun k hk e => a1 k e hk
 have ny : ∀ k, k ∈ x.looksAt ops → y.dst ≠ some k := fun k hk e => a3 k e hk
 have hne : ∀ t, x.dst = some t → y.dst ≠ some t := fun t e => a2 t e
 obtain ⟨φ, v, rfl, F1, k1⟩ := vc0 h1
 obtain ⟨ψ, u, rfl, F2, k2⟩ := vc0 h2
 have Oy : ∀ z, z ∈ (zo0 y).toList → opv (s.app φ x.dst v) z = opv s z := fun z hz => wV0 (fun k hk => wT0 _ _ _ _ _ (nx k (qc0 hk))) (nM0 hz)
 obtain ⟨A, A1, A2, A3⟩ := mp0 F1
 obtain ⟨B, B1, B2, B3⟩ := mp0 F2
 have B2' : ∀ k, B k → (s.lb k = none ∧ y.dst = some k) ∨ ∃ z, z ∈ (zo0 y).toList ∧ k ∈ (opv s z).refs := by
  intro k hk
  rcases B2 k hk with ⟨h, hd⟩ | ⟨z, hz, hl⟩
  ·rw [wy0] at h; exact .inl ⟨A3 _ _ h, hd⟩
  ·rw [Oy z hz] at hl; exact .inr ⟨z, hz, hl⟩
 have hdis : ∀ k, A k → ¬ B k := by
  intro k hA hB
  rcases A2 k hA with ⟨hn, hd⟩ | ⟨z, hz, hl⟩
  ·rcases B2' k hB with ⟨_, hd'⟩ | ⟨z', hz', hl'⟩
   ·exact hne k hd hd'
   ·exact qW0 hh z' k hl' hn
  ·rcases B2' k hB with ⟨hn', _⟩ | ⟨z', hz', hl'⟩
   ·exact qW0 hh z k hl hn'
   ·exact hsep z hz z' hz' k hl hl'
 have offA : ∀ (lb : Lk) k, ¬ A k → φ lb k = lb k := by
  intro lb k hk
  obtain ⟨f, f1, f2⟩ := A1
  rw [f1, f2 k hk]
 have offB : ∀ (lb : Lk) k, ¬ B k → ψ lb k = lb k := by
  intro lb k hk
  obtain ⟨f, f1, f2⟩ := B1
  rw [f1, f2 k hk]
 have G2 : AgreeE ops y (s.app φ x.dst v) s := by
  refine ⟨fun k hk => (wT0 _ _ _ _ _ (nx k hk)).symm, fun z hz l hl => ?_, fun d hd hn => ?_, (fv0 _ _ _ _).symm⟩
  ·rw [Oy z hz] at hl
   rw [wy0]
   refine (offA _ l (fun hA => ?_)).symm
   rcases A2 l hA with ⟨hn, _⟩ | ⟨z', hz', hl'⟩
   ·exact qW0 hh z l hl hn
   ·exact hsep z' hz' z hz l hl' hl
  ·rw [wy0] at hn; exact A3 _ _ hn
 have S2 := k2 s G2
 have G1 : AgreeE ops x s (s.app ψ y.dst u) := by
  refine ⟨fun k hk => wT0 _ _ _ _ _ (ny k hk), fun z hz l hl => ?_, fun d hd hn => ?_, fv0 _ _ _ _⟩
  ·rw [wy0]
   refine offB _ l (fun hB => ?_)
   rcases B2' l hB with ⟨hn, _⟩ | ⟨z', hz', hl'⟩
   ·exact qW0 hh z l hl hn
   ·exact hsep z hz z' hz' l hl hl'
  ·rw [wy0, offB _ d (fun hB => ?_)]
   ·exact hn
   ·rcases B2' d hB with ⟨_, hd'⟩ | ⟨z', hz', hl'⟩
    ·exact hne d hd hd'
    ·exact qW0 hh z' d hl' hn
 have S1 := k1 _ G1
 refine ⟨_, S2, ?_⟩
 rw [jR0 s φ ψ x.dst y.dst v u hne (qM1 A1 B1 hdis s.lb)]
 exact S1
end Go.Ai
namespace Go.Ai
open Go.RowKit
variable {P : Program} {tab : Tab} {ops : Array Oper} {w0 : World} {M0 : Ms} {F0 : Fz}
structure Pr where
 i : Nat
 j : Nat
 a : List Tmp
 b : List Tmp
def fZ0 (ops : Array Oper) (i : Nat) (x : Oper) : Bool := (List.range ops.size).all fun m => decide (m < i) || match ops.toList[m]? with
 | none => true
 | some q => match q.dst with
  | none => true
  | some d => !(x.looksAt ops).contains d
def fp1 (ops : Array Oper) (p : Pr) : Bool := decide (p.i < p.j) && match ops.toList[p.i]?, ops.toList[p.j]? with
 | some x, some y => x.apart ops y && fZ0 ops p.i x && fZ0 ops p.j y && (yC0 (zo0 x) == p.a) && (yC0 (zo0 y) == p.b)
 | _, _ => false
def ws0 (ops : Array Oper) (prs : List Pr) : Bool :=
 prs.all (fp1 ops) && (List.range ops.size).all fun j => match ops.toList[j]? with
  | none => true
  | some oj => oj.after.toList.all (fun e => !Region.binds .any e || decide (e.on < j)) &&
   (List.range j).all fun i => match ops.toList[i]? with
    | none => true
    | some oi => ((yg0 [] ops.toList).getD j 0).testBit i || jt0 ops oi oj || prs.any fun p => p.i == i && p.j == j
def jk0 (s : St) (ts : List Tmp) : List Nat := ts.flatMap fun t => (s.sl t).refs
def qA1 (prs : List Pr) (j : Nat) (s : St) : Prop := ∀ p, p ∈ prs → p.j = j → ∀ l, l ∈ jk0 s p.a → l ∉ jk0 s p.b
def wa0 (P : Program) (tab : Tab) (fx : Nat → Bool) (ops : Array Oper) (prs : List Pr) : List Nat → St → St → Prop
 | [], s, s' => s' = s
 | i :: is, s, s' => ∃ o s1, ops[i]? = some o ∧ qA1 prs i s ∧ cJ0 P tab (fx i) ops o s s1 ∧ wa0 P tab fx ops prs is s1 s'
theorem yE0 {fx : Nat → Bool} {prs : List Pr} : ∀ (l m : List Nat) (s s' : St), wa0 P tab fx ops prs (l ++ m) s s' ↔ ∃ s1, wa0 P tab fx ops prs l s s1 ∧ wa0 P tab fx ops prs m s1 s'
 | [], m, s, s' => by simp [wa0]
 | i :: l, m, s, s' => by
  simp only [List.cons_append, wa0]
  constructor
  ·rintro ⟨o, s1, ho, hsep, h1, h2⟩
   obtain ⟨s2, k1, k2⟩ := (yE0 l m s1 s').1 h2
   exact ⟨s2, ⟨o, s1, ho, hsep, h1, k1⟩, k2⟩
  ·rintro ⟨s2, ⟨o, s1, ho, hsep, h1, k1⟩, k2⟩
   exact ⟨o, s1, ho, hsep, h1, (yE0 l m s1 s').2 ⟨s2, k1, k2⟩⟩
theorem pS0 {s : St} {xs : Array Operand} {z : Operand} (hz : z ∈ xs.toList) {l : Nat} (hl : l ∈ (opv s z).refs) : ∃ t, t ∈ yC0 xs ∧ l ∈ (s.sl t).refs := by
 cases z with
 | tmp t => exact ⟨t, by simp only [yC0, List.mem_filterMap]; exact ⟨.tmp t, hz, rfl⟩, hl⟩
 | const v =>
  simp only [opv] at hl
  have : ∀ v, (vr0 v).refs = [] := by
   intro v
   cases v <;> try rfl
   case slice A n c =>
    cases A with
    | none => cases n with
     | zero => cases c <;> rfl
     | succ n => rfl
    | some A => rfl
   case agg xs => exact pe0 xs
  rw [this] at hl; cases hl
 | global g => simp [opv, AV.refs] at hl
 | func f => simp [opv, AV.refs, AC.refs] at hl
theorem wM0 {i : Nat} {x : Oper} (h : fZ0 ops i x = true) {m : Nat} (hm : i ≤ m) {q : Oper} (hq : ops[m]? = some q) : ∀ k, k ∈ x.looksAt ops → q.dst ≠ some k := by
 intro k hk e
 have hlt := (Array.getElem?_eq_some_iff.1 hq).1
 have := List.all_eq_true.1 h m (List.mem_range.2 hlt)
 have hq' : ops.toList[m]? = some q := by simpa using hq
 rw [hq'] at this
 simp only [e, Bool.or_eq_true, decide_eq_true_eq, Bool.not_eq_true'] at this
 rcases this with h | h
 ·omega
 ·have hc : (x.looksAt ops).contains k = true := by simpa using hk
  rw [hc] at h; cases h
theorem ve0 {o : Oper} {s s' : St} (h : ki0 P tab ops o s s') {k : Tmp} (hk : o.dst ≠ some k) : s'.sl k = s.sl k := by
 obtain ⟨φ, v, rfl, _, _⟩ := vc0 h
 exact wT0 _ _ _ _ _ hk
theorem xR0 {fx : Nat → Bool} {prs : List Pr} {k : Tmp} : ∀ (pre : List Nat) (s sm : St), (∀ p, p ∈ pre → fx p = false) → (∀ p q, p ∈ pre → ops[p]? = some q → q.dst ≠ some k) → wa0 P tab fx ops prs pre s sm → sm.sl k = s.sl k
 | [], s, sm, _, _, h => by simp only [wa0] at h; rw [h]
 | p :: pre, s, sm, hx, hd, h => by
  obtain ⟨q, sp, hq, _, hp, h1⟩ := h
  have hp : ki0 P tab ops q s sp := hp.resolve_right (fun h => by rw [hx p (by simp)] at h; cases h.1)
  rw [xR0 pre sp sm (fun p' hp' => hx p' (by simp [hp'])) (fun p' q' hp' => hd p' q' (by simp [hp'])) h1, ve0 hp (hd p q (by simp) hq)]
theorem qL0 {s t : St} {ts : List Tmp} (h : ∀ k, k ∈ ts → t.sl k = s.sl k) : jk0 t ts = jk0 s ts := by
 unfold jk0
 rw [List.flatMap_def, List.flatMap_def]
 congr 1
 exact List.map_congr_left (fun k hk => by rw [h k hk])
theorem jI0 {prs : List Pr} (h : ws0 ops prs = true) {p : Pr} (hp : p ∈ prs) {x y : Oper} (hx : ops[p.i]? = some x) (hy : ops[p.j]? = some y) :
  p.i < p.j ∧ x.apart ops y = true ∧ fZ0 ops p.i x = true ∧ fZ0 ops p.j y = true ∧ yC0 (zo0 x) = p.a ∧ yC0 (zo0 y) = p.b := by
 simp only [ws0, Bool.and_eq_true] at h
 have h1 := List.all_eq_true.1 h.1 p hp
 have hx' : ops.toList[p.i]? = some x := by simpa using hx
 have hy' : ops.toList[p.j]? = some y := by simpa using hy
 simp only [fp1, hx', hy', Bool.and_eq_true, decide_eq_true_eq, beq_iff_eq] at h1
 exact ⟨h1.1, h1.2.1.1.1.1, h1.2.1.1.1.2, h1.2.1.1.2, h1.2.1.2, h1.2.2⟩
theorem kB0 {prs : List Pr} (h : ws0 ops prs = true) {j : Nat} {o : Oper} (ho : ops[j]? = some o) {e : Edge} (he : e ∈ o.after) (hb : Region.binds .any e = true) : e.on < j := by
 have hj : j < ops.size := (Array.getElem?_eq_some_iff.1 ho).1
 simp only [ws0, Bool.and_eq_true] at h
 have := List.all_eq_true.1 h.2 j (List.mem_range.2 hj)
 have ho' : ops.toList[j]? = some o := by simpa using ho
 rw [ho'] at this
 simp only [Bool.and_eq_true] at this
 have := List.all_eq_true.1 this.1 e (by simpa using he)
 simpa [hb] using this
theorem fM0 {prs : List Pr} (h : ws0 ops prs = true) {i j : Nat} {x y : Oper} (hij : i < j) (hx : ops[i]? = some x) (hy : ops[j]? = some y) : ((yg0 [] ops.toList).getD j 0).testBit i = true ∨ (jt0 ops x y = true ∨ ∃ p, p ∈ prs ∧ p.i = i ∧ p.j = j) := by
 have hj : j < ops.size := (Array.getElem?_eq_some_iff.1 hy).1
 simp only [ws0, Bool.and_eq_true] at h
 have := List.all_eq_true.1 h.2 j (List.mem_range.2 hj)
 have hy' : ops.toList[j]? = some y := by simpa using hy
 have hx' : ops.toList[i]? = some x := by simpa using hx
 rw [hy'] at this
 simp only [Bool.and_eq_true] at this
 have := List.all_eq_true.1 this.2 i (List.mem_range.2 hij)
 rw [hx'] at this
 simp only [Bool.or_eq_true] at this
 rcases this with (h | h) | h
 ·exact .inl h
 ·exact .inr (.inl h)
 ·obtain ⟨p, hp, hq⟩ := List.any_eq_true.1 h
  simp only [Bool.and_eq_true, beq_iff_eq] at hq
  exact .inr (.inr ⟨p, hp, hq.1, hq.2⟩)
theorem kX0 {prs : List Pr} (h : ws0 ops prs = true) {listed : Array Bool} (hdown : ∀ j o, ops[j]? = some o → listed.getD j false = true → ∀ e, e ∈ o.after → Region.binds .any e = true → listed.getD e.on false = true) (i : Nat) :
  ∀ (j : Nat) (o : Oper), ops[j]? = some o → (∀ e, e ∈ o.after → Region.binds .any e = true → listed.getD e.on false = true) → ((yg0 [] ops.toList).getD j 0).testBit i = true → listed.getD i false = true := by
 intro j
 induction j using Nat.strongRecOn with
 | _ j ih =>
  intro o ho hall hbit
  have R := qS1 ops.toList [] [] rfl (by intro k m hk; simp at hk)
  cases hm : (yg0 [] ops.toList)[j]? with
  | none => simp [List.getD, hm] at hbit
  | some m =>
   simp [List.getD, hm] at hbit
   obtain ⟨o', ho', e, he, hb, hq⟩ := R j m hm i hbit
   simp at ho'
   rw [ho] at ho'
   obtain rfl := Option.some.inj ho'
   have hle := hall e (by simpa using he) hb
   rcases hq with rfl | ⟨m', hm', hb'⟩
   ·exact hle
   ·have hlt := kB0 h ho (by simpa using he) hb
    have hjs : e.on < ops.size := Nat.lt_trans hlt (Array.getElem?_eq_some_iff.1 ho).1
    have hoe : ops[e.on]? = some ops[e.on] := Array.getElem?_eq_getElem hjs
    exact nq1
theorem qY1 (hT : zT0 P tab) {prs : List Pr} (hok : ws0 ops prs = true) {fx : Nat → Bool} {o : Oper} {j : Nat} (ho : ops[j]? = some o) : ∀ (pre : List Nat) (s sm sn : St), (∃ a w, wZ0 w0 M0 F0 s a w) → pre.Pairwise (· < ·) → (∀ p, p ∈ pre → p < j) →
  (∀ p q, p ∈ pre → ops[p]? = some q → jt0 ops q o = true ∨ ∃ r, r ∈ prs ∧ r.i = p ∧ r.j = j) → (∀ p, p ∈ pre → fx p = false) →
  wa0 P tab fx ops prs pre s sm → qA1 prs j sm → ki0 P tab ops o sm sn → ∃ s1, ki0 P tab ops o s s1 ∧ wa0 P tab fx ops prs pre s1 sn
 | [], s, sm, sn, _, _, _, _, _, h1, _, h2 => by simp only [wa0] at h1; subst h1; exact ⟨sn, h2, rfl⟩
 | p :: pre, s, sm, sn, hl, hpw, hlt, hc, hx, h1, hsep, h2 => by
  have hall := h1
  obtain ⟨q, sp, hq, hsepp, hp, h1⟩ := h1
  have hp : ki0 P tab ops q s sp := hp.resolve_right (fun h => by rw [hx p (by simp)] at h; cases h.1)
  have hpw' := List.pairwise_cons.1 hpw
  have hap : ∀ p' q', p' ∈ p :: pre → ops[p']? = some q' → q'.apart ops o = true := by
   intro p' q' hp' hq'
   rcases hc p' q' hp' hq' with h | ⟨r, hr, e1, e2⟩
   ·simp only [jt0, Bool.and_eq_true] at h; exact h.1.1
   ·exact (jI0 hok hr (by rw [e1]; exact hq') (by rw [e2]; exact ho)).2.1
  obtain ⟨s1', k1, k2⟩ := qY1 hT hok ho pre sp sm sn (lm0 hT hl hp) hpw'.2 (fun p' hp' => hlt p' (by simp [hp'])) (fun p' q' hp' => hc p' q' (by simp [hp'])) (fun p' hp' => hx p' (by simp [hp'])) h1 hsep h2
  have hsw : ∃ s1, ki0 P tab ops o s s1 ∧ ki0 P tab ops q s1 s1' := by
   rcases hc p q (by simp) hq with h | ⟨r, hr, e1, e2⟩
   ·exact mZ1 (yV0 hl) h hp k1
   ·obtain ⟨_, g2, g3, g4, g5, g6⟩ := jI0 hok hr (by rw [e1]; exact hq) (by rw [e2]; exact ho)
    refine ma1 (yV0 hl) g2 (fun z hz z' hz' l hl1 hl2 => ?_) hp k1
    obtain ⟨t, ht, hlt1⟩ := pS0 hz hl1
    obtain ⟨t', ht', hlt2⟩ := pS0 hz' hl2
    have ka : ∀ k, k ∈ r.a → s.sl k = sm.sl k := fun k hk => (xR0 (p :: pre) s sm hx (fun p' q' hp' hq' => by
     have hle : r.i ≤ p' := by
      rw [e1]
      rcases List.mem_cons.1 hp' with h | h
      ·omega
      ·have := hpw'.1 p' h; omega
     exact wM0 g3 hle hq' k (wp0 (by rw [g5]; exact hk))) hall).symm
    have kb : ∀ k, k ∈ r.b → s.sl k = sm.sl k := fun k hk => (xR0 (p :: pre) s sm hx (fun p' q' hp' hq' e => by
     exact (Oper.apart_spec (hap p' q' hp' hq')).1 k e (wp0 (by rw [g6]; exact hk))) hall).symm
    refine hsep r hr e2 l ?_ ?_
    ·rw [← qL0 ka]
     exact List.mem_flatMap.2 ⟨t, by rw [← g5]; exact ht, hlt1⟩
    ·rw [← qL0 kb]
     exact List.mem_flatMap.2 ⟨t', by rw [← g6]; exact ht', hlt2⟩
  obtain ⟨s1, k3, k4⟩ := hsw
  refine ⟨s1, k3, q, s1', hq, fun r hr e l hl1 => ?_, .inl k4, k2⟩
  have hpj := hlt p (by simp)
  have hri : ∃ x, ops[r.i]? = some x := by
   simp only [ws0, Bool.and_eq_true] at hok
   have h1 := List.all_eq_true.1 hok.1 r hr
   simp only [fp1, Bool.and_eq_true] at h1
   cases hxx : ops.toList[r.i]? with
   | none => rw [hxx] at h1; simp at h1
   | some x => exact ⟨x, by simpa using hxx⟩
  obtain ⟨x, hxx⟩ := hri
  obtain ⟨g1, _, g3, g4, g5, g6⟩ := jI0 hok hr hxx (by rw [e]; exact hq)
  have ka : ∀ k, k ∈ r.a → s1.sl k = s.sl k := fun k hk => ve0 k3 (wM0 g3 (by omega) ho k (wp0 (by rw [g5]; exact hk)))
  have kb : ∀ k, k ∈ r.b → s1.sl k = s.sl k := fun k hk => ve0 k3 (wM0 g4 (by omega) ho k (wp0 (by rw [g6]; exact hk)))
  rw [qL0 ka] at hl1
  rw [qL0 kb]
  exact hsepp r hr e l hl1
theorem so0 (hT : zT0 P tab) {prs : List Pr} (hok : ws0 ops prs = true) {Q : Exit → Act → World → Prop} {s' : St} (hQ : ∀ a' w', wZ0 w0 M0 F0 s' a' w' → Q .normal a' w') :
  ∀ (fuel : Nat) (rem : List Nat) (listed : Array Bool) (s : St) (a : Act) (w : World), rem.length = fuel → rem.Pairwise (· < ·) → listed.size = ops.size →
   (∀ i, i ∈ rem ↔ i < ops.size ∧ listed.getD i false = false) →
   (∀ j o, ops[j]? = some o → listed.getD j false = true → ∀ e, e ∈ o.after → Region.binds .any e = true → listed.getD e.on false = true) →
   wa0 P tab (qD0 ops) ops prs rem s s' → wZ0 w0 M0 F0 s a w → wpAny P .any ops Q fuel listed a w := by
 intro fuel
 have gd : ∀ (listed : Array Bool) (i : Nat) (b c : Bool), i < listed.size → listed.getD i b = listed.getD i c := by
  intro listed i b c hi; simp [hi]
 have noready : ∀ (rem : List Nat) (listed : Array Bool), rem.Pairwise (· < ·) → listed.size = ops.size → (∀ i, i ∈ rem ↔ i < ops.size ∧ listed.getD i false = false) → Region.ready .any ops listed = [] → rem = [] := by
  intro rem listed hpw hsz hrem hr
  cases rem with
  | nil => rfl
  | cons i rest =>
   exfalso
   obtain ⟨hi, hli⟩ := (hrem i).1 (by simp)
   have hoi : ops[i]? = some ops[i] := Array.getElem?_eq_getElem hi
   have : i ∈ Region.ready .any ops listed := by
    rw [mem_ready]
    refine ⟨by rw [gd listed i true false (by omega)]; exact hli, ops[i], hoi, fun e he hb => ?_⟩
    have hlt := kB0 hok hoi he hb
    cases hle : listed.getD e.on false with
    | true => rfl
    | false =>
     have hin := (hrem e.on).2 ⟨by omega, hle⟩
     rcases List.mem_cons.1 hin with h | h
     ·omega
     ·have := (List.pairwise_cons.1 hpw).1 e.on h; omega
   rw [hr] at this; cases this
 induction fuel with
 | zero =>
  intro rem listed s a w hlen hpw hsz hrem hdown hs h
  obtain rfl := List.eq_nil_of_length_eq_zero hlen
  simp only [wa0] at hs
  subst hs
  refine ⟨?_, hQ _ _ h⟩
  apply List.eq_nil_iff_forall_not_mem.2
  intro i hi
  obtain ⟨hli, o, ho, _⟩ := mem_ready.1 hi
  have hlt := (Array.getElem?_eq_some_iff.1 ho).1
  have := (hrem i).2 ⟨hlt, by rw [gd listed i false true (by omega)]; exact hli⟩
  cases this
 | succ fuel ih =>
  intro rem listed s a w hlen hpw hsz hrem hdown hs h
  refine ⟨fun hr => ?_, fun i hi => ?_⟩
  ·have := noready rem listed hpw hsz hrem hr
   subst this
   simp at hlen
  ·obtain ⟨hli, o, ho, hall⟩ := mem_ready.1 hi
   have hlt := (Array.getElem?_eq_some_iff.1 ho).1
   have hin : i ∈ rem := (hrem i).2 ⟨hlt, by rw [gd listed i false true (by omega)]; exact hli⟩
   obtain ⟨pre, post, rfl⟩ := List.append_of_mem hin
   obtain ⟨sm, k1, k2⟩ := (yE0 pre (i :: post) s s').1 hs
   obtain ⟨o', sn, ho', ksep, k3, k4⟩ := k2
   rw [ho] at ho'
   obtain rfl := Option.some.inj ho'
   have hpre : ∀ p, p ∈ pre → p < i := fun p hp => by
    have := (List.pairwise_append.1 hpw).2.2 p hp i (by simp); exact this
   have hnb : ∀ p, p ∈ pre → ((yg0 [] ops.toList).getD i 0).testBit p = true → False := fun p hp hb => by
    have := kX0 hok hdown p i o ho hall hb
    have hp2 := ((hrem p).1 (by simp [hp])).2
    rw [this] at hp2; cases hp2
   have hbub : ∃ s1, cJ0 P tab (qD0 ops i) ops o s s1 ∧ wa0 P tab (qD0 ops) ops prs pre s1 sn := by
    cases pre with
    | nil =>
     simp only [wa0] at k1
     subst k1
     exact ⟨sn, k3, rfl⟩
    | cons p0 pre0 =>
     have hfi : qD0 ops i = false := by
      cases hf : qD0 ops i with
      | false => rfl
      | true => exact (hnb p0 (by simp) ((yK0 hf (by have := ((hrem p0).1 (by simp)).1; exact this)).1 (hpre p0 (by simp)))).elim
     have hfp : ∀ p, p ∈ p0 :: pre0 → qD0 ops p = false := fun p hp => by
      cases hf : qD0 ops p with
      | false => rfl
      | true => exact (hnb p hp ((yK0 hf hlt).2 (hpre p hp))).elim
     obtain ⟨s1, b1, b2⟩ := qY1 hT hok ho (p0 :: pre0) s sm sn ⟨a, w, h⟩ (List.pairwise_append.1 hpw).1 hpre (fun p q hp hq => by
      rcases fM0 hok (hpre p hp) hq ho with hb | hc
      ·exact (hnb p hp hb).elim
      ·exact hc) hfp k1 ksep (k3.resolve_right (fun h => by rw [hfi] at h; cases h.1))
     exact ⟨s1, .inl b1, b2⟩
   obtain ⟨s1, b1, b2⟩ := hbub
   have hs1 : wa0 P tab (qD0 ops) ops prs (pre ++ post) s1 s' := (yE0 pre post s1 s').2 ⟨sn, b2, k4⟩
   have hset : ∀ k, (listed.setIfInBounds i true).getD k false = if k = i then true else listed.getD k false := by
    intro k
    simp only [Array.getD_eq_getD_getElem?, Array.getElem?_setIfInBounds]
    by_cases e : i = k
    ·subst e; simp [hsz, hlt]
    ·simp [e, Ne.symm e]
   unfold wpOp
   simp only [ho]
   refine ye0 hT h b1 (fun a' w' h' => ih (pre ++ post) (listed.setIfInBounds i true) s1 a' w' (by simp at hlen ⊢; omega) ?_ (by simpa using hsz) (fun k => ?_) (fun j oj hoj hlj e he hb => ?_) hs1 h')
   ·rw [List.pairwise_append] at hpw ⊢
    exact mf1
   ·rw [hset]
    have hk := hrem k
    simp only [List.mem_append, List.mem_cons] at hk ⊢
    have hnd : ∀ k, k ∈ pre ∨ k ∈ post → k ≠ i := by
     rintro k (hk | hk) e
     ·have := hpre k hk; omega
     ·have := (List.pairwise_cons.1 (List.pairwise_append.1 hpw).2.1).1 k hk; omega
    constructor
    ·intro hk'
     have hne := hnd k hk'
     rw [if_neg hne]
     exact hk.1 (hk'.imp id .inr)
    ·rintro ⟨h1, h2⟩
     by_cases e : k = i
     ·rw [if_pos e] at h2; cases h2
     ·rw [if_neg e] at h2
      rcases hk.2 ⟨h1, h2⟩ with hq | hq | hq
      ·exact .inl hq
      ·exact absurd hq e
      ·exact .inr hq
   ·rw [hset] at hlj ⊢
    split
    ·rfl
    ·by_cases e' : j = i
     ·subst e'
      rw [ho] at hoj
      obtain rfl := Option.some.inj hoj
      exact hall e he hb
     ·rw [if_neg e'] at hlj
      exact hdown j oj hoj hlj e he hb
end Go.Ai
namespace Go.Ai
open Go.RowKit
variable {P : Program} {tab : Tab}
def nX0 (l : Nat) : List Nat → Prop
 | [] => True
 | b :: bs => l ≠ b ∧ nX0 l bs
def vj1 : List Nat → List Nat → Prop
 | [], _ => True
 | l :: ls, bs => nX0 l bs ∧ vj1 ls bs
theorem bo0 {l : Nat} : ∀ {bs : List Nat}, nX0 l bs → l ∉ bs
 | [], _, h => by cases h
 | b :: bs, h, hm => by
  rcases List.mem_cons.1 hm with e | hm
  ·exact h.1 e
  ·exact bo0 h.2 hm
theorem gJ0 : ∀ {as bs : List Nat}, vj1 as bs → ∀ l, l ∈ as → l ∉ bs
 | [], _, _, l, h => by cases h
 | a :: as, bs, h, l, hl => by
  rcases List.mem_cons.1 hl with rfl | hl
  ·exact bo0 h.1
  ·exact gJ0 h.2 l hl
def kd1 (s : St) (j : Nat) : List Pr → Prop
 | [] => True
 | p :: ps => (if p.j = j then vj1 (jk0 s p.a) (jk0 s p.b) else True) ∧ kd1 s j ps
theorem fV0 {s : St} {j : Nat} : ∀ {prs : List Pr}, kd1 s j prs → qA1 prs j s
 | [], _, p, hp, _ => by cases hp
 | q :: prs, h, p, hp, e => by
  rcases List.mem_cons.1 hp with rfl | hp
  ·have h1 := h.1
   rw [if_pos e] at h1
   exact gJ0 h1
  ·exact fV0 h.2 p hp e
def fs1 (P : Program) (tab : Tab) (x : Nat → Bool) (ops : Array Oper) (prs : List Pr) : Nat → List Oper → St → (St → Prop) → Prop
 | _, [], s, k => k s
 | j, o :: os, s, k => kd1 s j prs ∧ zv1 P tab (x j) ops [o] s (fun s' => fs1 P tab x ops prs (j + 1) os s' k)
theorem bt0 {ops : Array Oper} {prs : List Pr} : ∀ (l : List Oper) (n : Nat) {s : St} {k : St → Prop}, (∀ j, l[j]? = ops[n + j]?) → fs1 P tab (qD0 ops) ops prs n l s k → ∃ s', wa0 P tab (qD0 ops) ops prs (List.range' n l.length) s s' ∧ k s'
 | [], _, s, _, _, h => ⟨s, rfl, h⟩
 | o :: l, n, s, k, hl, h => by
  obtain ⟨hs, h⟩ := h
  obtain ⟨s1, h1, h2⟩ := wK0 h
  obtain ⟨s1', h1, e⟩ := h1
  simp only [vF0] at e
  subst e
  obtain ⟨s', h3, h4⟩ := bt0 l (n + 1) (fun j => by have := hl (j + 1); simpa [Nat.add_assoc, Nat.add_comm 1 j] using this) h2
  have h0 : ops[n]? = some o := by simpa using (hl 0).symm
  have h1 : cJ0 P tab (qD0 ops n) ops o s s1 := by
   rcases h1 with h1 | ⟨hx, hw, hm⟩
   ·exact .inl h1
   ·exact .inr ⟨hx, hw, hm⟩
  exact ⟨s', ⟨o, s1, h0, fV0 hs, h1, h3⟩, h4⟩
theorem dA0 {w0 : World} {M0 : Ms} {F0 : Fz} {ops : Array Oper} {prs : List Pr} (hT : zT0 P tab) (hm : P.follows .mixedOrders = true) {id : Nat} {draw : Bool} (hok : (draw && ws0 ops prs) = true) {Q : Exit → Act → World → Prop} {s s' : St} {a : Act} {w : World}
  (hs : wa0 P tab (qD0 ops) ops prs (List.range ops.size) s s') (h : wZ0 w0 M0 F0 s a w) (hQ : ∀ a' w', wZ0 w0 M0 F0 s' a' w' → Q .normal a' w') : (Code.region id ops draw).wp P Q a w := by
 simp only [Bool.and_eq_true] at hok
 obtain ⟨rfl, hok⟩ := hok
 have h' : wZ0 w0 M0 F0 s a { w with drawn := w.drawn + 1 } := by obtain ⟨F, g, h⟩ := h; exact ⟨F, g, h.drew⟩
 refine wp_region_any hm (so0 hT hok hQ ops.size (List.range ops.size) _ s a _ (by simp) List.pairwise_lt_range (by simp) (fun i => ?_) (fun j o ho hl => ?_) hs h')
 ·simp only [List.mem_range]
  constructor
  ·intro hi; exact ⟨hi, by simp [Array.getD_eq_getD_getElem?, Array.getElem?_replicate, hi]⟩
  ·exact fun hi => hi.1
 ·have hj := (Array.getElem?_eq_some_iff.1 ho).1
  simp [Array.getD_eq_getD_getElem?, Array.getElem?_replicate, hj] at hl
def nQ0 (id : Nat) : List (Nat × List Pr) → Option (List Pr)
 | [] => none
 | (i, p) :: ds => if i = id then some p else nQ0 id ds
def jA0 (P : Program) (tab : Tab) (Δ : List (Nat × List Pr)) : Code → (Exit → St → Prop) → St → Prop
 | .skip, Q, s => Q .normal s
 | .region id ops draw, Q, s => match nQ0 id Δ with
  | some prs => fs1 P tab (qD0 ops) ops prs 0 ops.toList s (Q .normal)
  | none => zv1 P tab (!draw || yr0 ops) ops ops.toList s (Q .normal)
 | .seq a b, Q, s => jA0 P tab Δ a (xS0 (jA0 P tab Δ b Q) Q) s
 | .cond c a b, Q, s => match opv s c with
  | .one (.c (.v (.bool t))) => (t = true → jA0 P tab Δ a Q s) ∧ (t = false → jA0 P tab Δ b Q s)
  | _ => False
 | .block id c, Q, s => jA0 P tab Δ c (ji0 id Q) s
 | .exit id, Q, s => Q (.exit id) s
 | .ret, Q, s => Q .ret s
 | .scope c, Q, s => jA0 P tab Δ c (ye1 Q) s
 | .loop c, Q, s => wj1 P c Q s
 | _, _, _ => False
def ww0 (Δ : List (Nat × List Pr)) : Code → Bool
 | .region id ops draw => match nQ0 id Δ with
  | some prs => draw && ws0 ops prs
  | none => !draw || bE0 ops
 | .seq a b => ww0 Δ a && ww0 Δ b
 | .cond _ a b => ww0 Δ a && ww0 Δ b
 | .block _ c => ww0 Δ c
 | .scope c => ww0 Δ c
 | .loop c => ww0 Δ c
 | _ => true
theorem wB0 (Δ : List (Nat × List Pr)) (hT : zT0 P tab) (hm : P.follows .mixedOrders = true) : ∀ (c : Code) (Q : Exit → St → Prop) (s : St), ww0 Δ c = true → jA0 P tab Δ c Q s → AWP P c Q s
 | .skip, Q, s, _, h => fun w0 M0 F0 a w hs => wp_skip ⟨s, h, hs⟩
 | .exit id, Q, s, _, h => fun w0 M0 F0 a w hs => wp_exit ⟨s, h, hs⟩
 | .ret, Q, s, _, h => fun w0 M0 F0 a w hs => wp_ret ⟨s, h, hs⟩
 | .region id ops draw, Q, s, hok, h => fun w0 M0 F0 a w hs => by
  simp only [jA0] at h
  simp only [ww0] at hok
  split at h
  ·rename_i prs hpr
   obtain ⟨s', h1, h2⟩ := bt0 ops.toList 0 (by simp) h
   rw [hpr] at hok
   exact dA0 hT hm hok (by simpa [List.range_eq_range'] using h1) hs (fun a' w' hs' => ⟨s', h2, hs'⟩)
  ·rename_i hpr
   obtain ⟨s', h1, h2⟩ := wK0 h
   refine kC0 hT hm ?_ h1 hs (fun a' w' hs' => ⟨s', h2, hs'⟩)
   intro hd
   subst hd
   rw [hpr] at hok
   simpa using hok
 | .seq x y, Q, s, hok, h => fun w0 M0 F0 a w hs => by
  simp only [ww0, Bool.and_eq_true] at hok
  refine wp_seq (wp_mono (wB0 Δ hT hm x _ s hok.1 h w0 M0 F0 a w hs) ?_)
  rintro e a' w' ⟨s', hq, hs'⟩
  cases e with
  | normal => exact wB0 Δ hT hm y Q s' hok.2 hq w0 M0 F0 a' w' hs'
  | _ => exact ⟨s', hq, hs'⟩
 | .cond c x y, Q, s, hok, h => fun w0 M0 F0 a w hs => by
  simp only [ww0, Bool.and_eq_true] at hok
  simp only [jA0] at h
  split at h
  ·rename_i t ht
   obtain ⟨F, g, hsim⟩ := hs
   have hc := zp0 hsim c
   rw [ht] at hc
   have hc := hc.c_v
   cases t with
   | true => exact wp_cond_true hc (wB0 Δ hT hm x Q s hok.1 (h.1 rfl) w0 M0 F0 a w ⟨F, g, hsim⟩)
   | false => exact wp_cond_false hc (wB0 Δ hT hm y Q s hok.2 (h.2 rfl) w0 M0 F0 a w ⟨F, g, hsim⟩)
  ·exact h.elim
 | .block id c, Q, s, hok, h => fun w0 M0 F0 a w hs => by
  refine wp_block (wp_mono (wB0 Δ hT hm c _ s hok h w0 M0 F0 a w hs) ?_)
  rintro e a' w' ⟨s', hq, hs'⟩
  cases e with
  | exit id' =>
   simp only [ji0] at hq
   simp only [Exit.inBlock]
   split
   ·rename_i e; rw [if_pos e] at hq; exact ⟨s', hq, hs'⟩
   ·rename_i e; rw [if_neg e] at hq; exact ⟨s', hq, hs'⟩
  | _ => exact ⟨s', hq, hs'⟩
 | .scope c, Q, s, hok, h => fun w0 M0 F0 a w hs => by
  refine wp_scope_straight (wp_mono (wB0 Δ hT hm c _ s hok h w0 M0 F0 a w hs) ?_)
  rintro e a' w' ⟨s', hq, hs'⟩
  cases e with
  | goto l => exact hq.elim
  | _ => exact ⟨s', hq, hs'⟩
 | .loop c, Q, s, _, h => h
 | .rangeFunc .., _, _, _, h => h.elim
 | .label _, _, _, _, h => h.elim
 | .goto _, _, _, _, h => h.elim
 | .refuse _, _, _, _, h => h.elim
theorem yp0 (Δ : List (Nat × List Pr)) (hT : zT0 P tab) (hm : P.follows .mixedOrders = true) {f : FuncId} {fn : Func} {c : Code} {args : List AV} {r : AV} {rs : List ResultVar} {n : Nat} (hf : P.funcs[f]? = some fn) (hb : fn.body = some c) (hr : fn.results.toList = rs) (hn : fn.ntmps = n) (hname : fn.name ≠ "runtime.NumGoroutine")
  (hok : ww0 Δ c = true) (hlen : args.length ≤ n) (h : jA0 P tab Δ c (kY1 tab rs r) (mk n (qV0 0 args) [])) : Sat P f args r :=
 xL0 hT hf hb hr hn hname hlen (wB0 Δ hT hm c _ _ hok h)
def yK1 (P : Program) (tab : Tab) (x : Nat → Bool) (ops : Array Oper) (prs : List Pr) (n : Nat) (l : List Oper) (s : St) [κ : Kn] : Prop := fs1 P tab x ops prs n l s κ.default
def yE1 (P : Program) (tab : Tab) (o : Option (List Pr)) (ops : Array Oper) (draw : Bool) (s : St) [κ : Kn] : Prop := match o with
 | some prs => @yK1 P tab (qD0 ops) ops prs 0 ops.toList s κ
 | none => @bF0 P tab (!draw || yr0 ops) ops ops.toList s κ
section eqs
variable {s : St} {k : St → Prop} {Q : Exit → St → Prop} {κ κ' : Kn} {Δ : List (Nat × List Pr)} {prs : List Pr} {n : Nat}
theorem tB0 : jA0 P tab Δ .skip Q s = Q .normal s := rfl
theorem gB0 {id : Nat} {ops : Array Oper} {draw : Bool} : jA0 P tab Δ (.region id ops draw) Q s = @yE1 P tab (nQ0 id Δ) ops draw s ⟨Q .normal⟩ := by
 simp only [jA0, yE1]; split <;> rfl
theorem zA1 {ops : Array Oper} {draw : Bool} : @yE1 P tab (some prs) ops draw s κ = @yK1 P tab (qD0 ops) ops prs 0 ops.toList s κ := rfl
theorem zB1 {ops : Array Oper} : @yE1 P tab none ops false s κ = @bF0 P tab true ops ops.toList s κ := rfl
theorem tz0 {ops : Array Oper} : @yE1 P tab none ops true s κ = @bF0 P tab (yr0 ops) ops ops.toList s κ := rfl
theorem wg1 {id : Nat} : nQ0 id [] = none := rfl
theorem th0 {id i : Nat} {p : List Pr} {ds : List (Nat × List Pr)} : nQ0 id ((i, p) :: ds) = if i = id then some p else nQ0 id ds := rfl
theorem qg1 {a b : Code} : jA0 P tab Δ (.seq a b) Q s = jA0 P tab Δ a (xS0 (jA0 P tab Δ b Q) Q) s := rfl
theorem tA0 {c : Operand} {a b : Code} : jA0 P tab Δ (.cond c a b) Q s = @gE0 (opv s c) s ⟨fun s => jA0 P tab Δ a Q s⟩ ⟨fun s => jA0 P tab Δ b Q s⟩ := rfl
theorem qf1 : jA0 P tab Δ .ret Q s = Q .ret s := rfl
theorem yL1 {bx : Nat → Bool} {ops : Array Oper} : @yK1 P tab bx ops prs n [] s κ = κ.default s := rfl
theorem zH1 {bx : Nat → Bool} {ops : Array Oper} {o : Oper} {os : List Oper} : @yK1 P tab bx ops prs n (o :: os) s κ = (kd1 s n prs ∧ @bF0 P tab (bx n) ops [o] s ⟨fun s' => @yK1 P tab bx ops prs (n + 1) os s' κ⟩) := rfl
theorem ke1 : kd1 s n [] = True := rfl
theorem yf1 {p : Pr} : kd1 s n (p :: prs) = ((if p.j = n then vj1 (jk0 s p.a) (jk0 s p.b) else True) ∧ kd1 s n prs) := rfl
theorem zG1 : jk0 s [] = [] := rfl
theorem nh0 {t : Tmp} {ts : List Tmp} : jk0 s (t :: ts) = (s.sl t).refs ++ jk0 s ts := rfl
theorem kR1 {l m : Nat} : (AV.one (.own l m)).refs = [l] := rfl
theorem kS1 {l m : Nat} : (AV.one (.ptr l m)).refs = [l] := rfl
theorem fD1 {x : C} : (AV.one (.c x)).refs = [] := rfl
theorem jt1 {bs : List Nat} : vj1 [] bs = True := rfl
theorem qp1 {l : Nat} {ls bs : List Nat} : vj1 (l :: ls) bs = (nX0 l bs ∧ vj1 ls bs) := rfl
theorem wu1 {l : Nat} : nX0 l [] = True := rfl
theorem tl0 {l b : Nat} {bs : List Nat} : nX0 l (b :: bs) = (l ≠ b ∧ nX0 l bs) := rfl
end eqs
attribute [go_sem ↓] tB0 gB0 qg1 tA0 qf1
attribute [go_sem] zA1 zB1 tz0 wg1 th0 yL1 zH1 ke1 yf1 zG1 nh0 kR1 kS1 fD1 jt1 qp1 wu1 tl0 List.flatMap_cons List.flatMap_nil
end Go.Ai
namespace Go.Ai
open Go.RowKit
variable {P : Program} {tab : Tab}
attribute [go_sem] qO0
end Go.Ai
namespace Go.Ai
open Go.RowKit
variable {P : Program} {tab : Tab}
def nO1 : LB → AV
 | .var _ => .one (.ptr 9001 0)
 | .arr _ _ rows _ => .one (.own 9001 rows.length)
 | _ => .any
def xZ1 (tab : Tab) (rs : List ResultVar) (r : AV) (B' : LB) (s : St) : Prop :=
 match kv0 tab s rs with
 | some (p, vs) => p ∧ pG0 s.lb vs ∧ qa0 (dc0 s.lb vs) = r ∧ 9001 ∉ vs.flatMap AV.owns ∧ s.lb 9001 = some B' ∧ s.gh = [nO1 B']
 | none => False
def sC1 (tab : Tab) (rs : List ResultVar) (r : AV) (B' : LB) : Exit → St → Prop
 | .normal, s => xZ1 tab rs r B' s
 | .ret, s => xZ1 tab rs r B' s
 | _, _ => False
def zR1 (tab : Tab) (rs : List ResultVar) (cells : List AC) (s : St) : Prop :=
 match kv0 tab s rs with
 | some (p, [.one (.ptr l off)]) => p ∧ off = 0 ∧ s.lb l = some (.var cells)
 | _ => False
def fH1 (tab : Tab) (rs : List ResultVar) (cells : List AC) : Exit → St → Prop
 | .normal, s => zR1 tab rs cells s
 | .ret, s => zR1 tab rs cells s
 | _, _ => False
theorem yT1 {rs : List ResultVar} {cells : List AC} {s : St} : fH1 tab rs cells .ret s = zR1 tab rs cells s := rfl
attribute [go_sem] yT1 xZ1 zR1 gs0 nO1
theorem wE1 : ∀ (ls : List Nat) (s : St), (s.frzs ls).gh = s.gh
 | [], _ => rfl
 | l :: ls, s => wE1 ls (s.frz l)
theorem lX0 (hT : zT0 P tab) (hm : P.follows .mixedOrders = true) {f : FuncId} {fn : Func} {c : Code} {args : List AV} {cells : List AC} {rs : List ResultVar} {n : Nat} (hf : P.funcs[f]? = some fn) (hb : fn.body = some c) (hr : fn.results.toList = rs) (hn : fn.ntmps = n) (hname : fn.name ≠ "runtime.NumGoroutine")
  (hok : qm0 c = true) (hlen : args.length ≤ n) (hcl : ∀ a, a ∈ cells → clA a = true) (h : qn0 P tab c (fH1 tab rs cells) (mk n (qV0 0 args) [])) : kv1 P f args cells := by
 subst hr hn
 refine ⟨⟨fn, hf, hname, by rw [hb]; simp⟩, hcl, fun w F us hF hrep => ?_⟩
 refine calls_of_wp hf hb (wp_mono (zf0 hT hm c _ _ hok h w ⟨[], []⟩ F _ w ⟨F, g0, vQ0 hF hlen hrep⟩) ?_)
 rintro e a' w' ⟨s', hq, F1, g1, hs'⟩
 have main : zR1 tab fn.results.toList cells s' → ∃ v, (results fn a'.tmps).run P w' = .ok v w' ∧ ∃ b F', Ending.returned v = .returned (.pointer (some ⟨b, 0, none⟩)) ∧ RepLB w' F' noLk (gV b undef [b]) 0 (.var cells) ∧ Below w.heap.size w w' ∧ w.heap.size ≤ b ∧ b < w'.heap.size ∧ (∀ o, ¬ F' b o) ∧
   (∀ b o, F b o → F' b o) ∧ (∀ b o, F' b o → F b o ∨ w.heap.size ≤ b) ∧ (∀ b o, F' b o → b < w'.heap.size) := by
  intro hq
  unfold zR1 at hq
  split at hq
  case h_2 => exact hq.elim
  rename_i p l off ho
  obtain ⟨hp, rfl, hl⟩ := hq
  obtain ⟨us', hrun, hargs⟩ := qd0 hT hs' rfl ho hp
  simp only [RepAVs, RepAV, RepAC] at hargs
  obtain ⟨u, _, rfl, ⟨_, B, hB, hq⟩, rfl⟩ := hargs
  rw [hl] at hB
  obtain rfl := Option.some.inj hB
  simp only [zZ0] at hq
  subst hq
  obtain ⟨cs, e, k1, k2, k3⟩ := hs'.lb l _ hl
  have hso := hs'.so l _ hl
  simp only [SoftOk] at hso
  have hnw := hs'.nw l _ hl (g1.bl l) (by rw [k3]; simp)
  exact ⟨_, hrun, g1.bl l, F1, rfl, ⟨cs, e, k1, cS0 hcl k2, rfl⟩, ⟨hs'.os, hs'.tape, hs'.output, hs'.size, fun k hk => hs'.block k hk (fun h => by cases h)⟩, hnw.1.resolve_right (fun hq => by cases hq), hnw.2, hso, hs'.f0, fun b o hb => (hs'.f1 b o hb).imp id (fun hq => hq.elim id (fun hq => by cases hq)), hs'.f2⟩
 cases e with
 | normal => exact ⟨hs'.df, main hq⟩
 | ret => exact ⟨hs'.df, main hq⟩
 | _ => exact hq.elim
end Go.Ai
namespace Go.Ai
open Go.RowKit
variable {P : Program} {tab : Tab}
def yx0 (k : Nat) : Nat → List Nat
 | 0 => []
 | m + 1 => k :: yx0 (k + 1) m
theorem ry0 : ∀ (m k : Nat), (yx0 k m).length = m
 | 0, _ => rfl
 | m + 1, k => by simp [yx0, ry0 m]
theorem wv1 : ∀ (m k l : Nat), l ∈ yx0 k m → k ≤ l
 | m + 1, k, l, h => by
  simp only [yx0, List.mem_cons] at h
  rcases h with rfl | h
  ·exact Nat.le_refl _
  ·have := wv1 m (k + 1) l h; omega
theorem bp0 : ∀ (m k : Nat), (yx0 k m).Nodup
 | 0, _ => List.nodup_nil
 | m + 1, k => List.nodup_cons.2 ⟨fun h => by have := wv1 m (k + 1) k h; omega, bp0 m (k + 1)⟩
def jE0 (ρ : Nat → Nat) : List Nat → List LB → List (Nat × LB)
 | l :: ls, B :: Bs => (l, B.ren ρ) :: jE0 ρ ls Bs
 | _, _ => []
theorem bd0 (ρ : Nat → Nat) : ∀ (ls : List Nat) (Bs : List LB), ls.length = Bs.length → ∀ k, (pos ls k = none → zJ0 (jE0 ρ ls Bs) k = none) ∧ ∀ j B, pos ls k = some j → Bs[j]? = some B → zJ0 (jE0 ρ ls Bs) k = some (B.ren ρ)
 | [], [], _, k => ⟨fun _ => rfl, fun j B h => by simp [pos] at h⟩
 | l :: ls, B :: Bs, hl, k => by
  obtain ⟨i1, i2⟩ := bd0 ρ ls Bs (by simpa using hl) k
  by_cases e : k = l
  ·subst e
   refine ⟨fun h => by simp [pos] at h, fun j B' hp hB => ?_⟩
   simp only [pos, if_true, Option.some.injEq] at hp
   subst hp
   simp at hB
   subst hB
   simp [jE0, zJ0]
  ·refine ⟨fun h => ?_, fun j B' hp hB => ?_⟩
   ·simp only [pos, if_neg e, Option.map_eq_none_iff] at h
    simp only [jE0, zJ0, if_neg e]; exact i1 h
   ·simp only [pos, if_neg e, Option.map_eq_some_iff] at hp
    obtain ⟨i, hi, rfl⟩ := hp
    simp only [jE0, zJ0, if_neg e]; exact i2 i B' hi (by simpa using hB)
 | [], _ :: _, hl, _ => by simp at hl
 | _ :: _, [], hl, _ => by simp at hl
def a0X (l : Nat) : LB → AV
 | .var _ => .one (.ptr l 0)
 | .arr _ _ rows _ => .one (.own l rows.length)
 | _ => .any
def ghX : List Nat → List LB → List AV
 | l :: ls, B :: Bs => a0X l B :: ghX ls Bs
 | _, _ => []
def v0X (g : Gh) (j : Nat) : LB → Value
 | .var _ => .pointer (some ⟨g.bl j, 0, none⟩)
 | .arr _ _ _ _ => g.hd j
 | _ => undef
def gvX (g : Gh) (j : Nat) : List LB → List Value
 | B :: Bs => v0X g j B :: gvX g (j + 1) Bs
 | [] => []
theorem wI1 {w : World} {F : Fz} {lb : Lk} {g1 g : Gh} : ∀ (Bs : List LB) (ls : List Nat) (j : Nat), ls.length = Bs.length → (∀ (i : Nat) B l, Bs[i]? = some B → ls[i]? = some l → RepAV w F lb g1 (a0X l B) (v0X g (j + i) B)) → RepAVs w F lb g1 (ghX ls Bs) (gvX g j Bs)
 | [], [], _, _, _ => rfl
 | B :: Bs, l :: ls, j, hl, h => by
  refine ⟨_, _, rfl, by simpa using h 0 B l rfl rfl, wI1 Bs ls (j + 1) (by simpa using hl) (fun i B' l' h1 h2 => ?_)⟩
  have := h (i + 1) B' l' (by simpa using h1) (by simpa using h2)
  rwa [show j + 1 + i = j + (i + 1) by omega]
 | [], _ :: _, _, hl, _ => by simp at hl
 | _ :: _, [], _, hl, _ => by simp at hl
theorem wH1 {w : World} {F : Fz} {lb : Lk} {g1 g : Gh} : ∀ (Bs : List LB) (ls : List Nat) (j : Nat), RepAVs w F lb g1 (ghX ls Bs) (gvX g j Bs) → ∀ (i : Nat) B l, Bs[i]? = some B → ls[i]? = some l → RepAV w F lb g1 (a0X l B) (v0X g (j + i) B)
 | B :: Bs, l :: ls, j, h, i, B', l', h1, h2 => by
  simp only [ghX, gvX, RepAVs] at h
  obtain ⟨u, us', he, h3, h4⟩ := h
  obtain ⟨rfl, rfl⟩ := List.cons.inj he
  cases i with
  | zero => simp at h1 h2; subst h1 h2; exact h3
  | succ i =>
   have := wH1 Bs ls (j + 1) h4 i B' l' (by simpa using h1) (by simpa using h2)
   rwa [show j + 1 + i = j + (i + 1) by omega] at this
 | [], _, _, _, i, B', l', h1, _ => by simp at h1
 | _ :: _, [], _, _, i, B', l', _, h2 => by simp at h2
def fc1 (lb : Lk) (ρ : Nat → Nat) : List Nat → List LB → Prop
 | [], [] => True
 | l :: ls, B :: Bs => (B = .dead ∨ lb l = some (B.ren ρ)) ∧ fc1 lb ρ ls Bs
 | _, _ => False
theorem rd0 {lb : Lk} {ρ : Nat → Nat} : ∀ {ls : List Nat} {Bs : List LB}, fc1 lb ρ ls Bs → ∀ (j : Nat) B, Bs[j]? = some B → ∃ l, ls[j]? = some l ∧ (B = .dead ∨ lb l = some (B.ren ρ))
 | [], [], _, j, B, h => by simp at h
 | l :: ls, B :: Bs, h, j, B', hj => by
  cases j with
  | zero => simp at hj; subst hj; exact ⟨l, rfl, h.1⟩
  | succ j => simpa using rd0 h.2 j B' (by simpa using hj)
 | [], _ :: _, h, _, _, _ => h.elim
 | _ :: _, [], h, _, _, _ => h.elim
def gq0 : LB → LB → Prop
 | _, .dead => True
 | .var _, .var _ => True
 | .arr _ sz _ _, .arr _ sz' _ _ => sz = sz'
 | _, _ => False
def bC0 : List LB → List LB → Prop
 | [], _ => True
 | B :: Bs, B' :: Bs' => gq0 B B' ∧ bC0 Bs Bs'
 | _ :: _, [] => False
theorem gr0 : ∀ {Bs Bs' : List LB}, bC0 Bs Bs' → ∀ (j : Nat) B, Bs[j]? = some B → ∃ B', Bs'[j]? = some B' ∧ gq0 B B'
 | [], _, _, j, B, h => by simp at h
 | B :: Bs, B' :: Bs', h, j, C, hj => by
  cases j with
  | zero => simp at hj; subst hj; exact ⟨B', rfl, h.1⟩
  | succ j => simpa using gr0 h.2 j C (by simpa using hj)
 | _ :: _, [], h, _, _, _ => h.elim
def yO1 : AV → List AV
 | .tup vs => vs
 | v => [v]
def zW1 (tab : Tab) (rs : List ResultVar) (Bs Bs' : List LB) (r : AV) (s : St) : Prop :=
 match kv0 tab s rs with
 | some (p, vs) => p ∧ ∃ ns, (yx0 9000 Bs.length ++ ns).Nodup ∧ (yx0 9000 Bs.length ++ ns).length = Bs'.length ∧ fc1 s.lb (idx (yx0 9000 Bs.length ++ ns)) (yx0 9000 Bs.length ++ ns) Bs' ∧ s.gh = ghX (yx0 9000 Bs.length) Bs ∧
   tK0 s.lb (idx (yx0 9000 Bs.length ++ ns)) Bs'.length (yx0 9000 Bs.length ++ ns) vs (yO1 r)
 | none => False
def lP0 (tab : Tab) (rs : List ResultVar) (Bs Bs' : List LB) (r : AV) : Exit → St → Prop
 | .normal, s => zW1 tab rs Bs Bs' r s
 | .ret, s => zW1 tab rs Bs Bs' r s
 | _, _ => False
theorem yX1 {rs : List ResultVar} {Bs Bs' : List LB} {r : AV} {s : St} : lP0 tab rs Bs Bs' r .ret s = zW1 tab rs Bs Bs' r s := rfl
attribute [go_sem] yX1 zW1
theorem wT1 {w : World} {F : Fz} {lb : Lk} {g : Gh} {ds : List AV} {us : List Value} (h : RepAVs w F lb g ds us) : RepAV w F lb g (qa0 ds) (nL0 us) := by
 cases ds with
 | nil =>
  simp only [RepAVs] at h
  subst h
  simp only [qa0, RepAV, RepAVs]
  exact ⟨[], rfl, rfl⟩
 | cons d ds =>
  simp only [RepAVs] at h
  obtain ⟨u, us', rfl, k1, k2⟩ := h
  cases ds with
  | nil => simp only [RepAVs] at k2; subst k2; exact k1
  | cons d' ds =>
   simp only [RepAVs] at k2
   obtain ⟨u', us', rfl, k3, k4⟩ := k2
   simp only [qa0, RepAV, RepAVs]
   exact ⟨u :: u' :: us', rfl, u, u' :: us', rfl, k1, u', us', rfl, k3, k4⟩
theorem jd0 (hT : zT0 P tab) {f : FuncId} {fn : Func} {c : Code} {args : List AV} {Bs Bs' : List LB} {r : AV} {rs : List ResultVar} {n : Nat} (hf : P.funcs[f]? = some fn) (hb : fn.body = some c) (hr : fn.results.toList = rs) (hn : fn.ntmps = n) (hname : fn.name ≠ "runtime.NumGoroutine")
  (hlen : args.length ≤ n) (hA : args.all (lC0 Bs.length) = true) (hok : (Bs.all (okP Bs.length)) = true) (hok' : (Bs'.all (okX Bs'.length)) = true) (hrx : zu1 Bs'.length r = true) (hlike : bC0 Bs Bs') (hj : qa0 (yO1 r) = r)
  (h : AWP P c (lP0 tab rs Bs Bs' r) (mk n (qV0 0 (args.map (AV.ren1 (idx (yx0 9000 Bs.length))))) (jE0 (idx (yx0 9000 Bs.length)) (yx0 9000 Bs.length) Bs) (ghX (yx0 9000 Bs.length) Bs))) : qy0 P f args Bs Bs' r := by
 subst hr hn
 refine ⟨⟨fn, hf, hname, by rw [hb]; simp⟩, hok, hok', hrx, fun w F g us hF hargs hX => ?_⟩
 have hls := ry0 Bs.length 9000
 have hnd0 := bp0 Bs.length 9000
 generalize hls0 : yx0 9000 Bs.length = ls at *
 have lk := bd0 (idx ls) ls Bs hls
 have at_ : ∀ j B, Bs[j]? = some B → ∃ l, ls[j]? = some l ∧ idx ls j = l ∧ pos ls l = some j ∧ zJ0 (jE0 (idx ls) ls Bs) l = some (B.ren (idx ls)) ∧ okX Bs.length B = true ∧ jX0 B = true := by
  intro j B hjB
  have hjl : j < ls.length := by rw [hls]; exact (List.getElem?_eq_some_iff.1 hjB).1
  have e1 : ls[j]? = some ls[j] := List.getElem?_eq_getElem hjl
  have hp := xI0 hnd0 e1
  have := List.all_eq_true.1 hok B (List.mem_of_getElem? hjB)
  simp only [okP, Bool.and_eq_true] at this
  exact ⟨ls[j], e1, yu0 e1, hp, (lk _).2 j B hp hjB, this.1, this.2⟩
 have back : ∀ k B, zJ0 (jE0 (idx ls) ls Bs) k = some B → ∃ j B0, pos ls k = some j ∧ Bs[j]? = some B0 ∧ B = B0.ren (idx ls) ∧ idx ls j = k := by
  intro k B hk
  cases hp : pos ls k with
  | none => rw [(lk k).1 hp] at hk; cases hk
  | some j =>
   have h1 := yn0 hp
   have hjl := (List.getElem?_eq_some_iff.1 h1).1
   rw [hls] at hjl
   have hb0 : Bs[j]? = some Bs[j] := List.getElem?_eq_getElem hjl
   rw [(lk k).2 j _ hp hb0] at hk
   exact ⟨j, Bs[j], rfl, hb0, (Option.some.inj hk).symm, yu0 h1⟩
 have gS : ∀ k j, pos ls k = some j → (g0.push g ls).bl k = g.bl j ∧ (g0.push g ls).hd k = g.hd j ∧ (g0.push g ls).ds k = g.ds j := by
  intro k j hp; simp only [Gh.push, hp]; exact ⟨trivial, trivial, trivial⟩
 have T : Tr Bs.length (fun l => l) (idx ls) (lkL Bs) g (zJ0 (jE0 (idx ls) ls Bs)) (g0.push g ls) := by
  refine ⟨fun l hl B hlb => ?_⟩
  obtain ⟨k, k1, k2, k3, k4, _⟩ := at_ l B hlb
  obtain ⟨e0, e1, _⟩ := gS k l k3
  refine ⟨B.ren (idx ls), by rw [k2]; exact k4, fun n u hq => ?_, fun off u hq => ?_⟩
  ·rw [k2, e1]; exact ownB_ren.2 hq
  ·rw [k2, e0]; exact ptrB_ren.2 hq
 have repI : ∀ (j : Nat) (B : LB) (k : Nat), Bs[j]? = some B → ls[j]? = some k → RepLB w F (zJ0 (jE0 (idx ls) ls Bs)) (g0.push g ls) k (B.ren (idx ls)) ∧ SoftOk F (g0.push g ls) k (B.ren (idx ls)) := by
  intro j B k hjB hk
  obtain ⟨k', k1, k2, k3, k4, k5, _⟩ := at_ j B hjB
  rw [hk] at k1
  obtain rfl := Option.some.inj k1
  obtain ⟨e0, e1, e2⟩ := gS k j k3
  have q1 := kl1 (j := j) (ρ := fun l => l) T k5 (by rw [k2]; exact e0) (by rw [k2]; exact e1) (by rw [k2]; exact e2) (by rw [LB.ren_id]; exact hX.lb j B hjB)
  have q2 := dW0 (F := F) (σ := idx ls) (j := j) (ρ := fun l => l) (g := g) (g' := g0.push g ls) (B := B) (by rw [k2]; exact e0) (by rw [k2]; exact e1) (by rw [k2]; exact e2) (by rw [LB.ren_id]; exact hX.so j B hjB)
  rw [k2] at q1 q2
  exact ⟨q1, q2⟩
 have hun : ∀ b, InX g Bs b → ∀ o, ¬ F b o := by
  rintro b ⟨j, B, hjB, hbm⟩
  obtain ⟨k, k1, k2, k3, k4, k5, k6⟩ := at_ j B hjB
  obtain ⟨q1, q2⟩ := repI j B k hjB k1
  exact vO1 k5 k6 q1 q2 b (by rw [(gS k j k3).2.2]; exact hbm)
 obtain ⟨S, hS⟩ : ∃ S : List Nat, ∀ b, b ∈ S ↔ InX g Bs b := by
  refine ⟨(List.range Bs.length).flatMap g.ds, fun b => ?_⟩
  rw [List.mem_flatMap]
  constructor
  ·rintro ⟨j, hj, hbm⟩
   exact ⟨j, _, List.getElem?_eq_getElem (List.mem_range.1 hj), hbm⟩
  ·rintro ⟨j, B, hj, hbm⟩
   exact ⟨j, List.mem_range.2 (List.getElem?_eq_some_iff.1 hj).1, hbm⟩
 have hargs1 : RepAVs w F (zJ0 (jE0 (idx ls) ls Bs)) (g0.push g ls) (args.map (AV.ren1 (idx ls))) us := rC0 (ρ := fun l => l) T hA (by rw [pW0]; exact hargs)
 have hal := RepAVs.len _ _ hargs1
 rw [List.length_map] at hal
 have hsim : Sim w ⟨S, gvX g 0 Bs⟩ F F (g0.push g ls) (mk fn.ntmps (qV0 0 (args.map (AV.ren1 (idx ls)))) (jE0 (idx ls) ls Bs) (ghX ls Bs)) { tmps := us.toArray ++ Array.replicate (fn.ntmps - us.toArray.size) undef, defers := [] } w := {
  sz := by
   simp only [pl1, Array.size_append, List.size_toArray, Array.size_replicate]
   omega
  df := rfl
  sl := fun i => by
   have e : us.toArray ++ Array.replicate (fn.ntmps - us.toArray.size) undef = (us ++ List.replicate (fn.ntmps - us.length) undef).toArray := by simp
   simp only [cu0, wC0, e, ym0]
   rcases ju0 _ us 0 i (List.replicate (fn.ntmps - us.length) undef) hargs1 with h | ⟨_, _, h⟩
   ·rw [h]; simp only [RepAV]
   ·exact h
  gh := by
   refine wI1 Bs ls 0 hls (fun i B l h1 h2 => ?_)
   obtain ⟨k, k1, k2, k3, k4, k5, k6⟩ := at_ i B h1
   rw [h2] at k1
   obtain rfl := Option.some.inj k1
   obtain ⟨e0, e1, _⟩ := gS l i k3
   rw [Nat.zero_add]
   cases B with
   | var cells =>
    simp only [a0X, v0X, RepAV, RepAC, wC0]
    exact ⟨rfl, _, k4, by simp only [LB.ren, zZ0, e0]⟩
   | arr e sz rows fz =>
    have hone : (g.hd i).oneCell' = true := by
     obtain ⟨_, _, xs, _, hown, _⟩ := hX.lb i _ h1
     rcases hown.2 with ⟨e1, _⟩ | ⟨_, _, _, e1, _⟩ <;> (have e1 : g.hd i = _ := e1; rw [e1]; rfl)
    simp only [a0X, v0X, RepAV, RepAC, wC0]
    exact ⟨hone, _, k4, by simp only [LB.ren, okOwnB, e1, List.length_map]; exact ⟨Nat.le_refl _, fun _ => trivial⟩⟩
   | tok x => exact absurd k5 (by simp [okX])
   | dead => exact absurd k6 (by simp [jX0])
  lb := fun k B hk => by
   obtain ⟨j, B0, hp, hB0, rfl, _⟩ := back k B hk
   exact (repI j B0 k hB0 (yn0 hp)).1
  so := fun k B hk => by
   obtain ⟨j, B0, hp, hB0, rfl, _⟩ := back k B hk
   exact (repI j B0 k hB0 (yn0 hp)).2
  nd := fun k B hk => by
   obtain ⟨j, B0, hp, hB0, rfl, _⟩ := back k B hk
   rw [(gS k j hp).2.2]; exact hX.nd j B0 hB0
  dj := fun k k' B B' hne hk hk' b hb1 hb2 => by
   obtain ⟨j, B0, hp, hB0, rfl, e⟩ := back k B hk
   obtain ⟨j', B0', hp', hB0', rfl, e'⟩ := back k' B' hk'
   rw [(gS k j hp).2.2] at hb1
   rw [(gS k' j' hp').2.2] at hb2
   refine hX.dj j j' B0 B0' ?_ hB0 hB0' b hb1 hb2
   rintro rfl
   exact hne (e.symm.trans e')
  nw := fun k B hk b hb1 => by
   obtain ⟨j, B0, hp, hB0, rfl, _⟩ := back k B hk
   rw [(gS k j hp).2.2] at hb1
   exact ⟨.inr ((hS b).2 ⟨j, B0, hB0, hb1⟩), hX.nw j B0 hB0 b hb1⟩
  f0 := fun _ _ h => h
  f1 := fun _ _ h => .inl h
  f2 := hF.lt
  tb := hF.tb.start (fun b hb o => hun b ((hS b).1 hb) o)
  os := rfl
  tape := rfl
  output := rfl
  size := Nat.le_refl _
  block := fun _ _ _ => rfl }
 refine calls_of_wp hf hb (wp_mono (h w ⟨S, gvX g 0 Bs⟩ F _ w ⟨F, g0.push g ls, hsim⟩) ?_)
 rintro ex a' w' ⟨s', hq, F1, g2, hs'⟩
 have main : zW1 tab fn.results.toList Bs Bs' r s' → ∃ v, (results fn a'.tmps).run P w' = .ok v w' ∧ ∃ v1 F' g', Ending.returned v = .returned v1 ∧ RepAV w' F' (lkL Bs') g' r v1 ∧ OutX w F g Bs w' F' g' Bs' := by
  intro hq
  unfold zW1 at hq
  rw [hls0] at hq
  split at hq
  case h_2 => exact hq.elim
  rename_i p vs ho
  obtain ⟨hp, ns, hnd, hlen', hend, hghe, hcon⟩ := hq
  obtain ⟨us', hrun, hres⟩ := qd0 hT hs' rfl ho hp
  obtain ⟨F2, hs2, u1, p1⟩ := hs'.freezes (br0 vs (yO1 r))
  have hcon := cW0 hcon
  have hno := fF0 hcon
  generalize hos : br0 vs (yO1 r) = os at hs2 p1 hno
  have hres2 := RepAVs.mono (w := w') (w' := w') ⟨u1, fun _ _ _ => rfl⟩ (Keeps.refl s'.lb g2) _ _ hres
  have endG := rd0 hend
  have lbq2 : ∀ l, l ∈ ls ++ ns → (s'.frzs os).lb l = s'.lb l := fun l hl => jC0 os s' l (fun hm => hno l hm hl)
  have hgh2 : (s'.frzs os).gh = ghX ls Bs := by rw [wE1]; exact hghe
  generalize s'.frzs os = s2 at hs2 lbq2 hgh2
  have ρL : ∀ j B, Bs'[j]? = some B → ∃ l, (ls ++ ns)[j]? = some l ∧ idx (ls ++ ns) j = l ∧ l ∈ ls ++ ns ∧ (B = .dead ∨ s'.lb l = some (B.ren (idx (ls ++ ns)))) := by
   intro j B hjB
   obtain ⟨l, h1, h2⟩ := endG j B hjB
   exact ⟨l, h1, yu0 h1, List.mem_of_getElem? h1, h2⟩
  generalize hρ : idx (ls ++ ns) = ρ at *
  obtain ⟨g3, hg3⟩ : ∃ g3 : Gh, g3 = ⟨fun j => g2.bl (ρ j), fun j => g2.hd (ρ j), fun j => match Bs'[j]? with | some .dead => [] | _ => g2.ds (ρ j)⟩ := ⟨_, rfl⟩
  have g3b : ∀ j, g3.bl j = g2.bl (ρ j) := fun j => by rw [hg3]
  have g3h : ∀ j, g3.hd j = g2.hd (ρ j) := fun j => by rw [hg3]
  have g3d : ∀ j B, Bs'[j]? = some B → (B = .dead ∧ g3.ds j = []) ∨ (s2.lb (ρ j) = some (B.ren ρ) ∧ g3.ds j = g2.ds (ρ j)) := by
   intro j B hjB
   obtain ⟨l, k1, k2, k3, k4⟩ := ρL j B hjB
   by_cases hd : B = .dead
   ·subst hd; exact .inl ⟨rfl, by rw [hg3]; simp [hjB]⟩
   ·have k4 := k4.resolve_left hd
    refine .inr ⟨by rw [k2, lbq2 l k3]; exact k4, ?_⟩
    cases B with
    | dead => exact absurd rfl hd
    | _ => rw [hg3]; simp [hjB]
  have T3 : ∀ lbq : Lk, (∀ l, l ∈ ls ++ ns → lbq l = s'.lb l) → Tr Bs'.length ρ (fun l => l) lbq g2 (lkL Bs') g3 := by
   intro lbq hq
   refine ⟨fun l hl B hlb => ?_⟩
   have hb0 : Bs'[l]? = some Bs'[l] := List.getElem?_eq_getElem hl
   obtain ⟨k, k1, k2, k3, k4⟩ := ρL l _ hb0
   rw [k2, hq k k3] at hlb
   refine ⟨Bs'[l], hb0, ?_⟩
   generalize Bs'[l] = B0 at *
   rcases k4 with rfl | k4
   ·exact ⟨fun _ _ _ => trivial, fun _ _ _ => trivial⟩
   ·rw [hlb] at k4
    obtain rfl := Option.some.inj k4
    rw [g3h, g3b]
    exact ⟨fun n u hq => ownB_ren.1 hq, fun off u hq => ptrB_ren.1 hq⟩
  have okB' : ∀ j B, Bs'[j]? = some B → okX Bs'.length B = true := fun j B hjB => List.all_eq_true.1 hok' B (List.mem_of_getElem? hjB)
  have ρne : ∀ j j' B B', j ≠ j' → Bs'[j]? = some B → Bs'[j']? = some B' → ρ j ≠ ρ j' := by
   intro j j' B B' hne hjB hjB' he
   obtain ⟨k, k1, k2, _⟩ := ρL j B hjB
   obtain ⟨k', k1', k2', _⟩ := ρL j' B' hjB'
   have : k = k' := by rw [← k2, ← k2', he]
   subst this
   exact hne (Option.some.inj ((xI0 hnd k1).symm.trans (xI0 hnd k1')))
  have hrep : RepX w' F2 g3 Bs' := by
   refine ⟨fun j B hjB => ?_, fun j B hjB => ?_, fun j B hjB => ?_, fun j j' B B' hne hjB hjB' b hb1 hb2 => ?_, fun j B hjB b hb1 => ?_⟩
   ·rcases g3d j B hjB with ⟨rfl, _⟩ | ⟨h1, h2⟩
    ·trivial
    ·have := kl1 (j := j) (T3 s2.lb lbq2) (okB' j B hjB) (g3b j) (g3h j) h2 (hs2.lb _ _ h1)
     rwa [LB.ren_id] at this
   ·rcases g3d j B hjB with ⟨rfl, _⟩ | ⟨h1, h2⟩
    ·trivial
    ·have := dW0 (F := F2) (j := j) (σ := fun l => l) (g' := g3) (g3b j) (g3h j) h2 (hs2.so _ _ h1)
     rwa [LB.ren_id] at this
   ·rcases g3d j B hjB with ⟨rfl, h2⟩ | ⟨h1, h2⟩
    ·rw [h2]; exact List.nodup_nil
    ·rw [h2]; exact hs2.nd _ _ h1
   ·rcases g3d j B hjB with ⟨rfl, h2⟩ | ⟨h1, h2⟩
    ·rw [h2] at hb1; cases hb1
    ·rw [h2] at hb1
     rcases g3d j' B' hjB' with ⟨rfl, h2'⟩ | ⟨h1', h2'⟩
     ·rw [h2'] at hb2; cases hb2
     ·rw [h2'] at hb2
      exact hs2.dj _ _ _ _ (ρne j j' B B' hne hjB hjB') h1 h1' b hb1 hb2
   ·rcases g3d j B hjB with ⟨rfl, h2⟩ | ⟨h1, h2⟩
    ·rw [h2] at hb1; cases hb1
    ·rw [h2] at hb1; exact (hs2.nw _ _ h1 b hb1).2
  refine ⟨_, hrun, _, F2, g3, rfl, ?_, { rep := hrep, keep := ?_, src := ?_, up := hs2.f0, new := ?_, lt := hs2.f2, os := hs2.os, tape := hs2.tape, output := hs2.output, size := hs2.size, frame := ?_ }⟩
  ·have hv := pd0 hs' u1 (T3 s'.lb (fun _ _ => rfl)) hcon (by rw [hos]; exact p1) hres2
   rw [← hj]
   exact wT1 hv
  ·intro j B hjB
   obtain ⟨B', hB', hl1⟩ := gr0 hlike j B hjB
   refine ⟨B', hB', ?_⟩
   obtain ⟨l, k1, k2, k3, k4, k5, k6⟩ := at_ j B hjB
   have hgh := hs2.gh
   rw [hgh2] at hgh
   have hgj := wH1 Bs ls 0 hgh j B l hjB k1
   rw [Nat.zero_add] at hgj
   have hρl : ρ j = l := by
    rw [← hρ]
    exact yu0 (by rw [List.getElem?_append_left (List.getElem?_eq_some_iff.1 k1).1]; exact k1)
   rcases g3d j B' hB' with ⟨rfl, _⟩ | ⟨h1, _⟩
   ·exact t4'
   ·rw [hρl] at h1
    rw [g3h, g3b, hρl]
    cases B with
    | var cells =>
     cases B' <;> simp only [gq0] at hl1
     ·simp only [a0X, v0X, RepAV, RepAC] at hgj
      obtain ⟨_, B2, hB2, hq⟩ := hgj
      rw [h1] at hB2
      obtain rfl := Option.some.inj hB2
      simp only [LB.ren, zZ0, Value.pointer.injEq, Option.some.injEq, Addr.mk.injEq, and_true] at hq
      rw [hq]
      exact ⟨fun _ _ _ => trivial, fun _ _ hq => hq, fun _ _ _ _ _ => trivial, fun _ _ _ => trivial⟩
     ·exact t4'
    | arr e sz rows fz =>
     cases B' <;> simp only [gq0] at hl1
     ·subst hl1
      rename_i e' rows' fz'
      simp only [a0X, v0X, RepAV, RepAC] at hgj
      obtain ⟨_, B2, hB2, hq⟩ := hgj
      rw [h1] at hB2
      obtain rfl := Option.some.inj hB2
      simp only [LB.ren, okOwnB, List.length_map] at hq
      obtain ⟨hq1, hq2⟩ := hq
      refine ⟨fun n u hu => ?_, fun _ _ _ => trivial, fun n i off u hu => ?_, fun _ _ _ => trivial⟩
      ·simp only [okOwnB] at hu ⊢
       refine ⟨by omega, fun hn => ?_⟩
       rw [hu.2 (by omega), hq2 (by omega)]
      ·simp only [qG0] at hu ⊢
       refine ⟨by omega, fun hn => ?_⟩
       rw [← hq2 (by omega)]
       exact hu.2 (by omega)
     ·exact t4'
    | tok x => exact absurd k5 (by simp [okX])
    | dead => exact absurd k6 (by simp [jX0])
  ·intro j B hjB b hb1
   rcases g3d j B hjB with ⟨rfl, h2⟩ | ⟨h1, h2⟩
   ·rw [h2] at hb1; cases hb1
   ·rw [h2] at hb1
    rcases (hs2.nw _ _ h1 b hb1).1 with hq | hq
    ·exact .inr hq
    ·exact .inl ((hS b).1 hq)
  ·intro b o hq
   rcases hs2.f1 b o hq with hq | hq | hq
   ·exact .inl hq
   ·exact .inr (.inl hq)
   ·exact .inr (.inr ((hS b).1 hq))
  ·exact fun k hk hn => hs2.block k hk (fun hm => hn ((hS k).1 hm))
 cases ex with
 | normal => exact ⟨hs'.df, main hq⟩
 | ret => exact ⟨hs'.df, main hq⟩
 | _ => exact hq.elim
theorem zq0 (hT : zT0 P tab) (hm : P.follows .mixedOrders = true) {f : FuncId} {fn : Func} {c : Code} {args : List AV} {Bs Bs' : List LB} {r : AV} {rs : List ResultVar} {n : Nat} (hf : P.funcs[f]? = some fn) (hb : fn.body = some c) (hr : fn.results.toList = rs) (hn : fn.ntmps = n) (hname : fn.name ≠ "runtime.NumGoroutine")
  (hoc : qm0 c = true) (hlen : args.length ≤ n) (hA : args.all (lC0 Bs.length) = true) (hok : (Bs.all (okP Bs.length)) = true) (hok' : (Bs'.all (okX Bs'.length)) = true) (hrx : zu1 Bs'.length r = true) (hlike : bC0 Bs Bs') (hj : qa0 (yO1 r) = r)
  (h : qn0 P tab c (lP0 tab rs Bs Bs' r) (mk n (qV0 0 (args.map (AV.ren1 (idx (yx0 9000 Bs.length))))) (jE0 (idx (yx0 9000 Bs.length)) (yx0 9000 Bs.length) Bs) (ghX (yx0 9000 Bs.length) Bs))) : qy0 P f args Bs Bs' r :=
 jd0 hT hf hb hr hn hname hlen hA hok hok' hrx hlike hj (zf0 hT hm c _ _ hoc h)
theorem dg0 (ρ : Nat → Nat) (cs : List C) : (cs.map AC.c).map (AC.ren ρ) = cs.map AC.c := by
 induction cs with
 | nil => rfl
 | cons c cs ih => simp only [List.map_cons, AC.ren, ih]
theorem rJ0 (m : Nat) (cs : List C) : (cs.map AC.c).all (okA m) = true := by
 induction cs with
 | nil => rfl
 | cons c cs ih => simp only [List.map_cons, List.all_cons, okA, ih, Bool.and_self]
theorem qD1 (cs : List C) : (cs.map AC.c).any fC1 = false := by
 induction cs with
 | nil => rfl
 | cons c cs ih => simp only [List.map_cons, List.any_cons, fC1, ih, Bool.or_self]
attribute [go_sem] dg0 rJ0 qD1 AC.ren AV.ren1 AV.ren LB.ren okA lC0 zu1 okX okP jX0 idx yx0 jE0 a0X ghX fc1 bC0 gq0 yO1 fC1 fr1 bm0 tK0 mA0 mB0 bW0 br0 yY0 xZ0 qa0
end Go.Ai
