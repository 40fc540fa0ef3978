/- Drawn regions in which calls are lent blocks (their numbers: gs), what is not ordered with them naming other blocks. The end is written after AiRegion4. -/
import Derived.Test.YtgdmjekkdcjipaaGreatAiCon2
import Derived.Test.YtgdmjekkdcjipaaGreatAiRows
import Derived.Test.YtgdmjekkdcjipaaGreatAiRow2
set_option linter.unusedVariables false
set_option linter.unusedSimpArgs false
namespace Go.Ai
open Go.RowKit
variable {P : Program} {tab : Tab} {ops : Array Oper} {w0 : World} {M0 : Ms} {F0 : Fz}
def ActsU0 (P : Program) (o : Oper) (s s' : St) : Prop := ∃ c f fid args Bs Bs' r ls, o.op = .call c ∧ c.callee = .value f ∧ xq0 (opv s f) = some fid ∧ (∀ t, o.dst = some t → t < s.n) ∧ fL0 P fid args Bs Bs' r ∧ (ls ++ []).Nodup ∧ lH0 s.lb (idx (ls ++ [])) ls Bs ∧
 conA (wm0 s.lb) (idx (ls ++ [])) Bs.length ls (c.args.toList.map (opv s)) args ∧ (ls ++ []).length = Bs'.length ∧ (∀ l, l ∈ ls → ∃ v, v ∈ c.args.toList.map (opv s) ∧ l ∈ v.refs) ∧ s' = nU0 (c.args.toList.map (opv s)) args Bs' r ls [] s o.dst
theorem ActsU0.x {o : Oper} {s s' : St} (h : ActsU0 P o s s') : vM1 P o s s' := by
 obtain ⟨c, f, fid, args, Bs, Bs', r, ls, h1, h2, h3, h4, h5, h6, h7, h8, h9, _, h10⟩ := h
 exact ⟨c, f, fid, args, Bs, Bs', r, ls, [], h1, h2, h3, h4, h5, h6, h7, h8, trivial, h9, h10⟩
def nF0 (tab : Tab) (o : Oper) (s s' : St) : Prop := ∃ t x lo hi d p v, o.op = .slice t x lo hi none ∧ (∀ q, o.dst = some q → q < s.n) ∧ wm0 s.lb (opv s x) d ∧ xC0 tab (tab t) d (lo.map (opv s)) (hi.map (opv s)) = some (p, v) ∧ p ∧ s' = (s.frzs (opv s x).owns).set o.dst v
def tc0 (P : Program) (tab : Tab) (o : Oper) (s s' : St) : Prop := ActsU0 P o s s' ∨ nF0 tab o s s'
theorem cw0 {s s' : St} {F : Fz} {g : Gh} {a : Act} {w : World} (hT : zU0 P tab) (h : Sim w0 M0 F0 F g s a w) {o : Oper} (hs : nF0 tab o s s') {K : Act → World → Prop} {Q : Exit → Act → World → Prop} (hK : ∀ a' w', wT0 w0 M0 F0 s' a' w' → K a' w') : o.wp P a w K Q := by
 obtain ⟨t, x, lo, hi, d, p, v, hop, hdst, hview, hsl, hp, rfl⟩ := hs
 obtain ⟨F1, hF1, u1, p1⟩ := h.freezes (opv s x).owns
 have E : ∀ z, RepAV w F1 (s.frzs (opv s x).owns).lb g (opv (s.frzs (opv s x).owns) z) (a.eval z) := fun z => zm0 hF1 z
 have oE : ∀ z, opv (s.frzs (opv s x).owns) z = opv s z := fun z => by cases z <;> simp only [opv, St.frzs_sl]
 have hx : RepAV w F1 s.lb g (opv s x) (a.eval x) := RepAV.mono ⟨u1, fun _ _ _ => rfl⟩ (Keeps.refl s.lb g) _ _ (zm0 h x)
 have hd := zW0 h u1 [opv s x] [d] [a.eval x] ⟨d, [], rfl, hview, rfl⟩ ⟨_, [], rfl, hx, rfl⟩ (fun l hl => p1 l (by simpa using hl))
 simp only [RepAVs] at hd
 obtain ⟨u', us', he, hd, _⟩ := hd
 obtain ⟨rfl, _⟩ := List.cons.inj he
 have hd2 : RepAV w F1 (s.frzs (opv s x).owns).lb g d (a.eval x) := RepAV.mono (Stays.refl _ _) ⟨fun l B hl => by simp [noLk] at hl⟩ _ _ hd
 obtain ⟨u, hu, hv⟩ := xD0 (P := P) (vl := lo.map a.eval) (vh := hi.map a.eval) hT hd2 (by cases lo with
  | none => trivial
  | some y => simp only [Option.map_some]; rw [← oE y]; exact E y) (by cases hi with
  | none => trivial
  | some y => simp only [Option.map_some]; rw [← oE y]; exact E y) hsl hp
 unfold Oper.wp
 have hrun : (execOp a.eval o).run P w = .ok (.value u) w := by unfold execOp; simp [hop, hu]
 rw [hrun]
 exact hK _ _ ⟨F1, g, hF1.set? (fun q hq => by rw [St.frzs_n]; exact hdst q hq) hv⟩
def gM0 (ρ : Nat → Nat) : List Nat → List LB → Lk → Lk
 | l :: ls, B :: Bs, lb => gM0 ρ ls Bs (kR0 l (B.ren ρ) lb)
 | _, _, lb => lb
theorem nz0 (ρ : Nat → Nat) : ∀ (L : List Nat) (Bs : List LB) (s : St), wv0 ρ L Bs s = { s with lb := gM0 ρ L Bs s.lb }
 | [], _, _ => rfl
 | _ :: _, [], _ => rfl
 | l :: L, B :: Bs, s => by rw [wv0, nz0]; rfl
theorem tr0 (ρ : Nat → Nat) : ∀ (L : List Nat) (Bs : List LB), FormU.At (gM0 ρ L Bs) (fun k => k ∈ L)
 | [], Bs => ⟨fun _ x => x, fun lb k => by cases Bs <;> rfl, fun _ _ _ => rfl⟩
 | l :: L, [] => ⟨fun _ x => x, fun _ _ => rfl, fun _ _ _ => rfl⟩
 | l :: L, B :: Bs => by
  obtain ⟨f, f1, f2⟩ := tr0 ρ L Bs
  refine ⟨fun k x => f k (if k = l then some (B.ren ρ) else x), fun lb k => by rw [gM0, f1]; rfl, fun k hk x => ?_⟩
  show f k (if k = l then some (B.ren ρ) else x) = x
  rw [f2 k (fun h => hk (by simp [h])), if_neg (fun h => hk (by simp [h]))]
theorem gN0 (ρ : Nat → Nat) : ∀ (L : List Nat) (Bs : List LB) (lb : Lk) (k : Nat), gM0 ρ L Bs lb k = none → lb k = none
 | [], _, _, _, h => h
 | _ :: _, [], _, _, h => h
 | l :: L, B :: Bs, lb, k, h => by
  have := gN0 ρ L Bs _ k h
  unfold kR0 at this
  split at this
  ·cases this
  ·exact this
theorem fn0 {lb lb' : Lk} {ρ : Nat → Nat} : ∀ {ls : List Nat} {Bs : List LB}, (∀ l, l ∈ ls → lb' l = lb l) → lH0 lb ρ ls Bs → lH0 lb' ρ ls Bs
 | [], [], _, _ => trivial
 | l :: ls, B :: Bs, hq, h => ⟨by rw [hq l (by simp)]; exact h.1, fn0 (fun k hk => hq k (by simp [hk])) h.2⟩
 | [], _ :: _, _, h => h.elim
 | _ :: _, [], _, h => h.elim
theorem fm0 {lb lb' : Lk} {ρ : Nat → Nat} {m : Nat} {ls : List Nat} : ∀ {vs ds : List AV}, (∀ v, v ∈ vs → ∀ l, l ∈ v.refs → lb' l = lb l) → conA (wm0 lb) ρ m ls vs ds → conA (wm0 lb') ρ m ls vs ds
 | [], [], _, _ => trivial
 | v :: vs, d :: ds, hq, h => by
  simp only [conA] at h ⊢
  refine ⟨?_, fm0 (fun u hu => hq u (by simp [hu])) h.2⟩
  have h1 := h.1
  split at h1
  ·rename_i e; rw [if_pos e]; exact h1
  ·rename_i e; rw [if_neg e]
   exact ⟨jU0 (fun l hl => by rw [hq v (by simp) l hl]; exact eqv.refl _) h1.1, h1.2⟩
 | [], _ :: _, _, h => h.elim
 | _ :: _, [], _, h => h.elim
theorem ny0 : ∀ {vs ds : List AV} {l : Nat}, l ∈ bC0 vs ds → ∃ v, v ∈ vs ∧ l ∈ v.owns
 | v :: vs, d :: ds, l, h => by
  simp only [bC0, List.mem_append] at h
  rcases h with h | h
  ·split at h
   ·cases h
   ·exact ⟨v, by simp, h⟩
  ·obtain ⟨u, hu, hl⟩ := ny0 h
   exact ⟨u, by simp [hu], hl⟩
 | [], _, _, h => by cases h
 | _ :: _, [], _, h => by cases h
theorem lX0 {o : Oper} {s s' : St} (h : ActsU0 P o s s') : ∃ φ v, s' = s.app φ o.dst v ∧ (∃ A, FormU.At φ A ∧ (∀ k, A k → (s.lb k = none ∧ o.dst = some k) ∨ ∃ x, x ∈ (zp0 o).toList ∧ k ∈ (opv s x).refs) ∧ ∀ lb k, φ lb k = none → lb k = none) ∧
  ∀ t, AgreeE ops o s t → ActsU0 P o t (t.app φ o.dst v) := by
 obtain ⟨c, f, fid, args, Bs, Bs', r, ls, hop, hcal, hfn, hdst, hsat, hnd, hB, hA, hlen, href, rfl⟩ := h
 have O : ∀ t, AgreeE ops o s t → ∀ x, x ∈ o.op.operands.toList → opv t x = opv s x := fun t ha x hx => wG0 (fun k hk => ha.sl k (qO0 hk)) hx
 have argsE : ∀ t, AgreeE ops o s t → c.args.toList.map (opv t) = c.args.toList.map (opv s) := fun t ha => List.map_congr_left (fun x hx => O t ha x (by rw [hop]; exact qH0 hx))
 have look : ∀ t, AgreeE ops o s t → ∀ v, v ∈ c.args.toList.map (opv s) → ∀ l, l ∈ v.refs → t.lb l = s.lb l := fun t ha v hv l hl => by
  obtain ⟨x, hx, rfl⟩ := List.mem_map.1 hv
  exact ha.lb x (by rw [jc0 hop, hop]; exact qH0 hx) l hl
 generalize hvs : c.args.toList.map (opv s) = vs at hA href argsE look
 have hops : ∀ v, v ∈ vs → ∃ x, x ∈ o.op.operands.toList ∧ opv s x = v := fun v hv => by
  rw [← hvs] at hv
  obtain ⟨x, hx, rfl⟩ := List.mem_map.1 hv
  exact ⟨x, by rw [hop]; exact qH0 hx, rfl⟩
 have happ : ∀ t : St, nU0 vs args Bs' r ls [] t o.dst = t.app (fun lb => gM0 (idx (ls ++ [])) (ls ++ []) Bs' (kP0 (bC0 vs args) lb)) o.dst (r.ren (idx (ls ++ []))) := fun t => by
  unfold nU0
  rw [nz0, pL0]; rfl
 obtain ⟨f1, f2, f3⟩ := tr0 (idx (ls ++ [])) (ls ++ []) Bs'
 obtain ⟨g1, g2, g3⟩ := tq0 (bC0 vs args)
 refine ⟨fun lb => gM0 (idx (ls ++ [])) (ls ++ []) Bs' (kP0 (bC0 vs args) lb), r.ren (idx (ls ++ [])), happ s, ⟨fun k => k ∈ ls ++ [] ∨ k ∈ bC0 vs args, ⟨fun k x => f1 k (g1 k x), fun lb k => by show gM0 _ _ _ (kP0 _ lb) k = f1 k (g1 k (lb k)); rw [f2, g2], fun k hk x => ?_⟩, fun k hk => ?_, fun lb k hk => ?_⟩, fun t ha => ?_⟩
 ·simp only [not_or] at hk
  show f1 k (g1 k x) = x
  rw [g3 k hk.2, f3 k hk.1]
 ·rcases hk with hk | hk
  ·obtain ⟨v, hv, hl⟩ := href k (by simpa using hk)
   obtain ⟨x, hx, e⟩ := hops v hv
   exact .inr ⟨x, by rw [jc0 hop]; exact hx, by rw [e]; exact hl⟩
  ·obtain ⟨v, hv, hl⟩ := ny0 hk
   obtain ⟨x, hx, e⟩ := hops v hv
   exact .inr ⟨x, by rw [jc0 hop]; exact hx, by rw [e]; exact pb0 _ _ hl⟩
 ·have := gN0 _ _ _ _ k hk
  rw [bi0] at this
  split at this <;> simpa using this
 ·refine ⟨c, f, fid, args, Bs, Bs', r, ls, hop, hcal, by rw [O t ha f (by rw [hop]; exact pB0 hcal)]; exact hfn, by rw [ha.n]; exact hdst, hsat, hnd, ?_, ?_, hlen, ?_, ?_⟩
  ·refine fn0 (fun l hl => ?_) hB
   obtain ⟨v, hv, hlv⟩ := href l hl
   exact look t ha v hv l hlv
  ·rw [argsE t ha]
   exact fm0 (fun v hv l hl => look t ha v hv l hl) hA
  ·rw [argsE t ha]; exact href
  ·rw [argsE t ha]; exact (happ t).symm
theorem lV0 {o : Oper} {s s' : St} (h : nF0 tab o s s') : ∃ φ v, s' = s.app φ o.dst v ∧ (∃ A, FormU.At φ A ∧ (∀ k, A k → (s.lb k = none ∧ o.dst = some k) ∨ ∃ x, x ∈ (zp0 o).toList ∧ k ∈ (opv s x).refs) ∧ ∀ lb k, φ lb k = none → lb k = none) ∧
  ∀ t, AgreeE ops o s t → nF0 tab o t (t.app φ o.dst v) := by
 obtain ⟨t, x, lo, hi, d, p, v, hop, hdst, hview, hsl, hp, rfl⟩ := h
 have hx : x ∈ o.op.operands.toList := by simp [hop, Op.operands]
 refine ⟨kP0 (opv s x).owns, v, by rw [pL0]; rfl, ⟨_, tq0 _, fun k hk => .inr ⟨x, by rw [dw0 hop]; exact hx, pb0 _ _ hk⟩, fun lb k h => by rw [bi0] at h; split at h <;> simpa using h⟩, fun q ha => ?_⟩
 have O : ∀ z, z ∈ o.op.operands.toList → opv q z = opv s z := fun z hz => wG0 (fun k hk => ha.sl k (qO0 hk)) hz
 refine ⟨t, x, lo, hi, d, p, v, hop, by rw [ha.n]; exact hdst, ?_, ?_, hp, ?_⟩
 ·rw [O x hx]
  exact jU0 (fun l hl => by rw [ha.lb x (by rw [dw0 hop]; exact hx) l hl]; exact eqv.refl _) hview
 ·have h1 : lo.map (opv q) = lo.map (opv s) := by
   cases lo with
   | none => rfl
   | some y => simp only [Option.map_some]; rw [O y (by simp [hop, Op.operands])]
  have h2 : hi.map (opv q) = hi.map (opv s) := by
   cases hi with
   | none => rfl
   | some y => simp only [Option.map_some]; rw [O y (by simp [hop, Op.operands])]
  rw [h1, h2]; exact hsl
 ·rw [O x hx, pL0]; rfl
theorem rj0 {o : Oper} {s s' : St} (h : tc0 P tab o s s') : ∃ φ v, s' = s.app φ o.dst v ∧ (∃ A, FormU.At φ A ∧ (∀ k, A k → (s.lb k = none ∧ o.dst = some k) ∨ ∃ x, x ∈ (zp0 o).toList ∧ k ∈ (opv s x).refs) ∧ ∀ lb k, φ lb k = none → lb k = none) ∧
  ∀ t, AgreeE ops o s t → tc0 P tab o t (t.app φ o.dst v) := by
 rcases h with h | h
 ·obtain ⟨φ, v, e, F, k⟩ := lX0 (ops := ops) h
  exact ⟨φ, v, e, F, fun t ha => .inl (k t ha)⟩
 ·obtain ⟨φ, v, e, F, k⟩ := lV0 (ops := ops) h
  exact ⟨φ, v, e, F, fun t ha => .inr (k t ha)⟩
def wk0 (P : Program) (tab : Tab) (y : Prop) (ops : Array Oper) (o : Oper) (s s' : St) : Prop := fM0 P tab ops o s s' ∨ (y ∧ cs0 ops o s true ∧ tc0 P tab o s s')
theorem jg0 {y : Prop} {o : Oper} {s s' : St} (h : wk0 P tab y ops o s s') : ∃ φ v, s' = s.app φ o.dst v ∧ (∃ A, FormU.At φ A ∧ (∀ k, A k → (s.lb k = none ∧ o.dst = some k) ∨ ∃ x, x ∈ (zp0 o).toList ∧ k ∈ (opv s x).refs) ∧ ∀ lb k, φ lb k = none → lb k = none) ∧
  ∀ t, AgreeE ops o s t → wk0 P tab y ops o t (t.app φ o.dst v) := by
 rcases h with h | ⟨hy, hw, h⟩
 ·obtain ⟨φ, v, e, F, k⟩ := go0 h
  exact ⟨φ, v, e, jx1 F, fun t ha => .inl (k t ha)⟩
 ·obtain ⟨φ, v, e, F, k⟩ := rj0 (ops := ops) h
  exact ⟨φ, v, e, F, fun t ha => .inr ⟨hy, zZ0 ha.sl hw, k t ha⟩⟩
theorem cw1 {y1 y2 : Prop} {x y : Oper} {s s1 s2 : St} (hh : vN1 s) (hap : x.apart ops y = true) (hsep : ∀ z, z ∈ (zp0 x).toList → ∀ z', z' ∈ (zp0 y).toList → ∀ l, l ∈ (opv s z).refs → l ∉ (opv s z').refs)
  (h1 : wk0 P tab y1 ops x s s1) (h2 : wk0 P tab y2 ops y s1 s2) : ∃ s1', wk0 P tab y2 ops y s s1' ∧ wk0 P tab y1 ops x s1' s2 := by
 obtain ⟨a1, a2, a3⟩ := Oper.apart_spec hap
 have nx : ∀ k, k ∈ y.looksAt ops → x.dst ≠ some k := fun k hk e => a1 k e hk
 have ny : ∀ k, k ∈ x.looksAt ops → y.dst ≠ some k := fun k hk e => a3 k e hk
 have hne : ∀ t, x.dst = some t → y.dst ≠ some t := fun t e => a2 t e
 obtain ⟨φ, v, rfl, ⟨A, A1, A2, A3⟩, k1⟩ := jg0 h1
 obtain ⟨ψ, u, rfl, ⟨B, B1, B2, B3⟩, k2⟩ := jg0 h2
 have Oy : ∀ z, z ∈ (zp0 y).toList → opv (s.app φ x.dst v) z = opv s z := fun z hz => wG0 (fun k hk => wR0 _ _ _ _ _ (nx k (qO0 hk))) (zv1 hz)
 have B2' : ∀ k, B k → (s.lb k = none ∧ y.dst = some k) ∨ ∃ z, z ∈ (zp0 y).toList ∧ k ∈ (opv s z).refs := by
  intro k hk
  rcases B2 k hk with ⟨h, hd⟩ | ⟨z, hz, hl⟩
  ·rw [yy0] at h; exact .inl ⟨A3 _ _ h, hd⟩
  ·rw [Oy z hz] at hl; exact .inr ⟨z, hz, hl⟩
 have hdis : ∀ k, A k → ¬ B k := by
  intro k hA hB
  rcases A2 k hA with ⟨hn, hd⟩ | ⟨z, hz, hl⟩
  ·rcases B2' k hB with ⟨_, hd'⟩ | ⟨z', hz', hl'⟩
   ·exact hne k hd hd'
   ·exact wU0 hh z' k hl' hn
  ·rcases B2' k hB with ⟨hn', _⟩ | ⟨z', hz', hl'⟩
   ·exact wU0 hh z k hl hn'
   ·exact hsep z hz z' hz' k hl hl'
 have offA : ∀ (lb : Lk) k, ¬ A k → φ lb k = lb k := by
  intro lb k hk
  obtain ⟨f, f1, f2⟩ := A1
  rw [f1, f2 k hk]
 have offB : ∀ (lb : Lk) k, ¬ B k → ψ lb k = lb k := by
  intro lb k hk
  obtain ⟨f, f1, f2⟩ := B1
  rw [f1, f2 k hk]
 have G2 : AgreeE ops y (s.app φ x.dst v) s := by
  refine ⟨fun k hk => (wR0 _ _ _ _ _ (nx k hk)).symm, fun z hz l hl => ?_, fun d hd hn => ?_, (cz0 _ _ _ _).symm⟩
  ·rw [Oy z hz] at hl
   rw [yy0]
   refine (offA _ l (fun hA => ?_)).symm
   rcases A2 l hA with ⟨hn, _⟩ | ⟨z', hz', hl'⟩
   ·exact wU0 hh z l hl hn
   ·exact hsep z' hz' z hz l hl' hl
  ·rw [yy0] at hn; exact A3 _ _ hn
 have S2 := k2 s G2
 have G1 : AgreeE ops x s (s.app ψ y.dst u) := by
  refine ⟨fun k hk => wR0 _ _ _ _ _ (ny k hk), fun z hz l hl => ?_, fun d hd hn => ?_, cz0 _ _ _ _⟩
  ·rw [yy0]
   refine offB _ l (fun hB => ?_)
   rcases B2' l hB with ⟨hn, _⟩ | ⟨z', hz', hl'⟩
   ·exact wU0 hh z l hl hn
   ·exact hsep z hz z' hz' l hl hl'
  ·rw [yy0, offB _ d (fun hB => ?_)]
   ·exact hn
   ·rcases B2' d hB with ⟨_, hd'⟩ | ⟨z', hz', hl'⟩
    ·exact hne d hd hd'
    ·exact wU0 hh z' d hl' hn
 have S1 := k1 _ G1
 refine ⟨_, S2, ?_⟩
 rw [jW0 s φ ψ x.dst y.dst v u hne (je1 A1 B1 hdis s.lb)]
 exact S1
theorem gn0 {y : Prop} {o : Oper} {s s' : St} (h : wk0 P tab y ops o s s') : ∃ φ v, s' = s.app φ o.dst v ∧ ∀ t : St, (∀ k, k ∈ o.looksAt ops → t.sl k = s.sl k) → t.lb = s.lb → t.n = s.n → wk0 P tab y ops o t (t.app φ o.dst v) := by
 obtain ⟨φ, v, e, _, k⟩ := jg0 h
 exact ⟨φ, v, e, fun t hs hl hn => k t ⟨hs, fun x _ l _ => by rw [hl], fun d _ hq => by rw [hl]; exact hq, hn⟩⟩
theorem bL0 {y : Prop} {o : Oper} {s s' : St} (hf : zM0 o = true) (h : wk0 P tab y ops o s s') : fM0 P tab ops o s s' := by
 rcases h with h | ⟨_, _, ⟨c, f, fid, args, Bs, Bs', r, ls, hop, _⟩ | ⟨t, x, lo, hi, d, p, v, hop, _⟩⟩
 ·exact h
 ·simp [zM0, hop] at hf
 ·simp [zM0, hop] at hf
theorem cv1 {y1 y2 : Prop} {x y : Oper} {s s1 s2 : St} (hap : x.apart ops y = true) (hm : zM0 x = true ∨ zM0 y = true) (h1 : wk0 P tab y1 ops x s s1) (h2 : wk0 P tab y2 ops y s1 s2) :
  ∃ s1', wk0 P tab y2 ops y s s1' ∧ wk0 P tab y1 ops x s1' s2 := by
 obtain ⟨a1, a2, a3⟩ := Oper.apart_spec hap
 have nx : ∀ k, k ∈ y.looksAt ops → x.dst ≠ some k := fun k hk e => a1 k e hk
 have ny : ∀ k, k ∈ x.looksAt ops → y.dst ≠ some k := fun k hk e => a3 k e hk
 have hne : ∀ t, x.dst = some t → y.dst ≠ some t := fun t e => a2 t e
 rcases hm with fx | fy
 ·obtain ⟨v, rfl, k1⟩ := kt0 fx (bL0 fx h1)
  obtain ⟨ψ, u, rfl, k2⟩ := gn0 h2
  have e1 : s.set x.dst v = s.app (fun lb => lb) x.dst v := rfl
  refine ⟨s.app ψ y.dst u, k2 s (fun k hk => (by rw [e1, wR0 _ _ _ _ _ (nx k hk)])) (by simp) (by simp), .inl ?_⟩
  have := k1 (s.app ψ y.dst u) (fun k hk => wR0 _ _ _ _ _ (ny k hk)) (cz0 _ _ _ _)
  have e2 : (s.set x.dst v).app ψ y.dst u = (s.app ψ y.dst u).set x.dst v := jW0 s (fun lb => lb) ψ x.dst y.dst v u hne rfl
  rw [e2]; exact this
 ·obtain ⟨φ, v, rfl, k1⟩ := gn0 h1
  obtain ⟨u, rfl, k2⟩ := kt0 fy (bL0 fy h2)
  refine ⟨s.set y.dst u, .inl (k2 s (fun k hk => (by rw [wR0 _ _ _ _ _ (nx k hk)])) (by rw [cz0])), ?_⟩
  have e1 : s.set y.dst u = s.app (fun lb => lb) y.dst u := rfl
  have := k1 (s.set y.dst u) (fun k hk => by rw [e1, wR0 _ _ _ _ _ (ny k hk)]) (by simp) (by simp)
  have e2 : (s.app φ x.dst v).set y.dst u = (s.set y.dst u).app φ x.dst v := jW0 s φ (fun lb => lb) x.dst y.dst v u hne rfl
  rw [e2]; exact this
def fp0 (ops : Array Oper) (i j : Nat) : Bool := match ops.toList[i]?, ops.toList[j]? with
 | some x, some y => x.apart ops y && (zM0 x || zM0 y)
 | _, _ => false
def wx1 (ops : Array Oper) (prs : List Pr) (gs : List Nat) : Bool := gs.all fun g => (List.range ops.size).all fun j => j == g || (if j < g then ((yH0 [] ops.toList).getD g 0).testBit j || (fp0 ops j g || prs.any fun p => p.i == j && p.j == g) else ((yH0 [] ops.toList).getD j 0).testBit g || (fp0 ops g j || prs.any fun p => p.i == g && p.j == j))
theorem sF0 {prs : List Pr} {gs : List Nat} {i j : Nat} (h : wx1 ops prs gs = true) (hij : i < j) (hj : j < ops.size) (hg : i ∈ gs ∨ j ∈ gs) : ((yH0 [] ops.toList).getD j 0).testBit i = true ∨ fp0 ops i j = true ∨ ∃ r, r ∈ prs ∧ r.i = i ∧ r.j = j := by
 have any : (prs.any fun p => p.i == i && p.j == j) = true → ∃ r, r ∈ prs ∧ r.i = i ∧ r.j = j := fun h => by
  obtain ⟨p, hp, hq⟩ := List.any_eq_true.1 h
  simp only [Bool.and_eq_true, beq_iff_eq] at hq
  exact ⟨p, hp, hq.1, hq.2⟩
 rcases hg with hg | hg
 ·have := List.all_eq_true.1 (List.all_eq_true.1 h i hg) j (List.mem_range.2 hj)
  simp only [Bool.or_eq_true, beq_iff_eq] at this
  rcases this with h | h
  ·omega
  ·rw [if_neg (by omega)] at h
   simp only [Bool.or_eq_true] at h
   exact h.imp id (fun h => h.imp id any)
 ·have := List.all_eq_true.1 (List.all_eq_true.1 h j hg) i (List.mem_range.2 (by omega))
  simp only [Bool.or_eq_true, beq_iff_eq] at this
  rcases this with h | h
  ·omega
  ·rw [if_pos hij] at h
   simp only [Bool.or_eq_true] at h
   exact h.imp id (fun h => h.imp id any)
def rZ0 (P : Program) (tab : Tab) (x : Bool) (y : Prop) (ops : Array Oper) (o : Oper) (s s' : St) : Prop := lL0 P tab x ops o s s' ∨ (y ∧ cs0 ops o s true ∧ tc0 P tab o s s')
theorem kI0 (hT : zU0 P tab) {x : Bool} {y : Prop} {s s' : St} {a : Act} {w : World} (h : wT0 w0 M0 F0 s a w) {o : Oper} (hs : rZ0 P tab x y ops o s s') {K : Act → World → Prop} {Q : Exit → Act → World → Prop} (hK : ∀ a' w', wT0 w0 M0 F0 s' a' w' → K a' w') :
  if Region.wanted o (yielded ops a.tmps) then o.wp P a w K Q ∨ (o.asks P a w ∧ LetsOut Q) else K (a.put o.dst undef) w := by
 rcases hs with hs | ⟨_, hw, hm⟩
 ·exact yp0 hT h hs hK
 ·obtain ⟨F, g, h⟩ := h
  rw [ya0 h hw]
  rcases hm with hm | hm
  ·exact .inl (xw0 h hm.x hK)
  ·exact .inl (cw0 hT h hm hK)
theorem tP0 (hT : zU0 P tab) {x : Bool} {y : Prop} {s s' : St} (hl : ∃ a w, wT0 w0 M0 F0 s a w) {o : Oper} (hs : rZ0 P tab x y ops o s s') : ∃ a w, wT0 w0 M0 F0 s' a w := by
 obtain ⟨a, w, h⟩ := hl
 have := kI0 (Q := fun _ _ _ => False) hT h hs (K := fun a' w' => wT0 w0 M0 F0 s' a' w') (fun _ _ h => h)
 split at this
 ·rcases this with h | ⟨_, _, _, h⟩
  ·unfold Oper.wp at h
   generalize (execOp a.eval o).run P w = r at h
   cases r with
   | ok n w' =>
    cases n <;> simp only [Oper.upon] at h
    case value v => exact ⟨_, _, h⟩
    case skip => exact ⟨_, _, h⟩
    case defer d => exact ⟨_, _, h⟩
    case enter f args =>
     obtain ⟨e, w'', fr, hR, _⟩ := h []
     cases e with
     | returned v => exact ⟨_, _, hR⟩
     | panicked c => exact hR.elim
     | outgrown => obtain ⟨_, _, hq⟩ := hR; exact hq.elim
    case row row args =>
     obtain ⟨v, w'', hR, _⟩ := h default []
     exact ⟨_, _, hR⟩
   | halt x w' => cases x <;> simp only [Oper.upon] at h
  ·exact h.elim
 ·exact ⟨_, _, this⟩
theorem vg0 {y : Prop} {o : Oper} {s s' : St} (h : wk0 P tab y ops o s s') {k : Tmp} (hk : o.dst ≠ some k) : s'.sl k = s.sl k := by
 obtain ⟨φ, v, rfl, _, _⟩ := jg0 h
 exact wR0 _ _ _ _ _ hk
def qm0 (P : Program) (tab : Tab) (fx : Nat → Bool) (gs : List Nat) (ops : Array Oper) (prs : List Pr) : List Nat → St → St → Prop
 | [], s, s' => s' = s
 | i :: is, s, s' => ∃ o s1, ops[i]? = some o ∧ wg1 prs i s ∧ rZ0 P tab (fx i) (i ∈ gs) ops o s s1 ∧ qm0 P tab fx gs ops prs is s1 s'
theorem wa0 {fx : Nat → Bool} {gs : List Nat} {prs : List Pr} : ∀ (l m : List Nat) (s s' : St), qm0 P tab fx gs ops prs (l ++ m) s s' ↔ ∃ s1, qm0 P tab fx gs ops prs l s s1 ∧ qm0 P tab fx gs ops prs m s1 s'
 | [], m, s, s' => by simp [qm0]
 | i :: l, m, s, s' => by
  simp only [List.cons_append, qm0]
  constructor
  ·rintro ⟨o, s1, ho, hsep, h1, h2⟩
   obtain ⟨s2, k1, k2⟩ := (wa0 l m s1 s').1 h2
   exact ⟨s2, ⟨o, s1, ho, hsep, h1, k1⟩, k2⟩
  ·rintro ⟨s2, ⟨o, s1, ho, hsep, h1, k1⟩, k2⟩
   exact ⟨o, s1, ho, hsep, h1, (wa0 l m s1 s').2 ⟨s2, k1, k2⟩⟩
theorem kJ0 {fx : Nat → Bool} {gs : List Nat} {prs : List Pr} {k : Tmp} : ∀ (pre : List Nat) (s sm : St), (∀ p, p ∈ pre → fx p = false) → (∀ p q, p ∈ pre → ops[p]? = some q → q.dst ≠ some k) → qm0 P tab fx gs ops prs pre s sm → sm.sl k = s.sl k
 | [], s, sm, _, _, h => by simp only [qm0] at h; rw [h]
 | p :: pre, s, sm, hx, hd, h => by
  obtain ⟨q, sp, hq, _, hp, h1⟩ := h
  have hkp : sp.sl k = s.sl k := by
   rcases hp with (hp | h) | hp
   ·exact wE1 hp (hd p q (by simp) hq)
   ·rw [hx p (by simp)] at h; cases h.1
   ·exact vg0 (y := True) (ops := ops) (tab := tab) (.inr ⟨trivial, hp.2⟩) (hd p q (by simp) hq)
  rw [kJ0 pre sp sm (fun p' hp' => hx p' (by simp [hp'])) (fun p' q' hp' => hd p' q' (by simp [hp'])) h1, hkp]
theorem tz0 (hT : zU0 P tab) {prs : List Pr} (hok : yU0 ops prs = true) {fx : Nat → Bool} {gs : List Nat} {o : Oper} {j : Nat} (ho : ops[j]? = some o) : ∀ (pre : List Nat) (s sm sn : St), (∃ a w, wT0 w0 M0 F0 s a w) → pre.Pairwise (· < ·) → (∀ p, p ∈ pre → p < j) →
  (∀ p q, p ∈ pre → ops[p]? = some q → kV0 ops q o = true ∨ ∃ r, r ∈ prs ∧ r.i = p ∧ r.j = j) → (∀ p, p ∈ pre → fx p = false) → (∀ p q, p ∈ pre → (p ∈ gs ∨ j ∈ gs) → ops[p]? = some q → fp0 ops p j = true ∨ ∃ r, r ∈ prs ∧ r.i = p ∧ r.j = j) →
  qm0 P tab fx gs ops prs pre s sm → wg1 prs j sm → wk0 P tab (j ∈ gs) ops o sm sn → ∃ s1, wk0 P tab (j ∈ gs) ops o s s1 ∧ qm0 P tab fx gs ops prs pre s1 sn
 | [], s, sm, sn, _, _, _, _, _, _, h1, _, h2 => by simp only [qm0] at h1; subst h1; exact ⟨sn, h2, rfl⟩
 | p :: pre, s, sm, sn, hl, hpw, hlt, hc, hx, hgp, h1, hsep, h2 => by
  have hall := h1
  obtain ⟨q, sp, hq, hsepp, hp, h1⟩ := h1
  have hpw' := List.pairwise_cons.1 hpw
  have hap : ∀ p' q', p' ∈ p :: pre → ops[p']? = some q' → q'.apart ops o = true := by
   intro p' q' hp' hq'
   rcases hc p' q' hp' hq' with h | ⟨r, hr, e1, e2⟩
   ·simp only [kV0, Bool.and_eq_true] at h; exact h.1.1
   ·exact (pe0 hok hr (by rw [e1]; exact hq') (by rw [e2]; exact ho)).2.1
  obtain ⟨s1', k1, k2⟩ := tz0 hT hok ho pre sp sm sn (tP0 hT hl hp) hpw'.2 (fun p' hp' => hlt p' (by simp [hp'])) (fun p' q' hp' => hc p' q' (by simp [hp'])) (fun p' hp' => hx p' (by simp [hp'])) (fun p' q' hp' => hgp p' q' (by simp [hp'])) h1 hsep h2
  have hpU : wk0 P tab (p ∈ gs) ops q s sp := by
   rcases hp with (hp | h) | hp
   ·exact .inl hp
   ·rw [hx p (by simp)] at h; cases h.1
   ·exact .inr hp
  have byPair : (∃ r, r ∈ prs ∧ r.i = p ∧ r.j = j) → ∃ s1, wk0 P tab (j ∈ gs) ops o s s1 ∧ wk0 P tab (p ∈ gs) ops q s1 s1' := by
   rintro ⟨r, hr, e1, e2⟩
   obtain ⟨_, g2, g3, g4, g5, g6⟩ := pe0 hok hr (by rw [e1]; exact hq) (by rw [e2]; exact ho)
   refine cw1 (jy0 hl) g2 (fun z hz z' hz' l hl1 hl2 => ?_) hpU k1
   obtain ⟨t, ht, hlt1⟩ := nu0 hz hl1
   obtain ⟨t', ht', hlt2⟩ := nu0 hz' hl2
   have ka : ∀ k, k ∈ r.a → s.sl k = sm.sl k := fun k hk => (kJ0 (p :: pre) s sm hx (fun p' q' hp' hq' => by
    have hle : r.i ≤ p' := by
     rw [e1]
     rcases List.mem_cons.1 hp' with h | h
     ·omega
     ·have := hpw'.1 p' h; omega
    exact jT0 g3 hle hq' k (kh0 (by rw [g5]; exact hk))) hall).symm
   have kb : ∀ k, k ∈ r.b → s.sl k = sm.sl k := fun k hk => (kJ0 (p :: pre) s sm hx (fun p' q' hp' hq' e => by
    exact (Oper.apart_spec (hap p' q' hp' hq')).1 k e (kh0 (by rw [g6]; exact hk))) hall).symm
   refine hsep r hr e2 l ?_ ?_
   ·rw [← yC0 ka]
    exact List.mem_flatMap.2 ⟨t, by rw [← g5]; exact ht, hlt1⟩
   ·rw [← yC0 kb]
    exact List.mem_flatMap.2 ⟨t', by rw [← g6]; exact ht', hlt2⟩
  have byFree : (fp0 ops p j = true ∨ ∃ r, r ∈ prs ∧ r.i = p ∧ r.j = j) → ∃ s1, wk0 P tab (j ∈ gs) ops o s s1 ∧ wk0 P tab (p ∈ gs) ops q s1 s1' := by
   rintro (hf | hr)
   ·unfold fp0 at hf
    have hq' : ops.toList[p]? = some q := by simpa using hq
    have ho' : ops.toList[j]? = some o := by simpa using ho
    rw [hq', ho'] at hf
    simp only [Bool.and_eq_true, Bool.or_eq_true] at hf
    exact cv1 hf.1 hf.2 hpU k1
   ·exact byPair hr
  have hsw : ∃ s1, wk0 P tab (j ∈ gs) ops o s s1 ∧ wk0 P tab (p ∈ gs) ops q s1 s1' := by
   rcases hpU with hpS | hpW
   ·rcases k1 with k1S | k1W
    ·rcases hc p q (by simp) hq with h | h
     ·obtain ⟨s1, j1, j2⟩ := dl1 (jy0 hl) h hpS k1S
      exact ⟨s1, .inl j1, .inl j2⟩
     ·exact byPair h
    ·exact byFree (hgp p q (by simp) (.inr k1W.1) hq)
   ·exact byFree (hgp p q (by simp) (.inl hpW.1) hq)
  obtain ⟨s1, k3, k4⟩ := hsw
  have k4 : rZ0 P tab (fx p) (p ∈ gs) ops q s1 s1' := k4.imp (fun h => .inl h) id
  refine ⟨s1, k3, q, s1', hq, fun r hr e l hl1 => ?_, k4, k2⟩
  have hpj := hlt p (by simp)
  have hri : ∃ x, ops[r.i]? = some x := by
   simp only [yU0, Bool.and_eq_true] at hok
   have h1 := List.all_eq_true.1 hok.1 r hr
   simp only [bA1, Bool.and_eq_true] at h1
   cases hxx : ops.toList[r.i]? with
   | none => rw [hxx] at h1; simp at h1
   | some x => exact ⟨x, by simpa using hxx⟩
  obtain ⟨x, hxx⟩ := hri
  obtain ⟨g1, _, g3, g4, g5, g6⟩ := pe0 hok hr hxx (by rw [e]; exact hq)
  have ka : ∀ k, k ∈ r.a → s1.sl k = s.sl k := fun k hk => vg0 k3 (jT0 g3 (by omega) ho k (kh0 (by rw [g5]; exact hk)))
  have kb : ∀ k, k ∈ r.b → s1.sl k = s.sl k := fun k hk => vg0 k3 (jT0 g4 (by omega) ho k (kh0 (by rw [g6]; exact hk)))
  rw [yC0 ka] at hl1
  rw [yC0 kb]
  exact hsepp r hr e l hl1
theorem rm0 (hT : zU0 P tab) {prs : List Pr} (hok : yU0 ops prs = true) {gs : List Nat} (hg : wx1 ops prs gs = true) {Q : Exit → Act → World → Prop} {s' : St} (hQ : ∀ a' w', wT0 w0 M0 F0 s' a' w' → Q .normal a' w') :
  ∀ (fuel : Nat) (rem : List Nat) (listed : Array Bool) (s : St) (a : Act) (w : World), rem.length = fuel → rem.Pairwise (· < ·) → listed.size = ops.size →
   (∀ i, i ∈ rem ↔ i < ops.size ∧ listed.getD i false = false) →
   (∀ j o, ops[j]? = some o → listed.getD j false = true → ∀ e, e ∈ o.after → Region.binds .any e = true → listed.getD e.on false = true) →
   qm0 P tab (qa0 ops) gs ops prs rem s s' → wT0 w0 M0 F0 s a w → wpAny P .any ops Q fuel listed a w := by
 intro fuel
 have gd : ∀ (listed : Array Bool) (i : Nat) (b c : Bool), i < listed.size → listed.getD i b = listed.getD i c := by
  intro listed i b c hi; simp [hi]
 have noready : ∀ (rem : List Nat) (listed : Array Bool), rem.Pairwise (· < ·) → listed.size = ops.size → (∀ i, i ∈ rem ↔ i < ops.size ∧ listed.getD i false = false) → Region.ready .any ops listed = [] → rem = [] := by
  intro rem listed hpw hsz hrem hr
  cases rem with
  | nil => rfl
  | cons i rest =>
   exfalso
   obtain ⟨hi, hli⟩ := (hrem i).1 (by simp)
   have hoi : ops[i]? = some ops[i] := Array.getElem?_eq_getElem hi
   have : i ∈ Region.ready .any ops listed := by
    rw [mem_ready]
    refine ⟨by rw [gd listed i true false (by omega)]; exact hli, ops[i], hoi, fun e he hb => ?_⟩
    have hlt := vv0 hok hoi he hb
    cases hle : listed.getD e.on false with
    | true => rfl
    | false =>
     have hin := (hrem e.on).2 ⟨by omega, hle⟩
     rcases List.mem_cons.1 hin with h | h
     ·omega
     ·have := (List.pairwise_cons.1 hpw).1 e.on h; omega
   rw [hr] at this; cases this
 induction fuel with
 | zero =>
  intro rem listed s a w hlen hpw hsz hrem hdown hs h
  obtain rfl := List.eq_nil_of_length_eq_zero hlen
  simp only [qm0] at hs
  subst hs
  refine ⟨?_, hQ _ _ h⟩
  apply List.eq_nil_iff_forall_not_mem.2
  intro i hi
  obtain ⟨hli, o, ho, _⟩ := mem_ready.1 hi
  have hlt := (Array.getElem?_eq_some_iff.1 ho).1
  have := (hrem i).2 ⟨hlt, by rw [gd listed i false true (by omega)]; exact hli⟩
  cases this
 | succ fuel ih =>
  intro rem listed s a w hlen hpw hsz hrem hdown hs h
  refine ⟨fun hr => ?_, fun i hi => ?_⟩
  ·have := noready rem listed hpw hsz hrem hr
   subst this
   simp at hlen
  ·obtain ⟨hli, o, ho, hall⟩ := mem_ready.1 hi
   have hlt := (Array.getElem?_eq_some_iff.1 ho).1
   have hin : i ∈ rem := (hrem i).2 ⟨hlt, by rw [gd listed i false true (by omega)]; exact hli⟩
   obtain ⟨pre, post, rfl⟩ := List.append_of_mem hin
   obtain ⟨sm, k1, k2⟩ := (wa0 pre (i :: post) s s').1 hs
   obtain ⟨o', sn, ho', ksep, k3, k4⟩ := k2
   rw [ho] at ho'
   obtain rfl := Option.some.inj ho'
   have hpre : ∀ p, p ∈ pre → p < i := fun p hp => by
    have := (List.pairwise_append.1 hpw).2.2 p hp i (by simp); exact this
   have hnb : ∀ p, p ∈ pre → ((yH0 [] ops.toList).getD i 0).testBit p = true → False := fun p hp hb => by
    have := fR0 hok hdown p i o ho hall hb
    have hp2 := ((hrem p).1 (by simp [hp])).2
    rw [this] at hp2; cases hp2
   have hbub : ∃ s1, rZ0 P tab (qa0 ops i) (i ∈ gs) ops o s s1 ∧ qm0 P tab (qa0 ops) gs ops prs pre s1 sn := by
    cases pre with
    | nil =>
     simp only [qm0] at k1
     subst k1
     exact ⟨sn, k3, rfl⟩
    | cons p0 pre0 =>
     have hfi : qa0 ops i = false := by
      cases hf : qa0 ops i with
      | false => rfl
      | true => exact (hnb p0 (by simp) ((jb0 hf (by have := ((hrem p0).1 (by simp)).1; exact this)).1 (hpre p0 (by simp)))).elim
     have hfp : ∀ p, p ∈ p0 :: pre0 → qa0 ops p = false := fun p hp => by
      cases hf : qa0 ops p with
      | false => rfl
      | true => exact (hnb p hp ((jb0 hf hlt).2 (hpre p hp))).elim
     obtain ⟨s1, b1, b2⟩ := tz0 hT hok ho (p0 :: pre0) s sm sn ⟨a, w, h⟩ (List.pairwise_append.1 hpw).1 hpre (fun p q hp hq => by
      rcases mg0 hok (hpre p hp) hq ho with hb | hc
      ·exact (hnb p hp hb).elim
      ·exact hc) hfp (fun p q hp hpg hq => by
       rcases sF0 hg (hpre p hp) hlt hpg with hb | hc
       ·exact (hnb p hp hb).elim
       ·exact hc) k1 ksep (k3.elim (fun h => .inl (h.resolve_right (fun h => by rw [hfi] at h; cases h.1))) .inr)
     exact ⟨s1, b1.imp (fun h => .inl h) id, b2⟩
   obtain ⟨s1, b1, b2⟩ := hbub
   have hs1 : qm0 P tab (qa0 ops) gs ops prs (pre ++ post) s1 s' := (wa0 pre post s1 s').2 ⟨sn, b2, k4⟩
   have hset : ∀ k, (listed.setIfInBounds i true).getD k false = if k = i then true else listed.getD k false := by
    intro k
    simp only [Array.getD_eq_getD_getElem?, Array.getElem?_setIfInBounds]
    by_cases e : i = k
    ·subst e; simp [hsz, hlt]
    ·simp [e, Ne.symm e]
   unfold wpOp
   simp only [ho]
   refine kI0 hT h b1 (fun a' w' h' => ih (pre ++ post) (listed.setIfInBounds i true) s1 a' w' (by simp at hlen ⊢; omega) ?_ (by simpa using hsz) (fun k => ?_) (fun j oj hoj hlj e he hb => ?_) hs1 h')
   ·rw [List.pairwise_append] at hpw ⊢
    exact ⟨hpw.1, (List.pairwise_cons.1 hpw.2.1).2, fun x hx y hy => hpw.2.2 x hx y (by simp [hy])⟩
   ·rw [hset]
    have hk := hrem k
    simp only [List.mem_append, List.mem_cons] at hk ⊢
    have hnd : ∀ k, k ∈ pre ∨ k ∈ post → k ≠ i := by
     rintro k (hk | hk) e
     ·have := hpre k hk; omega
     ·have := (List.pairwise_cons.1 (List.pairwise_append.1 hpw).2.1).1 k hk; omega
    constructor
    ·intro hk'
     have hne := hnd k hk'
     rw [if_neg hne]
     exact hk.1 (hk'.imp id .inr)
    ·rintro ⟨h1, h2⟩
     by_cases e : k = i
     ·rw [if_pos e] at h2; cases h2
     ·rw [if_neg e] at h2
      rcases hk.2 ⟨h1, h2⟩ with hq | hq | hq
      ·exact .inl hq
      ·exact absurd hq e
      ·exact .inr hq
   ·rw [hset] at hlj ⊢
    split
    ·rfl
    ·by_cases e' : j = i
     ·subst e'
      rw [ho] at hoj
      obtain rfl := Option.some.inj hoj
      exact hall e he hb
     ·rw [if_neg e'] at hlj
      exact hdown j oj hoj hlj e he hb
end Go.Ai
namespace Go.Ai
open Go.RowKit
section
variable {n : Nat} {L : List (Nat × AV)} {B : List (Nat × LB)} {G : List AV}
end
end Go.Ai
namespace Go.Ai
open Go.RowKit
theorem bH0 {α : Type} (ρ : Nat → Nat) (ec : α → List C) (xs : List α) : ((rowsOf ec xs).map fun r => r.map (AC.ren ρ)) = rowsOf ec xs := by
 unfold rowsOf
 rw [List.map_map]
 exact List.map_congr_left (fun x _ => ct0 ρ (ec x))
theorem gW0 {α : Type} (ec : α → List C) (xs : List α) : noD (rowsOf ec xs) = true := by
 unfold noD rowsOf
 refine List.all_eq_true.2 fun r hr => List.all_eq_true.2 fun a ha => ?_
 obtain ⟨x, _, rfl⟩ := List.mem_map.1 hr
 obtain ⟨c, _, rfl⟩ := List.mem_map.1 ha
 rfl
theorem tI0 {α : Type} (m : Nat) (e : TypeId) (sz : Nat) (ec : α → List C) (xs : List α) : okX m (.arr e sz (rowsOf ec xs) false) = true := by
 simp only [okX, gW0, Bool.not_false, Bool.true_and]
 refine List.all_eq_true.2 fun r hr => ?_
 obtain ⟨x, _, rfl⟩ := List.mem_map.1 hr
 exact nH0 m _
theorem gV0 {α : Type} (ρ : Nat → Nat) (e : TypeId) (sz : Nat) (ec : α → List C) (xs : List α) (fz : Bool) : LB.ren ρ (.arr e sz (rowsOf ec xs) fz) = .arr e sz (rowsOf ec xs) fz := by
 simp only [LB.ren, bH0]
attribute [go_sem ↓] tI0 gV0 bH0 gW0
attribute [go_sem] List.any_cons List.any_nil List.all_cons List.all_nil Bool.or_false Bool.false_or Bool.true_or Bool.or_true Bool.and_true Bool.true_and List.length_cons List.length_nil decide_true
theorem pD1 (x : C) : isV (.c x) = true := rfl
theorem tn0 (x : List AC) (xs : List (List AC)) : (∀ r, r ∈ x :: xs → ∀ a, a ∈ r → isV a = true) = ((∀ a, a ∈ x → isV a = true) ∧ ∀ r, r ∈ xs → ∀ a, a ∈ r → isV a = true) := by simp
theorem to0 (x : AC) (xs : List AC) : (∀ a, a ∈ x :: xs → isV a = true) = (isV x = true ∧ ∀ a, a ∈ xs → isV a = true) := by simp
attribute [go_sem] tn0 to0 pD1 fu0
variable {P : Program} {tab : Tab} {w0 : World} {M0 : Ms} {F0 F : Fz} {g : Gh} {s s' : St} {a : Act} {w : World}
def xY1 : AC → Bool
 | .c _ => true
 | _ => false
def jd1 (rows : List (List AC)) : Prop := ∀ r, r ∈ rows → ∀ a, a ∈ r → xY1 a = true
theorem jH1 {lb : Lk} : ∀ {as : List AC} {us : List Value} {S : List Nat}, (∀ a, a ∈ as → xY1 a = true) → RepCells w F lb g as us S → S = []
 | [], us, S, _, h => by simp only [RepCells] at h; exact h.2
 | a :: as, us, S, hc, h => by
  simp only [RepCells] at h
  obtain ⟨u, us', S1, S2, h1, h2, h3, h4⟩ := h
  have ha := hc a (by simp)
  cases a <;> first | (cases ha; done) | skip
  rw [h2, h3.2, jH1 (fun x hx => hc x (by simp [hx])) h4]; rfl
theorem zD1 {lb lb' : Lk} {g' : Gh} : ∀ {as : List AC} {us : List Value} {S : List Nat} (m : Nat), (∀ a, a ∈ as → xY1 a = true) → RepCells w F lb g as us S → RepCells w F lb' g' (as.take m) (us.take m) []
 | [], us, S, m, _, h => by simp only [RepCells] at h; simp [h.1, RepCells]
 | a :: as, us, S, 0, _, h => by simp [RepCells]
 | a :: as, us, S, m + 1, hc, h => by
  simp only [RepCells] at h
  obtain ⟨u, us', S1, S2, rfl, h2, h3, h4⟩ := h
  have ha := hc a (by simp)
  cases a <;> first | (cases ha; done) | skip
  simp only [List.take_succ_cons, RepCells]
  refine ⟨u, us'.take m, [], [], rfl, rfl, ⟨?_, rfl⟩, zD1 m (fun x hx => hc x (by simp [hx])) h4⟩
  have h3 := h3.1
  simp only [RepAC] at h3 ⊢
  exact h3
theorem da0 {sz : Nat} : ∀ (rows : List (List AC)) (k : Nat), (∀ r, r ∈ rows → r.length = sz) → (rows.take k).flatten = rows.flatten.take (k * sz)
 | [], k, _ => by simp
 | r :: rows, 0, _ => by simp
 | r :: rows, k + 1, h => by
  have hr := h r (by simp)
  rw [List.take_succ_cons, List.flatten_cons, List.flatten_cons, da0 rows k (fun q hq => h q (by simp [hq])), List.take_append]
  rw [List.take_of_length_le (l := r) (by rw [hr, Nat.succ_mul]; omega), hr, show (k + 1) * sz - sz = k * sz by rw [Nat.succ_mul]; omega]
def vL1 (tab : Tab) (o : Oper) (s s' : St) : Prop := ∃ t x h l k e sz rows d e2 b2 n2 z2 ti, o.op = .slice t x none (some h) none ∧ opv s x = .one (.own l rows.length) ∧ opv s h = .one (.c (.v (.int .i64 (k : Nat)))) ∧ s.lb l = some (.arr e sz rows false) ∧ k < rows.length ∧
 tab t = some ⟨.slice e2, b2, n2, z2⟩ ∧ tab e2 = some ti ∧ jd1 rows ∧ o.dst = some d ∧ d < s.n ∧ s.lb d = none ∧ s' = ((s.put l .dead).put d (.arr e sz (rows.take k) false)).set (some d) (.one (.own d k))
theorem lW0 (hT : zU0 P tab) (h : Sim w0 M0 F0 F g s a w) {o : Oper} (hs : vL1 tab o s s') {K : Act → World → Prop} {Q : Exit → Act → World → Prop} (hK : ∀ a' w', wT0 w0 M0 F0 s' a' w' → K a' w') : o.wp P a w K Q := by
 obtain ⟨t, x, hh, l, k, e, sz, rows, d, e2, b2, n2, z2, ti, hop, hx, hk, hl, hkr, ht, hte, hcc, hd, hdn, hfr, rfl⟩ := hs
 obtain ⟨info, z, ds, ok⟩ := hT _ _ ht
 have hdd := ok.desc
 cases ds <;> simp only [zX0, beq_iff_eq, Bool.false_eq_true] at hdd
 subst hdd
 obtain ⟨info2, zz2, d2, ok2⟩ := hT _ _ hte
 have hne : l ≠ d := fun e => by rw [e, hfr] at hl; cases hl
 have ccf : ∀ q, q ∈ rows.flatten → xY1 q = true := fun q hq => by
  obtain ⟨r, hr, hq⟩ := List.mem_flatten.1 hq
  exact hcc r hr q hq
 obtain ⟨h1, h2, xs, S, h3, h4, h5⟩ := h.lb l _ hl
 have hS := jH1 ccf h4
 subst hS
 rw [List.append_nil] at h5
 obtain ⟨h3a, h3b⟩ := h3
 rcases h3b with ⟨_, hz⟩ | ⟨b, cap, cur, hv, _, hheap, hnc, hcm, hcs, htk⟩
 ·omega
 have hun : ∀ q, q ∈ g.ds l → ∀ o, ¬ F q o := by
  refine (h.so l _ hl).2 rfl ?_
  unfold noD
  refine List.all_eq_true.2 fun r hr => List.all_eq_true.2 fun q hq => ?_
  have := hcc r hr q hq
  cases q <;> first | (cases this; done) | rfl
 have hbl : zV0 (g.hd l) = [b] := by rw [hv]; rfl
 obtain ⟨vT, hvT⟩ : ∃ v : Value, v = .slice (some ⟨b, 0, none⟩) k cap := ⟨_, rfl⟩
 have K1 : Keeps s.lb g ((s.put l .dead).put d (.arr e sz (rows.take k) false)).lb ((g.upd l (g.bl l) (g.hd l) []).upd d (g.bl d) vT (g.ds l)) := by
  constructor
  intro j Bk hB
  by_cases e1 : j = d
  ·subst e1; rw [hfr] at hB; cases hB
  ·by_cases e2 : j = l
   ·subst e2
    refine ⟨.dead, by simp only [St.put_lb, if_neg e1, if_true], ?_⟩
    exact ⟨fun _ _ _ => trivial, fun _ _ _ => trivial, fun _ _ _ _ _ => trivial, fun _ _ _ => trivial⟩
   ·refine ⟨Bk, by simp [St.put_lb, e1, e2, hB], ?_⟩
    simp only [Gh.upd, if_neg e1, if_neg e2]
    exact ⟨fun _ _ h => h, fun _ _ h => h, fun _ _ _ _ h => h, fun _ _ h => h⟩
 have hlen : (rows.take k).length = k := by rw [List.length_take]; omega
 have hmul : k * sz ≤ rows.length * sz := Nat.mul_le_mul_right sz (by omega)
 have hsim := h.two hne (vT := vT) (Sl := []) (ST := g.ds l) (B' := .dead) (T' := .arr e sz (rows.take k) false) hl (fun b => b ∈ g.ds l) (fun b hb => .inl hb) (fun b hb => by cases hb) (fun b hb => hb) (by simp) (h.nd l _ hl) (fun b hb => by cases hb) (Stays.refl _ _) (fun b o hb => .inl hb) K1 trivial
  (by
   refine ⟨h1, fun r hr => h2 r (List.mem_of_mem_take hr), xs.take (k * sz), [], ?_, ?_, ?_⟩
   ·refine ⟨by rw [List.length_take, h3a, hlen]; omega, .inr ⟨b, cap, cur, by rw [hlen]; simp [Gh.upd, hvT], Nat.zero_le _, hheap, by rw [hlen]; omega, hcm, hcs, ?_⟩⟩
    rw [hlen, ← htk, List.take_take, Nat.min_eq_left hmul]
   ·rw [da0 rows k h2]
    exact zD1 (k * sz) ccf h4
   ·simp [Gh.upd, hvT, zV0, Value.ownBlock, h5, hv]) trivial
  (by
   simp only [SoftOk, Gh.upd, if_true, hvT]
   refine ⟨fun q hq o _ => hun q (by rw [h5, hbl]; simpa [zV0, Value.ownBlock] using hq) o, fun _ _ q hq o => hun q hq o⟩)
 have Ex := zm0 h x
 rw [hx] at Ex
 simp only [RepAV, RepAC] at Ex
 obtain ⟨_, B, hB, hq⟩ := Ex
 rw [hl] at hB
 obtain rfl := Option.some.inj hB
 have hq : a.eval x = g.hd l := hq.2 rfl
 have Eh := zm0 h hh
 rw [hk] at Eh
 have Eh := Eh.c_v
 have hrun := ym0 (P := P) (w := w) ok.und ok2 (some ⟨b, 0, none⟩) rows.length cap none (some (k : Int)) 0 k hnc rfl ⟨by omega, by omega, by simp⟩
 have hval : (Value.slice (if cap = 0 then some ⟨b, 0, none⟩ else (some ⟨b, 0, none⟩ : Option Addr).map (·.add (0 * ti.size))) (k - 0) (cap - 0)) = vT := by
  rw [if_neg (by omega), hvT]
  simp [Addr.add]
 rw [hval] at hrun
 unfold Oper.wp
 have hrun2 : (execOp a.eval o).run P w = .ok (.value vT) w := by
  unfold execOp
  rw [hv] at hq
  simp only [Option.map_none, Option.map_some] at hrun
  simp [hop, hq, Eh, hrun]
 rw [hrun2]
 have hset := hsim.set (d := d) (v := .one (.own d k)) (u := vT) (by simpa using hdn) (by
  simp only [RepAV, RepAC]
  refine ⟨by rw [hvT]; rfl, .arr e sz (rows.take k) false, by simp only [St.put_lb, if_true], ?_⟩
  simp only [zK0, Gh.upd, if_true, hlen]
  exact ⟨Nat.le_refl _, fun _ => trivial⟩)
 show K (a.put o.dst vT) w
 rw [hd]
 exact hK _ _ ⟨F, _, hset⟩
end Go.Ai
namespace Go.Ai
open Go.RowKit
variable {P : Program} {tab : Tab}
def inN (j : Nat) : List Nat → Bool
 | [] => false
 | g :: gs => if j = g then true else inN j gs
theorem bs0 {j : Nat} : ∀ {gs : List Nat}, inN j gs = true → j ∈ gs
 | g :: gs, h => by
  simp only [inN] at h
  split at h
  ·rename_i e; simp [e]
  ·exact List.mem_cons_of_mem _ (bs0 h)
def jA1 : List Nat → List Nat → Bool
 | [], _ => true
 | l :: ls, xs => inN l xs && jA1 ls xs
theorem cy0 : ∀ {ls xs : List Nat}, jA1 ls xs = true → ∀ l, l ∈ ls → l ∈ xs
 | l :: ls, xs, h, k, hk => by
  simp only [jA1, Bool.and_eq_true] at h
  rcases List.mem_cons.1 hk with rfl | hk
  ·exact bs0 h.1
  ·exact cy0 h.2 k hk
def uvC (P : Program) (fid : FuncId) (vs : List AV) (d : Option Tmp) (s : St) (k : St → Prop) : Prop :=
 ∃ args Bs Bs' r ls, fL0 P fid args Bs Bs' r ∧ wa1 vs args Bs Bs' ls [] s ∧ jA1 ls (vs.flatMap AV.refs) = true ∧ k (nU0 vs args Bs' r ls [] s d)
def uvF (P : Program) (fid : Option FuncId) (vs : List AV) (d : Option Tmp) (s : St) (k : St → Prop) : Prop :=
 match fid with
 | none => False
 | some fid => dOk d s ∧ uvC P fid vs d s k
def sliV (tab : Tab) (t : TypeId) (x : AV) (lo hi : Option AV) (d : Option Tmp) (s : St) (k : St → Prop) : Prop :=
 kS1 s.lb x ∧ dOk d s ∧ match xC0 tab (tab t) (vAV s.lb x) lo hi with
  | some (p, v) => p ∧ (p → k ((s.frzs x.owns).set d v))
  | none => False
def uvO (P : Program) (tab : Tab) (o : Oper) (s : St) (k : St → Prop) : Prop :=
 match o.op, o.guard with
 | .call ⟨.value f, args, _⟩, none => uvF P (xq0 (opv s f)) (args.toList.map (opv s)) o.dst s k
 | .slice t x lo hi none, none => Ai.sliV tab t (opv s x) (lo.map (opv s)) (hi.map (opv s)) o.dst s k
 | _, _ => False
theorem rW0 {ops : Array Oper} {o : Oper} {s : St} {k : St → Prop} (h : uvO P tab o s k) : ∃ s', cs0 ops o s true ∧ tc0 P tab o s s' ∧ k s' := by
 unfold uvO at h
 split at h
 ·rename_i f args ts hop hgd
  unfold uvF at h
  split at h
  ·exact h.elim
  ·rename_i fid hf
   obtain ⟨h2, args', Bs, Bs', r, ls, k1, ⟨c1, c2, c3, _, c5⟩, k2, k3⟩ := h
   refine ⟨_, ?_, .inl ⟨⟨.value f, args, ts⟩, f, fid, args', Bs, Bs', r, ls, hop, rfl, hf, wq0 h2, k1, c1, c2, be0 c3, c5, fun l hl => ?_, rfl⟩, k3⟩
   ·unfold cs0; rw [hgd]
   ·exact List.mem_flatMap.1 (cy0 k2 l hl)
 ·rename_i t x lo hi hop hgd
  obtain ⟨h1, h2, h3⟩ := h
  split at h3
  ·rename_i p v hs
   refine ⟨_, ?_, .inr ⟨t, x, lo, hi, _, p, v, hop, wq0 h2, fF0 h1, hs, h3.1, rfl⟩, h3.2 h3.1⟩
   unfold cs0; rw [hgd]
  ·exact h3.elim
 ·exact h.elim
def vI1 (P : Program) (tab : Tab) (x : Nat → Bool) (gs : List Nat) (ops : Array Oper) (prs : List Pr) : Nat → List Oper → St → (St → Prop) → Prop
 | _, [], s, k => k s
 | j, o :: os, s, k => jY1 s j prs ∧ (if inN j gs = true then uvO P tab o s (fun s' => vI1 P tab x gs ops prs (j + 1) os s' k) else ta0 P tab (x j) ops [o] s (fun s' => vI1 P tab x gs ops prs (j + 1) os s' k))
theorem bE0 {gs : List Nat} {ops : Array Oper} {prs : List Pr} : ∀ (l : List Oper) (n : Nat) {s : St} {k : St → Prop}, (∀ j, l[j]? = ops[n + j]?) → vI1 P tab (qa0 ops) gs ops prs n l s k → ∃ s', qm0 P tab (qa0 ops) gs ops prs (List.range' n l.length) s s' ∧ k s'
 | [], n, s, _, _, h => ⟨s, rfl, h⟩
 | o :: l, n, s, k, hl, h => by
  obtain ⟨hs, h⟩ := h
  have h0 : ops[n]? = some o := by simpa using (hl 0).symm
  have hst : ∃ s1, rZ0 P tab (qa0 ops n) (n ∈ gs) ops o s s1 ∧ vI1 P tab (qa0 ops) gs ops prs (n + 1) l s1 k := by
   split at h
   ·rename_i e
    obtain ⟨s1, h1, h2, h3⟩ := rW0 (ops := ops) h
    exact ⟨s1, .inr ⟨bs0 e, h1, h2⟩, h3⟩
   ·obtain ⟨s1, h1, h2⟩ := we0 h
    obtain ⟨s1', h1, e⟩ := h1
    simp only [vk0] at e
    subst e
    exact ⟨_, .inl h1, h2⟩
  obtain ⟨s1, h1, h2⟩ := hst
  obtain ⟨s', h3, h4⟩ := bE0 l (n + 1) (fun j => by have := hl (j + 1); simpa [Nat.add_assoc, Nat.add_comm 1 j] using this) h2
  exact ⟨s', ⟨o, s1, h0, gZ0 hs, h1, h3⟩, h4⟩
theorem cN0 {w0 : World} {M0 : Ms} {F0 : Fz} {ops : Array Oper} {prs : List Pr} (hT : zU0 P tab) (hm : P.follows .mixedOrders = true) {id : Nat} {draw : Bool} {gs : List Nat} (hok : (draw && (yU0 ops prs && wx1 ops prs gs)) = true) {Q : Exit → Act → World → Prop} {s s' : St} {a : Act} {w : World}
  (hs : qm0 P tab (qa0 ops) gs ops prs (List.range ops.size) s s') (h : wT0 w0 M0 F0 s a w) (hQ : ∀ a' w', wT0 w0 M0 F0 s' a' w' → Q .normal a' w') : (Code.region id ops draw).wp P Q a w := by
 simp only [Bool.and_eq_true] at hok
 obtain ⟨rfl, hok, hgo⟩ := hok
 have h' : wT0 w0 M0 F0 s a { w with drawn := w.drawn + 1 } := by obtain ⟨F, g, h⟩ := h; exact ⟨F, g, h.drew⟩
 refine wp_region_any hm (rm0 hT hok hgo hQ ops.size (List.range ops.size) _ s a _ (by simp) List.pairwise_lt_range (by simp) (fun i => ?_) (fun j o ho hl => ?_) hs h')
 ·simp only [List.mem_range]
  constructor
  ·intro hi; exact ⟨hi, by simp [Array.getD_eq_getD_getElem?, Array.getElem?_replicate, hi]⟩
  ·exact fun hi => hi.1
 ·have hj := (Array.getElem?_eq_some_iff.1 ho).1
  simp [Array.getD_eq_getD_getElem?, Array.getElem?_replicate, hj] at hl
def mU0 (id : Nat) : List (Nat × List Pr × List Nat) → Option (List Pr × List Nat)
 | [] => none
 | (i, p) :: ds => if i = id then some p else mU0 id ds
def trV (tab : Tab) (o : Oper) (s : St) (k : St → Prop) : Prop :=
 match o.op, o.guard, o.dst with
 | .slice t x none (some h) none, none, some d => (match opv s x, opv s h, tab t with
  | .one (.own l n), .one (.c (.v (.int .i64 c))), some ⟨.slice e2, _, _, _⟩ => (match s.lb l, tab e2 with
   | some (.arr e sz rows false), some _ => n = rows.length ∧ 0 ≤ c ∧ c < rows.length ∧ jd1 rows ∧ d < s.n ∧ s.lb d = none ∧ k (((s.put l .dead).put d (.arr e sz (rows.take c.toNat) false)).set (some d) (.one (.own d c.toNat)))
   | _, _ => False)
  | _, _, _ => False)
 | _, _, _ => False
theorem ys1 {ops : Array Oper} {o : Oper} {s : St} {k : St → Prop} (h : trV tab o s k) : ∃ s', cs0 ops o s true ∧ vL1 tab o s s' ∧ k s' := by
 unfold trV at h
 split at h
 ·rename_i t x hh d hop hgd hd
  split at h
  ·rename_i l n c e2 b2 n2 z2 hx hk ht
   split at h
   ·rename_i e sz rows ti hl hte
    obtain ⟨rfl, h0, h1, h2, h3, h4, h5⟩ := h
    refine ⟨_, ?_, ⟨t, x, hh, l, c.toNat, e, sz, rows, d, e2, b2, n2, z2, ti, hop, hx, ?_, hl, by omega, ht, hte, h2, hd, h3, h4, rfl⟩, h5⟩
    ·unfold cs0; rw [hgd]
    ·rw [hk, Int.toNat_of_nonneg h0]
   ·exact h.elim
  ·exact h.elim
 ·exact h.elim
def kf1 (P : Program) (tab : Tab) (gs : List Nat) (ops : Array Oper) : Nat → List Oper → St → (St → Prop) → Prop
 | _, [], s, k => k s
 | j, o :: os, s, k => if inN j gs = true then trV tab o s (fun s' => kf1 P tab gs ops (j + 1) os s' k) else if inN (j + 1000) gs = true then uvO P tab o s (fun s' => kf1 P tab gs ops (j + 1) os s' k) else ta0 P tab true ops [o] s (fun s' => kf1 P tab gs ops (j + 1) os s' k)
theorem je0 {w0 : World} {M0 : Ms} {F0 : Fz} {gs : List Nat} {ops : Array Oper} (hT : zU0 P tab) {Q : Exit → Act → World → Prop} : ∀ (l : List Oper) (n : Nat) {s : St} {k : St → Prop} {a : Act} {w : World}, kf1 P tab gs ops n l s k → wT0 w0 M0 F0 s a w →
  (∀ s' a' w', k s' → wT0 w0 M0 F0 s' a' w' → Q .normal a' w') → wpList P ops Q l a w
 | [], n, s, k, a, w, h, hs, hQ => hQ s _ _ h hs
 | o :: l, n, s, k, a, w, h, hs, hQ => by
  simp only [kf1] at h
  simp only [wpList]
  split at h
  ·obtain ⟨s1, h1, h2, h3⟩ := ys1 (ops := ops) h
   obtain ⟨F, g, hsim⟩ := hs
   rw [ya0 hsim h1]
   exact .inl (lW0 hT hsim h2 (fun a' w' h' => je0 hT l (n + 1) h3 h' hQ))
  ·split at h
   ·obtain ⟨s1, h1, h2, h3⟩ := rW0 (ops := ops) h
    exact kI0 hT hs (x := true) (y := True) (.inr ⟨trivial, h1, h2⟩) (fun a' w' h' => je0 hT l (n + 1) h3 h' hQ)
   ·obtain ⟨s1, h1, h2⟩ := we0 h
    obtain ⟨s1', h1, e⟩ := h1
    simp only [vk0] at e
    subst e
    exact yp0 hT hs h1 (fun a' w' h' => je0 hT l (n + 1) h2 h' hQ)
def qC0 (P : Program) (tab : Tab) (Δ : List (Nat × List Pr × List Nat)) : Code → (Exit → St → Prop) → St → Prop
 | .skip, Q, s => Q .normal s
 | .region id ops draw, Q, s => match mU0 id Δ with
  | some (prs, gs) => if draw = true then vI1 P tab (qa0 ops) gs ops prs 0 ops.toList s (Q .normal) else kf1 P tab gs ops 0 ops.toList s (Q .normal)
  | none => ta0 P tab (!draw || yf0 ops) ops ops.toList s (Q .normal)
 | .seq a b, Q, s => qC0 P tab Δ a (fC0 (qC0 P tab Δ b Q) Q) s
 | .cond c a b, Q, s => match opv s c with
  | .one (.c (.v (.bool t))) => (t = true → qC0 P tab Δ a Q s) ∧ (t = false → qC0 P tab Δ b Q s)
  | _ => False
 | .block id c, Q, s => qC0 P tab Δ c (jA0 id Q) s
 | .exit id, Q, s => Q (.exit id) s
 | .ret, Q, s => Q .ret s
 | .scope c, Q, s => qC0 P tab Δ c (qv1 Q) s
 | .loop c, Q, s => qD1 P c Q s
 | _, _, _ => False
def zl0 (Δ : List (Nat × List Pr × List Nat)) : Code → Bool
 | .region id ops draw => match mU0 id Δ with
  | some (prs, gs) => !draw || (draw && (yU0 ops prs && wx1 ops prs gs))
  | none => !draw || fZ0 ops
 | .seq a b => zl0 Δ a && zl0 Δ b
 | .cond _ a b => zl0 Δ a && zl0 Δ b
 | .block _ c => zl0 Δ c
 | .scope c => zl0 Δ c
 | .loop c => zl0 Δ c
 | _ => true
theorem ze0 (Δ : List (Nat × List Pr × List Nat)) (hT : zU0 P tab) (hm : P.follows .mixedOrders = true) : ∀ (c : Code) (Q : Exit → St → Prop) (s : St), zl0 Δ c = true → qC0 P tab Δ c Q s → AWP P c Q s
 | .skip, Q, s, _, h => fun w0 M0 F0 a w hs => wp_skip ⟨s, h, hs⟩
 | .exit id, Q, s, _, h => fun w0 M0 F0 a w hs => wp_exit ⟨s, h, hs⟩
 | .ret, Q, s, _, h => fun w0 M0 F0 a w hs => wp_ret ⟨s, h, hs⟩
 | .region id ops draw, Q, s, hok, h => fun w0 M0 F0 a w hs => by
  simp only [qC0] at h
  simp only [zl0] at hok
  split at h
  ·rename_i prs gs hpr
   split at h
   case isFalse hd =>
    have hd : draw = false := by simpa using hd
    subst hd
    exact wp_region_list (je0 hT ops.toList 0 h hs (fun s' a' w' hk hs' => ⟨s', hk, hs'⟩))
   rename_i hd
   subst hd
   obtain ⟨s', h1, h2⟩ := bE0 ops.toList 0 (by simp) h
   rw [hpr] at hok
   simp only [Bool.not_true, Bool.false_or] at hok
   exact cN0 hT hm hok (by simpa [List.range_eq_range'] using h1) hs (fun a' w' hs' => ⟨s', h2, hs'⟩)
  ·rename_i hpr
   obtain ⟨s', h1, h2⟩ := we0 h
   refine vw0 hT hm ?_ h1 hs (fun a' w' hs' => ⟨s', h2, hs'⟩)
   intro hd
   subst hd
   rw [hpr] at hok
   simpa using hok
 | .seq x y, Q, s, hok, h => fun w0 M0 F0 a w hs => by
  simp only [zl0, Bool.and_eq_true] at hok
  refine wp_seq (wp_mono (ze0 Δ hT hm x _ s hok.1 h w0 M0 F0 a w hs) ?_)
  rintro e a' w' ⟨s', hq, hs'⟩
  cases e with
  | normal => exact ze0 Δ hT hm y Q s' hok.2 hq w0 M0 F0 a' w' hs'
  | _ => exact ⟨s', hq, hs'⟩
 | .cond c x y, Q, s, hok, h => fun w0 M0 F0 a w hs => by
  simp only [zl0, Bool.and_eq_true] at hok
  simp only [qC0] at h
  split at h
  ·rename_i t ht
   obtain ⟨F, g, hsim⟩ := hs
   have hc := zm0 hsim c
   rw [ht] at hc
   have hc := hc.c_v
   cases t with
   | true => exact wp_cond_true hc (ze0 Δ hT hm x Q s hok.1 (h.1 rfl) w0 M0 F0 a w ⟨F, g, hsim⟩)
   | false => exact wp_cond_false hc (ze0 Δ hT hm y Q s hok.2 (h.2 rfl) w0 M0 F0 a w ⟨F, g, hsim⟩)
  ·exact h.elim
 | .block id c, Q, s, hok, h => fun w0 M0 F0 a w hs => by
  refine wp_block (wp_mono (ze0 Δ hT hm c _ s hok h w0 M0 F0 a w hs) ?_)
  rintro e a' w' ⟨s', hq, hs'⟩
  cases e with
  | exit id' =>
   simp only [jA0] at hq
   simp only [Exit.inBlock]
   split
   ·rename_i e; rw [if_pos e] at hq; exact ⟨s', hq, hs'⟩
   ·rename_i e; rw [if_neg e] at hq; exact ⟨s', hq, hs'⟩
  | _ => exact ⟨s', hq, hs'⟩
 | .scope c, Q, s, hok, h => fun w0 M0 F0 a w hs => by
  refine wp_scope_straight (wp_mono (ze0 Δ hT hm c _ s hok h w0 M0 F0 a w hs) ?_)
  rintro e a' w' ⟨s', hq, hs'⟩
  cases e with
  | goto l => exact hq.elim
  | _ => exact ⟨s', hq, hs'⟩
 | .loop c, Q, s, _, h => h
 | .rangeFunc .., _, _, _, h => h.elim
 | .label _, _, _, _, h => h.elim
 | .goto _, _, _, _, h => h.elim
 | .refuse _, _, _, _, h => h.elim
theorem zf0 (Δ : List (Nat × List Pr × List Nat)) {ι : Type} {c : Code} {Q : Exit → St → Prop} {s : St} (S : ι → St) (I : ι → Prop) (μ : ι → Nat) (i0 : ι) (hI : I i0) (h0 : Wk s (S i0)) (hT : zU0 P tab) (hm : P.follows .mixedOrders = true) (hok : zl0 Δ c = true)
  (round : ∀ i, I i → qC0 P tab Δ c (fC0 (fun s' => ∃ j, I j ∧ μ j < μ i ∧ Wk s' (S j)) Q) (S i)) : @we1 P c s ⟨Q⟩ :=
 gB0 (ι := {i : ι // I i}) (fun i => S i.1) (fun i => μ i.1) ⟨i0, hI⟩ h0 (fun i => AWP.mono (ze0 Δ hT hm c _ _ hok (round i.1 i.2)) (fun e s hq => by
  cases e with
  | normal => obtain ⟨j, h1, h2, h3⟩ := hq; exact ⟨⟨j, h1⟩, h3, h2⟩
  | _ => exact hq))
def UvC (P : Program) (fid : FuncId) (vs : List AV) (d : Option Tmp) (s : St) [κ : Kn] : Prop := uvC P fid vs d s κ.default
theorem UvC.mk {fid : FuncId} {vs : List AV} {d : Option Tmp} {s : St} {κ : Kn} {r : AV} {args : List AV} {Bs Bs' : List LB} (ls : List Nat) (h : fL0 P fid args Bs Bs' r) (ha : wa1 vs args Bs Bs' ls [] s) (hr : jA1 ls (vs.flatMap AV.refs) = true)
  (hk : κ.default (nU0 vs args Bs' r ls [] s d)) : @UvC P fid vs d s κ := ⟨args, Bs, Bs', r, ls, h, ha, hr, hk⟩
def UvF (P : Program) (fid : Option FuncId) (vs : List AV) (d : Option Tmp) (s : St) [κ : Kn] : Prop := uvF P fid vs d s κ.default
def UvO (P : Program) (tab : Tab) (o : Oper) (s : St) [κ : Kn] : Prop := uvO P tab o s κ.default
def SlV (p : Prop) (r : Option (Prop × AV)) (ls : List Nat) (d : Option Tmp) (s : St) [κ : Kn] : Prop := p ∧ dOk d s ∧ match r with
 | some (p, v) => p ∧ (p → κ.default ((s.frzs ls).set d v))
 | none => False
def sx0 (P : Program) (tab : Tab) (x : Nat → Bool) (gs : List Nat) (ops : Array Oper) (prs : List Pr) (n : Nat) (l : List Oper) (s : St) [κ : Kn] : Prop := vI1 P tab x gs ops prs n l s κ.default
def mh0 (P : Program) (tab : Tab) (gs : List Nat) (ops : Array Oper) (n : Nat) (l : List Oper) (s : St) [κ : Kn] : Prop := kf1 P tab gs ops n l s κ.default
def TrV (x h : AV) (t : Option TI) (tab : Tab) (d : Tmp) (s : St) [κ : Kn] : Prop := match x, h, t with
 | .one (.own l n), .one (.c (.v (.int .i64 c))), some ⟨.slice e2, _, _, _⟩ => (match s.lb l, tab e2 with
  | some (.arr e sz rows false), some _ => n = rows.length ∧ 0 ≤ c ∧ c < rows.length ∧ jd1 rows ∧ d < s.n ∧ s.lb d = none ∧ κ.default (((s.put l .dead).put d (.arr e sz (rows.take c.toNat) false)).set (some d) (.one (.own d c.toNat)))
  | _, _ => False)
 | _, _, _ => False
def TrO (tab : Tab) (o : Oper) (s : St) [κ : Kn] : Prop := trV tab o s κ.default
def sp0 (P : Program) (tab : Tab) (o : Option (List Pr × List Nat)) (ops : Array Oper) (draw : Bool) (s : St) [κ : Kn] : Prop := match o with
 | some (prs, gs) => if draw = true then @sx0 P tab (qa0 ops) gs ops prs 0 ops.toList s κ else @mh0 P tab gs ops 0 ops.toList s κ
 | none => @co0 P tab (!draw || yf0 ops) ops ops.toList s κ
section eqs
variable {s : St} {k : St → Prop} {Q : Exit → St → Prop} {κ κ' : Kn} {Δ : List (Nat × List Pr × List Nat)} {prs : List Pr} {n : Nat} {gs : List Nat}
theorem sD0 : qC0 P tab Δ .skip Q s = Q .normal s := rfl
theorem dM0 {id : Nat} {ops : Array Oper} {draw : Bool} : qC0 P tab Δ (.region id ops draw) Q s = @sp0 P tab (mU0 id Δ) ops draw s ⟨Q .normal⟩ := by
 simp only [qC0, sp0]; split <;> rfl
theorem sr0 {ops : Array Oper} : @sp0 P tab (some (prs, gs)) ops true s κ = @sx0 P tab (qa0 ops) gs ops prs 0 ops.toList s κ := rfl
theorem qb1 {ops : Array Oper} : @sp0 P tab (some (prs, gs)) ops false s κ = @mh0 P tab gs ops 0 ops.toList s κ := rfl
theorem qf1 {ops : Array Oper} : @mh0 P tab gs ops n [] s κ = κ.default s := rfl
theorem sw0 {ops : Array Oper} {o : Oper} {os : List Oper} : @mh0 P tab gs ops n (o :: os) s κ = if inN n gs = true then @TrO tab o s ⟨fun s' => @mh0 P tab gs ops (n + 1) os s' κ⟩ else if inN (n + 1000) gs = true then @UvO P tab o s ⟨fun s' => @mh0 P tab gs ops (n + 1) os s' κ⟩ else @co0 P tab true ops [o] s ⟨fun s' => @mh0 P tab gs ops (n + 1) os s' κ⟩ := rfl
theorem ss0 {ops : Array Oper} : @sp0 P tab none ops false s κ = @co0 P tab true ops ops.toList s κ := rfl
theorem sq0 {ops : Array Oper} : @sp0 P tab none ops true s κ = @co0 P tab (yf0 ops) ops ops.toList s κ := rfl
theorem qB1 {id : Nat} : mU0 id [] = none := rfl
theorem sc0 {id i : Nat} {p : List Pr × List Nat} {ds : List (Nat × List Pr × List Nat)} : mU0 id ((i, p) :: ds) = if i = id then some p else mU0 id ds := rfl
theorem zI1 {a b : Code} : qC0 P tab Δ (.seq a b) Q s = qC0 P tab Δ a (fC0 (qC0 P tab Δ b Q) Q) s := rfl
theorem sA0 {c : Operand} {a b : Code} : qC0 P tab Δ (.cond c a b) Q s = @lp0 (opv s c) s ⟨fun s => qC0 P tab Δ a Q s⟩ ⟨fun s => qC0 P tab Δ b Q s⟩ := rfl
theorem ll0 {id : Nat} {c : Code} : qC0 P tab Δ (.block id c) Q s = qC0 P tab Δ c (jA0 id Q) s := rfl
theorem sB0 {id : Nat} : qC0 P tab Δ (.exit id) Q s = Q (.exit id) s := rfl
theorem zH1 : qC0 P tab Δ .ret Q s = Q .ret s := rfl
theorem sC0 {c : Code} : qC0 P tab Δ (.loop c) Q s = @we1 P c s ⟨Q⟩ := rfl
theorem qg1 {bx : Nat → Bool} {ops : Array Oper} : @sx0 P tab bx gs ops prs n [] s κ = κ.default s := rfl
theorem sy0 {bx : Nat → Bool} {ops : Array Oper} {o : Oper} {os : List Oper} : @sx0 P tab bx gs ops prs n (o :: os) s κ = (jY1 s n prs ∧ if inN n gs = true then @UvO P tab o s ⟨fun s' => @sx0 P tab bx gs ops prs (n + 1) os s' κ⟩ else @co0 P tab (bx n) ops [o] s ⟨fun s' => @sx0 P tab bx gs ops prs (n + 1) os s' κ⟩) := rfl
theorem tf0 {d : Option Tmp} {t : TypeId} {x : Operand} {lo hi : Option Operand} {ty : TypeId} {pos : String} {aft : Array Edge} : @UvO P tab ⟨d, .slice t x lo hi none, ty, pos, aft, none⟩ s κ = @SlV (kS1 s.lb (opv s x)) (xC0 tab (tab t) (vAV s.lb (opv s x)) (lo.map (opv s)) (hi.map (opv s))) (opv s x).owns d s κ := rfl
theorem wh1 {p q : Prop} {v : AV} {ls : List Nat} {d : Option Tmp} : @SlV p (some (q, v)) ls d s κ = (p ∧ dOk d s ∧ q ∧ (q → κ.default ((s.frzs ls).set d v))) := rfl
end eqs
attribute [go_sem ↓] sD0 dM0 zI1 sA0 ll0 sB0 zH1 sC0
attribute [go_sem] sr0 ss0 sq0 qB1 sc0 qg1 sy0 tf0 wh1 qb1 qf1 sw0 TrV
theorem vz0 (Δ : List (Nat × List Pr × List Nat)) (hT : zU0 P tab) (hm : P.follows .mixedOrders = true) {f : FuncId} {fn : Func} {c : Code} {args : List AV} {r : AV} {rs : List ResultVar} {n : Nat} (hf : P.funcs[f]? = some fn) (hb : fn.body = some c) (hr : fn.results.toList = rs) (hn : fn.ntmps = n) (hname : fn.name ≠ "runtime.NumGoroutine")
  (hok : zl0 Δ c = true) (hlen : args.length ≤ n) (h : qC0 P tab Δ c (jV1 tab rs r) (mk n (qN0 0 args) [])) : Sat P f args r :=
 bI0 hT hf hb hr hn hname hlen (ze0 Δ hT hm c _ _ hok h)
theorem svc (Δ : List (Nat × List Pr × List Nat)) (hT : zU0 P tab) (hm : P.follows .mixedOrders = true) {f : FuncId} {fn : Func} {c : Code} {args : List AV} {r : AV} {rs : List ResultVar} {n : Nat} (hf : P.funcs[f]? = some fn) (h : qC0 P tab Δ c (jV1 tab rs r) (mk n (qN0 0 args) [])) (hb : fn.body = some c := by exact rfl) (hr : fn.results.toList = rs := by exact rfl) (hn : fn.ntmps = n := by exact rfl) (hname : fn.name ≠ "runtime.NumGoroutine" := by decide +kernel) (hok : zl0 Δ c = true := by decide +kernel) (hlen : args.length ≤ n := by exact Nat.le_of_ble_eq_true rfl) : Sat P f args r := vz0 Δ hT hm hf hb hr hn hname hok hlen h
theorem cS0 (Δ : List (Nat × List Pr × List Nat)) (ds : List AV) {r : AV} (hds : zy0 ds = r) (htup : ∀ vs, r = .tup vs → ds = vs) (hT : zU0 P tab) (hm : P.follows .mixedOrders = true) {f : FuncId} {fn : Func} {c : Code} {args : List AV} {rs : List ResultVar} {n : Nat} (hf : P.funcs[f]? = some fn) (hb : fn.body = some c) (hr : fn.results.toList = rs) (hn : fn.ntmps = n) (hname : fn.name ≠ "runtime.NumGoroutine")
  (hok : zl0 Δ c = true) (hlen : args.length ≤ n) (h : qC0 P tab Δ c (tB0 tab rs ds) (mk n (qN0 0 args) [])) : SatF P f args r :=
 po0 ds hds htup hT hf hb hr hn hname hlen (ze0 Δ hT hm c _ _ hok h)
theorem sfv (Δ : List (Nat × List Pr × List Nat)) (ds : List AV) {r : AV} (hds : zy0 ds = r) (htup : ∀ vs, r = .tup vs → ds = vs) (hT : zU0 P tab) (hm : P.follows .mixedOrders = true) {f : FuncId} {fn : Func} {c : Code} {args : List AV} {rs : List ResultVar} {n : Nat} (hf : P.funcs[f]? = some fn) (h : qC0 P tab Δ c (tB0 tab rs ds) (mk n (qN0 0 args) [])) (hb : fn.body = some c := by exact rfl) (hr : fn.results.toList = rs := by exact rfl) (hn : fn.ntmps = n := by exact rfl) (hname : fn.name ≠ "runtime.NumGoroutine" := by decide +kernel) (hok : zl0 Δ c = true := by decide +kernel) (hlen : args.length ≤ n := by exact Nat.le_of_ble_eq_true rfl) : SatF P f args r := cS0 Δ ds hds htup hT hm hf hb hr hn hname hok hlen h
theorem ko0 (Δ : List (Nat × List Pr × List Nat)) (hT : zU0 P tab) (hm : P.follows .mixedOrders = true) {f : FuncId} {fn : Func} {c : Code} {pre post : List AV} {e : TypeId} {sz : Nat} {rows rows' : List (List AC)} {rest : List AV} {rs : List ResultVar} {n : Nat} (hf : P.funcs[f]? = some fn) (hb : fn.body = some c) (hr : fn.results.toList = rs) (hn : fn.ntmps = n) (hname : fn.name ≠ "runtime.NumGoroutine")
  (hok : zl0 Δ c = true) (hlen : pre.length + post.length + 1 ≤ n) (hsz : 0 < sz) (hpl : rest.all yk0 = true) (hcl : clR rows) (hcl' : clR rows') (hnd : noD rows = true) (hnd' : noD rows' = true)
  (h : qC0 P tab Δ c (yg1 tab rs e sz rows' rest) (mk n (qN0 0 (pre ++ .one (.own 9001 rows.length) :: post)) [(9001, .arr e sz rows false)])) : ff0 P f pre post e sz rows rows' rest :=
 pn0 hT hf hb hr hn hname hlen hsz hpl hcl hcl' hnd hnd' (ze0 Δ hT hm c _ _ hok h)
theorem kp0 (Δ : List (Nat × List Pr × List Nat)) (hT : zU0 P tab) (hm : P.follows .mixedOrders = true) {f : FuncId} {fn : Func} {c : Code} {args : List AV} {Bs Bs' : List LB} {r : AV} {rs : List ResultVar} {n : Nat} (hf : P.funcs[f]? = some fn) (hb : fn.body = some c) (hr : fn.results.toList = rs) (hn : fn.ntmps = n) (hname : fn.name ≠ "runtime.NumGoroutine")
  (hoc : zl0 Δ c = true) (hlen : args.length ≤ n) (hA : args.all (lJ0 Bs.length) = true) (hok : (Bs.all (okP Bs.length)) = true) (hok' : (Bs'.all (okX Bs'.length)) = true) (hrx : qS1 Bs'.length r = true) (hlike : bz0 Bs Bs') (hj : zy0 (wc1 r) = r)
  (h : qC0 P tab Δ c (mi0 tab rs Bs Bs' r) (mk n (qN0 0 (args.map (AV.ren1 (idx (yj0 9000 Bs.length))))) (yh0 (idx (yj0 9000 Bs.length)) (yj0 9000 Bs.length) Bs) (ghX (yj0 9000 Bs.length) Bs))) : fL0 P f args Bs Bs' r :=
 pp0 hT hf hb hr hn hname hlen hA hok hok' hrx hlike hj (ze0 Δ hT hm c _ _ hoc h)
theorem sxv (Δ : List (Nat × List Pr × List Nat)) (hT : zU0 P tab) (hm : P.follows .mixedOrders = true) {f : FuncId} {fn : Func} {c : Code} {args : List AV} {Bs Bs' : List LB} {r : AV} {rs : List ResultVar} {n : Nat} (hf : P.funcs[f]? = some fn) (h : qC0 P tab Δ c (mi0 tab rs Bs Bs' r) (mk n (qN0 0 (args.map (AV.ren1 (idx (yj0 9000 Bs.length))))) (yh0 (idx (yj0 9000 Bs.length)) (yj0 9000 Bs.length) Bs) (ghX (yj0 9000 Bs.length) Bs))) (hb : fn.body = some c := by exact rfl) (hr : fn.results.toList = rs := by exact rfl) (hn : fn.ntmps = n := by exact rfl) (hname : fn.name ≠ "runtime.NumGoroutine" := by decide +kernel) (hoc : zl0 Δ c = true := by decide +kernel) (hlen : args.length ≤ n := by exact Nat.le_of_ble_eq_true rfl) (hA : args.all (lJ0 Bs.length) = true := by simp [go_sem]) (hok : (Bs.all (okP Bs.length)) = true := by simp [go_sem]) (hok' : (Bs'.all (okX Bs'.length)) = true := by simp [go_sem]) (hrx : qS1 Bs'.length r = true := by simp [go_sem]) (hlike : bz0 Bs Bs' := by simp [go_sem]) (hj : zy0 (wc1 r) = r := by rfl) : fL0 P f args Bs Bs' r := kp0 Δ hT hm hf hb hr hn hname hoc hlen hA hok hok' hrx hlike hj h
attribute [go_sem] inN jA1
def ml1 (P : Program) (b : Code) (s : St) [q : Qn] : Prop := AWP P b q.default s
end Go.Ai
namespace Go.Ai
variable {P : Program} {tab : Tab}
attribute [go_sem] Int.reduceEq Int.reduceBEq
def exW {β : Type} (Φ : β → Prop) (k : β → Prop) : Prop := ∃ p, Φ p ∧ k p
section
variable {β : Type} {Φ : β → Prop} {k : β → Prop} {a : Prop} {K : β → St → Prop} {x : Bool} {fid : FuncId} {nt : Prop} {ds ds1 ds2 vs : List AV} {d : Option Tmp} {s : St} {r : AV} {args : List AV} {Bs Bs' : List LB}
theorem exW.fin (p : β) (h : Φ p) (hk : k p) : exW Φ k := ⟨p, h, hk⟩
theorem exW.and (h : a) (hk : exW Φ k) : exW Φ fun p => a ∧ (a → k p) := by
 obtain ⟨p, h1, h2⟩ := hk; exact ⟨p, h1, h, fun _ => h2⟩
theorem exW.call (h : Sat P fid ds r) (hk : exW Φ fun p => K p ((s.frzs (vs.flatMap AV.owns)).set d r)) : exW Φ fun p => @CallK P tab x fid True ds vs d s ⟨K p⟩ := by
 obtain ⟨p, h1, h2⟩ := hk; exact ⟨p, h1, CallK.mk h h2⟩
theorem exW.loan (ls ns : List Nat) (h : fL0 P fid args Bs Bs' r) (hx : x = true) (ha : wa1 vs args Bs Bs' ls ns s) (hk : exW Φ fun p => K p (nU0 vs args Bs' r ls ns s d)) : exW Φ fun p => @LoanK P tab x fid ds1 ds2 vs d s ⟨K p⟩ := by
 obtain ⟨p, h1, h2⟩ := hk; exact ⟨p, h1, LoanK.con ls ns h hx ha h2⟩
theorem exW.uv (ls : List Nat) (h : fL0 P fid args Bs Bs' r) (ha : wa1 vs args Bs Bs' ls [] s) (hr : jA1 ls (vs.flatMap AV.refs) = true) (hk : exW Φ fun p => K p (nU0 vs args Bs' r ls [] s d)) : exW Φ fun p => @UvC P fid vs d s ⟨K p⟩ := by
 obtain ⟨p, h1, h2⟩ := hk; exact ⟨p, h1, UvC.mk ls h ha hr h2⟩
theorem exl (ls ns : List Nat) (h : fL0 P fid args Bs Bs' r) (hk : exW Φ fun p => K p (nU0 vs args Bs' r ls ns s d)) (hx : x = true := by exact rfl) (ha : wa1 vs args Bs Bs' ls ns s := by simp [go_sem, encS, zO0]) : exW Φ fun p => @LoanK P tab x fid ds1 ds2 vs d s ⟨K p⟩ := exW.loan ls ns h hx ha hk
theorem exv (ls : List Nat) (h : fL0 P fid args Bs Bs' r) (hk : exW Φ fun p => K p (nU0 vs args Bs' r ls [] s d)) (ha : wa1 vs args Bs Bs' ls [] s := by simp [go_sem, encS, zO0]) (hr : jA1 ls (vs.flatMap AV.refs) = true := by simp [go_sem]) : exW Φ fun p => @UvC P fid vs d s ⟨K p⟩ := exW.uv ls h ha hr hk
end
section
variable {β : Type} {Φ : β → Prop}
theorem ko1 (Δ : List (Nat × List Pr × List Nat)) (hT : zU0 P tab) (hm : P.follows .mixedOrders = true) {f : FuncId} {fn : Func} {c : Code} {args : List AV} {Bs : List LB} {Bs' : β → List LB} {r : β → AV} {rs : List ResultVar} {n : Nat} (hf : P.funcs[f]? = some fn) (hb : fn.body = some c) (hr : fn.results.toList = rs) (hn : fn.ntmps = n) (hname : fn.name ≠ "runtime.NumGoroutine")
  (hoc : zl0 Δ c = true) (hlen : args.length ≤ n) (hA : args.all (lJ0 Bs.length) = true) (hok : (Bs.all (okP Bs.length)) = true) (hok' : ∀ p, ((Bs' p).all (okX (Bs' p).length)) = true) (hrx : ∀ p, qS1 (Bs' p).length (r p) = true) (hlike : ∀ p, bz0 Bs (Bs' p)) (hj : ∀ p, zy0 (wc1 (r p)) = r p)
  (h : exW Φ fun p => qC0 P tab Δ c (mi0 tab rs Bs (Bs' p) (r p)) (mk n (qN0 0 (args.map (AV.ren1 (idx (yj0 9000 Bs.length))))) (yh0 (idx (yj0 9000 Bs.length)) (yj0 9000 Bs.length) Bs) (ghX (yj0 9000 Bs.length) Bs))) : exW Φ fun p => fL0 P f args Bs (Bs' p) (r p) := by
 obtain ⟨p, h1, h2⟩ := h
 exact ⟨p, h1, kp0 Δ hT hm hf hb hr hn hname hoc hlen hA hok (hok' p) (hrx p) (hlike p) (hj p) h2⟩
theorem sxe (Δ : List (Nat × List Pr × List Nat)) (hT : zU0 P tab) (hm : P.follows .mixedOrders = true) {f : FuncId} {fn : Func} {c : Code} {args : List AV} {Bs : List LB} {Bs' : β → List LB} {r : β → AV} {rs : List ResultVar} {n : Nat} (hf : P.funcs[f]? = some fn) (h : exW Φ fun p => qC0 P tab Δ c (mi0 tab rs Bs (Bs' p) (r p)) (mk n (qN0 0 (args.map (AV.ren1 (idx (yj0 9000 Bs.length))))) (yh0 (idx (yj0 9000 Bs.length)) (yj0 9000 Bs.length) Bs) (ghX (yj0 9000 Bs.length) Bs))) (hb : fn.body = some c := by exact rfl) (hr : fn.results.toList = rs := by exact rfl) (hn : fn.ntmps = n := by exact rfl) (hname : fn.name ≠ "runtime.NumGoroutine" := by decide +kernel) (hoc : zl0 Δ c = true := by decide +kernel) (hlen : args.length ≤ n := by exact Nat.le_of_ble_eq_true rfl) (hA : args.all (lJ0 Bs.length) = true := by simp [go_sem]) (hok : (Bs.all (okP Bs.length)) = true := by simp [go_sem]) (hok' : ∀ p, ((Bs' p).all (okX (Bs' p).length)) = true := by intro _; simp [go_sem]) (hrx : ∀ p, qS1 (Bs' p).length (r p) = true := by intro _; simp [go_sem]) (hlike : ∀ p, bz0 Bs (Bs' p) := by intro _; simp [go_sem]) (hj : ∀ p, zy0 (wc1 (r p)) = r p := by intro _; rfl) : exW Φ fun p => fL0 P f args Bs (Bs' p) (r p) := ko1 Δ hT hm hf hb hr hn hname hoc hlen hA hok hok' hrx hlike hj h
theorem xI1 (Δ : List (Nat × List Pr × List Nat)) (hT : zU0 P tab) (hm : P.follows .mixedOrders = true) {f : FuncId} {fn : Func} {c : Code} {args : List AV} {r : β → AV} {rs : List ResultVar} {n : Nat} (hf : P.funcs[f]? = some fn) (hb : fn.body = some c) (hr : fn.results.toList = rs) (hn : fn.ntmps = n) (hname : fn.name ≠ "runtime.NumGoroutine")
  (hok : zl0 Δ c = true) (hlen : args.length ≤ n) (h : exW Φ fun p => qC0 P tab Δ c (jV1 tab rs (r p)) (mk n (qN0 0 args) [])) : exW Φ fun p => Sat P f args (r p) := by
 obtain ⟨p, h1, h2⟩ := h
 exact ⟨p, h1, vz0 Δ hT hm hf hb hr hn hname hok hlen h2⟩
theorem sce (Δ : List (Nat × List Pr × List Nat)) (hT : zU0 P tab) (hm : P.follows .mixedOrders = true) {f : FuncId} {fn : Func} {c : Code} {args : List AV} {r : β → AV} {rs : List ResultVar} {n : Nat} (hf : P.funcs[f]? = some fn) (h : exW Φ fun p => qC0 P tab Δ c (jV1 tab rs (r p)) (mk n (qN0 0 args) [])) (hb : fn.body = some c := by exact rfl) (hr : fn.results.toList = rs := by exact rfl) (hn : fn.ntmps = n := by exact rfl) (hname : fn.name ≠ "runtime.NumGoroutine" := by decide +kernel) (hok : zl0 Δ c = true := by decide +kernel) (hlen : args.length ≤ n := by exact Nat.le_of_ble_eq_true rfl) : exW Φ fun p => Sat P f args (r p) := xI1 Δ hT hm hf hb hr hn hname hok hlen h
end
end Go.Ai
