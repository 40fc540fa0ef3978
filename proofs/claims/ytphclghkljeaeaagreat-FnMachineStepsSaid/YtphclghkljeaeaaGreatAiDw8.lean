/- Draws: guards, signatures. Written by mkdw6.py. -/
import Derived.Test.YtphclghkljeaeaaGreatAiDw5
import Derived.Test.YtphclghkljeaeaaGreatAiD1
set_option linter.unusedVariables false
set_option linter.unusedSimpArgs false
namespace Go.Ai
open Go.Proofs
set_option maxRecDepth 100000
def gG (B : Nat) (g : GGuard) : Prop := g.wf ∧ g.size ≤ B
theorem cd0 {B B' : Nat} {g : GGuard} (h : B ≤ B') (k : gG B g) : gG B' g := ⟨k.1, Nat.le_trans k.2 h⟩
theorem ce0 {B1 B2 : Nat} {k : Int} {a b : Tm} (hk : (Lit.int .i64 k).wf = true) (ha : gT B1 a) (hb : gT B2 b) : gG (B1 + B2) ⟨k, a, b⟩ := by
 refine ⟨⟨hk, ha.1, hb.1⟩, ?_⟩
 have := ha.2; have := hb.2
 simp only [GGuard.size, szI]; omega
theorem wU0 (bs : List Int) (hb : wr0 bs) (c : Cur) (hc : c.i ≤ bs.length) : ∃ c' g, c'.i ≤ bs.length ∧ gG 1000 g ∧ qy0 Tryz.prog 230 [.one (.ptr 0 0)] [qq0 bs c] [qq0 bs c'] (zn0 (GGuard.enc g)) := by
 obtain ⟨c1, b1, i1, s1⟩ := zL0 bs hb c hc 2 (by omega)
 refine ex2 (sxe [] zE0 zA0 Tryz.func230 ?_)
 refine qI0 ?_
 refine exl [9000] [] s1 ?_
 refine qI0 ?_
 obtain ⟨c2, x2, i2, x2a, x2b, s2⟩ := zP0 bs hb c1 i1 3 (by omega)
 refine exl [9000] [] s2 ?_
 refine qI0 ?_
 obtain ⟨c3, a, i3, ga, s3⟩ := wq0 bs hb 3 (by omega) c2 i2 b1
 refine exl [9000] [] s3 ?_
 refine qI0 ?_
 obtain ⟨c4, d, i4, gd, s4⟩ := wq0 bs hb 2 (by omega) c3 i3 b1
 obtain ⟨ak, an, az, at_⟩ := a
 obtain ⟨dk, dn, dz, dt⟩ := d
 refine exl [9000] [] s4 ?_
 refine jj0 ?_
 obtain ⟨c5, b5, i5, s5⟩ := zL0 bs hb c4 i4 6 (by omega)
 rcases b5 with _ | _
 ·refine exl [9000] [] s5 ?_
  refine jj0 ?_
  refine exW.fin (c5, ⟨1 + x2, .mk ak an az at_, .mk dk dn dz dt⟩) ⟨i5, cd0 (by decide) (ce0 (qb0 _ (by omega) (by omega)) ga gd)⟩ ?_
  exact xh1
 ·refine exl [9000] [] s5 ?_
  refine jj0 ?_
  obtain ⟨c6, a2, i6, ga2, s6⟩ := gp0 bs hb 2 (by omega) c5 i5 b1
  refine exl [9000] [] s6 ?_
  refine jj0 ?_
  obtain ⟨c7, d2, i7, gd2, s7⟩ := gp0 bs hb 2 (by omega) c6 i6 b1
  obtain ⟨a2k, a2n, a2s, a2t⟩ := a2
  obtain ⟨d2k, d2n, d2s, d2t⟩ := d2
  refine exl [9000] [] s7 ?_
  refine jj0 ?_
  refine exW.fin (c7, ⟨1 + x2, .mk a2k a2n a2s a2t, .mk d2k d2n d2s d2t⟩) ⟨i7, cd0 (by decide) (ce0 (qb0 _ (by omega) (by omega)) ga2 gd2)⟩ ?_
  exact xh1
abbrev bA : ByteArray := ⟨#[97]⟩
abbrev zg1 : LB := .arr 9 1 [[sC ⟨#[101]⟩], [sC ⟨#[107]⟩]] false
abbrev gI1 : List (List AC) := [[sC ⟨#[97]⟩, .nil, sC ⟨#[101]⟩], [sC ⟨#[98]⟩, .nil, sC ⟨#[101]⟩], [sC ⟨#[103]⟩, .c (.sl [[.v (.string ⟨#[101]⟩)]]), sC ⟨#[101]⟩], [sC ⟨#[102]⟩, .c (.sl [[.v (.string ⟨#[101]⟩)], [.v (.string ⟨#[101]⟩)]]), sC ⟨#[101]⟩],
 [sC ⟨#[104]⟩, .c (.sl [[.v (.string ⟨#[101]⟩)], [.v (.string ⟨#[119, 111, 114, 100]⟩)]]), sC ⟨#[101]⟩], [sC ⟨#[110, 117, 109]⟩, .c (.sl [[.v (.string ⟨#[119, 111, 114, 100]⟩)]]), sC ⟨#[101]⟩], [sC ⟨#[116, 111, 112]⟩, .c (.sl [[.v (.string ⟨#[101]⟩)]]), sC ⟨#[107]⟩]]
abbrev tm0 : LB := .arr 171 3 gI1 false
theorem sA1 {α : Type} (x : α) : List.replicate 7 x = [x, x, x, x, x, x, x] := rfl
theorem kH1 : qy0 Tryz.prog 180 [] [] [zg1, tm0] (.agg [.own 0 2, .own 1 7]) := by
 refine jd0 zE0 Tryz.func180 rfl rfl rfl (by decide +kernel) (Nat.le_of_ble_eq_true rfl) (by simp [go_sem]) (by simp [go_sem]) (by simp [go_sem, noD, isD]) (by simp [go_sem]) (by simp [go_sem]) rfl ?_
 refine qP1 [] zE0 zA0 (by decide +kernel) ?_
 refine zr0 ?_
 refine qP1 [] zE0 zA0 (by decide +kernel) ?_
 simp -implicitDefEqProofs (maxSteps := 3000000) only [go_sem, sA1, List.flatten_cons, List.flatten_nil, List.cons_append, List.nil_append, List.append_nil, List.drop_succ_cons, List.drop_zero, List.take_succ_cons, List.take_zero, List.length_cons, List.length_nil, Option.map_some]
 refine AWP.wk (Wk.trans (jP0 (c := 1) (T := 4) (k := 1) (e' := 9) (sz' := 1) (rows1 := [[sC ⟨#[101]⟩]]) (fz1 := false) (y := [[.v (.string ⟨#[101]⟩)]]) (l := 14) (i := 2) (by simp only [zJ0, jo0]; rfl) (by decide) (by rfl) (by simp [zJ0, jo0]) rfl (by simp [unN]) (by decide)) <|
  Wk.trans (jP0 (c := 1) (T := 6) (k := 2) (e' := 9) (sz' := 1) (rows1 := [[sC ⟨#[101]⟩], [sC ⟨#[101]⟩]]) (fz1 := false) (y := [[.v (.string ⟨#[101]⟩)], [.v (.string ⟨#[101]⟩)]]) (l := 14) (i := 3) (by simp only [zJ0, jo0]; rfl) (by decide) (by rfl) (by simp [zJ0, jo0]) rfl (by simp [unN]) (by decide)) <|
  Wk.trans (jP0 (c := 1) (T := 8) (k := 2) (e' := 9) (sz' := 1) (rows1 := [[sC ⟨#[101]⟩], [sC ⟨#[119, 111, 114, 100]⟩]]) (fz1 := false) (y := [[.v (.string ⟨#[101]⟩)], [.v (.string ⟨#[119, 111, 114, 100]⟩)]]) (l := 14) (i := 4) (by simp only [zJ0, jo0]; rfl) (by decide) (by rfl) (by simp [zJ0, jo0]) rfl (by simp [unN]) (by decide)) <|
  Wk.trans (jP0 (c := 1) (T := 10) (k := 1) (e' := 9) (sz' := 1) (rows1 := [[sC ⟨#[119, 111, 114, 100]⟩]]) (fz1 := false) (y := [[.v (.string ⟨#[119, 111, 114, 100]⟩)]]) (l := 14) (i := 5) (by simp only [zJ0, jo0]; rfl) (by decide) (by rfl) (by simp [zJ0, jo0]) rfl (by simp [unN]) (by decide)) <|
  Wk.trans (jP0 (c := 1) (T := 12) (k := 1) (e' := 9) (sz' := 1) (rows1 := [[sC ⟨#[101]⟩]]) (fz1 := false) (y := [[.v (.string ⟨#[101]⟩)]]) (l := 14) (i := 6) (by simp only [zJ0, jo0]; rfl) (by decide) (by rfl) (by simp [zJ0, jo0]) rfl (by simp [unN]) (by decide)) <|
  le_mk (L' := [(0, .one (.ptr 0 0))]) (B' := [(0, .var [.own 1 2, .own 14 7]), (14, tm0), (1, zg1)]) (by simp [go_sem]) (by simp [go_sem, jo0, zJ0])) ?_
 refine zl0 [] zE0 zA0 _ _ _ (by decide +kernel) ?_
 refine zr0 ?_
 exact ⟨[1, 14], by simp, rfl, by simp [go_sem], by simp [go_sem]⟩
def gS (B : Nat) (s : GSignature) : Prop := s.wf ∧ s.size ≤ B
def vZ1 : List GOp := [⟨⟨#[97]⟩, [], ⟨#[101]⟩⟩, ⟨⟨#[98]⟩, [], ⟨#[101]⟩⟩, ⟨⟨#[103]⟩, [⟨#[101]⟩], ⟨#[101]⟩⟩, ⟨⟨#[102]⟩, [⟨#[101]⟩, ⟨#[101]⟩], ⟨#[101]⟩⟩, ⟨⟨#[104]⟩, [⟨#[101]⟩, ⟨#[119, 111, 114, 100]⟩], ⟨#[101]⟩⟩, ⟨⟨#[110, 117, 109]⟩, [⟨#[119, 111, 114, 100]⟩], ⟨#[101]⟩⟩, ⟨⟨#[116, 111, 112]⟩, [⟨#[101]⟩], ⟨#[107]⟩⟩]
def qQ1 : List ByteArray := [⟨#[101]⟩, ⟨#[107]⟩]
theorem kK0 {s : ByteArray} (h : s.size ≤ 8) : wfS s := by
 have : (8 : Nat) ≤ maxLen := by decide
 unfold wfS; omega
theorem jO0 {α : Type} {p : α → Prop} {xs : List α} (hl : xs.length ≤ 100000) (h : ∀ x, x ∈ xs → p x) : wfL p xs := ⟨Nat.le_trans hl (by decide), h⟩
def gO (x : GOp) : Prop := x.na.size ≤ 8 ∧ x.ar.length ≤ 4 ∧ (∀ s, s ∈ x.ar → s.size ≤ 8) ∧ x.re.size ≤ 8
theorem ba1 {x : GOp} (h : gO x) : x.wf := ⟨kK0 h.1, jO0 (Nat.le_trans h.2.1 (by decide)) fun s hs => kK0 (h.2.2.1 s hs), kK0 h.2.2.2⟩
theorem vS1 {α : Type} {sz : α → Nat} {xs : List α} {m : Nat} (h : ∀ x, x ∈ xs → sz x ≤ m) : szL sz xs ≤ xs.length * (m + 1) := by
 induction xs with
 | nil => simp [szL]
 | cons a xs ih =>
  have h1 := ih fun x hx => h x (List.mem_cons_of_mem _ hx)
  have h2 := h a (List.mem_cons_self ..)
  simp only [szL, List.length_cons, Nat.succ_mul]
  omega
theorem vs1 {x : GOp} (h : gO x) : x.size ≤ 52 := by
 obtain ⟨h1, h2, h3, h4⟩ := h
 have h5 := vS1 (sz := szS) (m := 8) h3
 have : x.ar.length * 9 ≤ 4 * 9 := Nat.mul_le_mul_right _ h2
 simp only [GOp.size, szS] at *
 omega
theorem bc1 {so : List ByteArray} {op : List GOp} (h1 : so.length ≤ 3) (h2 : ∀ s, s ∈ so → s.size ≤ 8) (h3 : op.length ≤ 8) (h4 : ∀ x, x ∈ op → gO x) : gS 1000 ⟨so, op⟩ := by
 refine ⟨⟨jO0 (Nat.le_trans h1 (by decide)) fun s hs => kK0 (h2 s hs), jO0 (Nat.le_trans h3 (by decide)) fun x hx => ba1 (h4 x hx)⟩, ?_⟩
 have h5 := vS1 (sz := szS) (m := 8) h2
 have h6 := vS1 (sz := GOp.size) (m := 52) fun x hx => vs1 (h4 x hx)
 have : so.length * 9 ≤ 3 * 9 := Nat.mul_le_mul_right _ h1
 have : op.length * 53 ≤ 8 * 53 := Nat.mul_le_mul_right _ h3
 simp only [GSignature.size] at *
 omega
instance (x : GOp) : Decidable (gO x) := by unfold gO; infer_instance
theorem qR1 : ∀ s, s ∈ qQ1 → s.size ≤ 8 := by decide
theorem ji1 : ∀ x, x ∈ vZ1 → gO x := by decide
theorem gS_base : gS 1000 ⟨qQ1, vZ1⟩ := bc1 (by decide) qR1 (by decide) ji1
end Go.Ai
namespace Go.Ai
open Go.Proofs
set_option maxRecDepth 100000
attribute [go_sem] Tm.enc encI wordT GGuard.enc
def gR (B : Nat) (r : GRule) : Prop := r.wf ∧ r.size ≤ B
theorem wc0 {na : ByteArray} {le ri : Tm} {gu : List GGuard} (h1 : na.size ≤ 100) (h2 : gT 500 le) (h3 : gT 500 ri) (h4 : gu.length ≤ 2) (h5 : ∀ g, g ∈ gu → gG 1000 g) : gR 4000 ⟨na, le, ri, gu⟩ := by
 refine ⟨⟨Nat.le_trans h1 (by decide), h2.1, h3.1, jO0 (Nat.le_trans h4 (by decide)) fun g hg => (h5 g hg).1⟩, ?_⟩
 have h6 := vS1 (sz := GGuard.size) (m := 1000) fun x hx => (h5 x hx).2
 have : gu.length * 1001 ≤ 2 * 1001 := Nat.mul_le_mul_right _ h4
 have := h2.2
 have := h3.2
 simp only [GRule.size, szS] at *
 omega
abbrev vX : Tm := .mk 1 0 ⟨#[88]⟩ []
abbrev vY : Tm := .mk 1 0 ⟨#[89]⟩ []
abbrev vN : Tm := .mk 1 0 ⟨#[78]⟩ []
abbrev vM : Tm := .mk 1 0 ⟨#[77]⟩ []
theorem fx0 : gT 10 vX := yl0 _ _ _ (by decide) (by decide) (by decide)
theorem bf1 : gT 10 vY := yl0 _ _ _ (by decide) (by decide) (by decide)
theorem rj0 : gT 10 vN := yl0 _ _ _ (by decide) (by decide) (by decide)
theorem fd1 : gT 10 vM := yl0 _ _ _ (by decide) (by decide) (by decide)
theorem nS1 {B : Nat} {xs : List Tm} {t : Tm} (h : t ∈ xs) (hx : ∀ u, u ∈ xs → gT B u) : gT B t := hx t h
theorem tZ0 (bs : List Int) (hb : wr0 bs) (c : Cur) (hc : c.i ≤ bs.length) (name : ByteArray) (hn : name.size ≤ 100) : ∃ c' r, c'.i ≤ bs.length ∧ gR 4000 r ∧ qy0 Tryz.prog 181 [.one (.ptr 0 0), qg0 name] [qq0 bs c] [qq0 bs c'] (zn0 (GRule.enc r)) := by
 refine ex2 (sxe [(12, ([], [6])), (22, ([⟨2, 3, [74, 75], [6]⟩], [2])), (33, ([⟨0, 3, [7], [119]⟩, ⟨1, 3, [117], [119]⟩], [3]))] zE0 zA0 Tryz.func181 ?_)
 refine zr0 ?_
 refine exW.call (qR0 ⟨#[88]⟩) ?_
 refine zr0 ?_
 refine exW.call (qR0 ⟨#[78]⟩) ?_
 refine zr0 ?_
 obtain ⟨c1, x1, i1, x1a, x1b, s1⟩ := zP0 bs hb c hc 9 (by omega)
 rcases (by omega : x1 = 0 ∨ x1 = 1 ∨ x1 = 2 ∨ x1 = 3 ∨ x1 = 4 ∨ x1 = 5 ∨ x1 = 6 ∨ x1 = 7 ∨ 8 ≤ x1) with rfl | rfl | rfl | rfl | rfl | rfl | rfl | rfl | x1r
 ·refine x2' [9000] [] s1 ?_
  refine exW.call (zi0 ⟨#[103]⟩ vX) ?_
  refine zr0 ?_
  obtain ⟨c2, b2, i2, s2⟩ := zL0 bs hb c1 i1 8 (by omega)
  rcases b2 with _ | _
  ·refine x2' [9000] [] s2 ?_
   refine exW.fin (c2, ⟨name, (.mk 2 0 ⟨#[103]⟩ [vX]), vX, []⟩) ⟨i2, wc0 hn (zC0 (by decide) (wf0 _ _ (by decide) fx0)) (zC0 (by decide) fx0) (by simp) (by simp)⟩ ?_
   exact t0'
  ·refine x2' [9000] [] s2 ?_
   obtain ⟨c3, e, i3, ge, s3⟩ := wU0 bs hb c2 i2
   obtain ⟨ek, ⟨lk, ln, lz, la⟩, ⟨rk, rn, rz, ra⟩⟩ := e
   refine exv [9000] s3 ?_
   refine zr0 ?_
   refine exW.fin (c3, ⟨name, (.mk 2 0 ⟨#[103]⟩ [vX]), vX, [⟨ek, .mk lk ln lz la, .mk rk rn rz ra⟩]⟩) ⟨i3, wc0 hn (zC0 (by decide) (wf0 _ _ (by decide) fx0)) (zC0 (by decide) fx0) (by simp) (by simp only [List.forall_mem_cons]; exact ⟨ge, by simp⟩)⟩ ?_
   exact t0'
 ·refine x2' [9000] [] s1 ?_
  refine exW.call (qR0 ⟨#[89]⟩) ?_
  refine zr0 ?_
  refine exW.call (zc0 ⟨#[102]⟩ vX vY) ?_
  refine zr0 ?_
  refine exW.call (qR0 ⟨#[89]⟩) ?_
  refine zr0 ?_
  refine exW.call (qB0 ⟨#[97]⟩ []) ?_
  refine zr0 ?_
  obtain ⟨c2, t2, i2, m2, s2⟩ := fH0 bs hb c1 i1 [vX, vY, (.mk 2 0 ⟨#[97]⟩ [])] (by simp) (by decide)
  have g2 : gT 10 t2 := nS1 m2 (by simp only [List.forall_mem_cons]; exact ⟨zC0 (by decide) fx0, zC0 (by decide) bf1, zC0 (by decide) (jl0 _ (by decide)), by simp⟩)
  obtain ⟨t2k, t2n, t2s, t2a⟩ := t2
  refine exW.uv [9000] s2 (by simp [go_sem, encS, encI, Tm.enc, wordT]) (by simp [go_sem]) ?_
  refine zr0 ?_
  obtain ⟨c3, b3, i3, s3⟩ := zL0 bs hb c2 i2 8 (by omega)
  rcases b3 with _ | _
  ·refine x2' [9000] [] s3 ?_
   refine exW.fin (c3, ⟨name, (.mk 2 0 ⟨#[102]⟩ [vX, vY]), (.mk t2k t2n t2s t2a), []⟩) ⟨i3, wc0 hn (zC0 (by decide) (qF0 _ _ _ (by decide) fx0 bf1)) (zC0 (by decide) g2) (by simp) (by simp)⟩ ?_
   exact t0'
  ·refine x2' [9000] [] s3 ?_
   obtain ⟨c4, e, i4, ge, s4⟩ := wU0 bs hb c3 i3
   obtain ⟨ek, ⟨lk, ln, lz, la⟩, ⟨rk, rn, rz, ra⟩⟩ := e
   refine exv [9000] s4 ?_
   refine zr0 ?_
   refine exW.fin (c4, ⟨name, (.mk 2 0 ⟨#[102]⟩ [vX, vY]), (.mk t2k t2n t2s t2a), [⟨ek, .mk lk ln lz la, .mk rk rn rz ra⟩]⟩) ⟨i4, wc0 hn (zC0 (by decide) (qF0 _ _ _ (by decide) fx0 bf1)) (zC0 (by decide) g2) (by simp) (by simp only [List.forall_mem_cons]; exact ⟨ge, by simp⟩)⟩ ?_
   exact t0'
 ·refine x2' [9000] [] s1 ?_
  refine exW.call (zc0 ⟨#[104]⟩ vX vN) ?_
  refine zr0 ?_
  refine exW.call (l3Word_sat 1) ?_
  refine zr0 ?_
  refine exW.call (zc0 ⟨#[109, 105, 110, 117, 115]⟩ vN (wordT 1)) ?_
  refine zr0 ?_
  refine exW.call (zc0 ⟨#[104]⟩ vX (.mk 2 0 ⟨#[109, 105, 110, 117, 115]⟩ [vN, (wordT 1)])) ?_
  refine zr0 ?_
  refine exW.call (l3Word_sat 0) ?_
  refine zr0 ?_
  obtain ⟨c2, b2, i2, s2⟩ := zL0 bs hb c1 i1 8 (by omega)
  rcases b2 with _ | _
  ·refine x2' [9000] [] s2 ?_
   refine exW.fin (c2, ⟨name, (.mk 2 0 ⟨#[104]⟩ [vX, vN]), (.mk 2 0 ⟨#[104]⟩ [vX, (.mk 2 0 ⟨#[109, 105, 110, 117, 115]⟩ [vN, (wordT 1)])]), [⟨3, wordT 0, vN⟩]⟩) ⟨i2, wc0 hn (zC0 (by decide) (qF0 _ _ _ (by decide) fx0 rj0)) (zC0 (by decide) (qF0 _ _ _ (by decide) fx0 (qF0 _ _ _ (by decide) rj0 (qs0 1 (by decide) (by decide))))) (by simp) (by simp only [List.forall_mem_cons]; exact ⟨cd0 (by decide) (ce0 (qb0 _ (by decide) (by decide)) (qs0 0 (by decide) (by decide)) rj0), by simp⟩)⟩ ?_
   exact t0'
  ·refine x2' [9000] [] s2 ?_
   obtain ⟨c3, e, i3, ge, s3⟩ := wU0 bs hb c2 i2
   obtain ⟨ek, ⟨lk, ln, lz, la⟩, ⟨rk, rn, rz, ra⟩⟩ := e
   refine exv [9000] s3 ?_
   refine zr0 ?_
   refine exW.fin (c3, ⟨name, (.mk 2 0 ⟨#[104]⟩ [vX, vN]), (.mk 2 0 ⟨#[104]⟩ [vX, (.mk 2 0 ⟨#[109, 105, 110, 117, 115]⟩ [vN, (wordT 1)])]), [⟨3, wordT 0, vN⟩, ⟨ek, .mk lk ln lz la, .mk rk rn rz ra⟩]⟩) ⟨i3, wc0 hn (zC0 (by decide) (qF0 _ _ _ (by decide) fx0 rj0)) (zC0 (by decide) (qF0 _ _ _ (by decide) fx0 (qF0 _ _ _ (by decide) rj0 (qs0 1 (by decide) (by decide))))) (by simp) (by simp only [List.forall_mem_cons]; exact ⟨cd0 (by decide) (ce0 (qb0 _ (by decide) (by decide)) (qs0 0 (by decide) (by decide)) rj0), ge, by simp⟩)⟩ ?_
   exact t0'
 ·refine x2' [9000] [] s1 ?_
  refine exW.call (l3Word_sat 0) ?_
  refine zr0 ?_
  refine exW.call (zc0 ⟨#[104]⟩ vX (wordT 0)) ?_
  refine zr0 ?_
  obtain ⟨c2, b2, i2, s2⟩ := zL0 bs hb c1 i1 8 (by omega)
  rcases b2 with _ | _
  ·refine x2' [9000] [] s2 ?_
   refine exW.fin (c2, ⟨name, (.mk 2 0 ⟨#[104]⟩ [vX, (wordT 0)]), vX, []⟩) ⟨i2, wc0 hn (zC0 (by decide) (qF0 _ _ _ (by decide) fx0 (qs0 0 (by decide) (by decide)))) (zC0 (by decide) fx0) (by simp) (by simp)⟩ ?_
   exact t0'
  ·refine x2' [9000] [] s2 ?_
   obtain ⟨c3, e, i3, ge, s3⟩ := wU0 bs hb c2 i2
   obtain ⟨ek, ⟨lk, ln, lz, la⟩, ⟨rk, rn, rz, ra⟩⟩ := e
   refine exv [9000] s3 ?_
   refine zr0 ?_
   refine exW.fin (c3, ⟨name, (.mk 2 0 ⟨#[104]⟩ [vX, (wordT 0)]), vX, [⟨ek, .mk lk ln lz la, .mk rk rn rz ra⟩]⟩) ⟨i3, wc0 hn (zC0 (by decide) (qF0 _ _ _ (by decide) fx0 (qs0 0 (by decide) (by decide)))) (zC0 (by decide) fx0) (by simp) (by simp only [List.forall_mem_cons]; exact ⟨ge, by simp⟩)⟩ ?_
   exact t0'
 ·refine x2' [9000] [] s1 ?_
  refine exW.call (zi0 ⟨#[110, 117, 109]⟩ vN) ?_
  refine zr0 ?_
  refine exW.call (qR0 ⟨#[77]⟩) ?_
  refine zr0 ?_
  refine exW.call (zi0 ⟨#[110, 117, 109]⟩ vM) ?_
  refine zr0 ?_
  refine exW.call (zc0 ⟨#[102]⟩ (.mk 2 0 ⟨#[110, 117, 109]⟩ [vN]) (.mk 2 0 ⟨#[110, 117, 109]⟩ [vM])) ?_
  refine zr0 ?_
  obtain ⟨c2, y2, i2, z2, s2⟩ := zS0 bs hb c1 i1 [⟨#[112, 108, 117, 115]⟩, ⟨#[116, 105, 109, 101, 115]⟩, ⟨#[109, 105, 110, 117, 115]⟩] (by simp) (by decide) (by decide)
  refine exv [9000] s2 ?_
  refine zr0 ?_
  refine exW.call (qR0 ⟨#[77]⟩) ?_
  refine zr0 ?_
  refine exW.call (zc0 y2 vN vM) ?_
  refine zr0 ?_
  refine exW.call (zi0 ⟨#[110, 117, 109]⟩ (.mk 2 0 y2 [vN, vM])) ?_
  refine zr0 ?_
  obtain ⟨c3, b3, i3, s3⟩ := zL0 bs hb c2 i2 8 (by omega)
  rcases b3 with _ | _
  ·refine x2' [9000] [] s3 ?_
   refine exW.fin (c3, ⟨name, (.mk 2 0 ⟨#[102]⟩ [(.mk 2 0 ⟨#[110, 117, 109]⟩ [vN]), (.mk 2 0 ⟨#[110, 117, 109]⟩ [vM])]), (.mk 2 0 ⟨#[110, 117, 109]⟩ [(.mk 2 0 y2 [vN, vM])]), []⟩) ⟨i3, wc0 hn (zC0 (by decide) (qF0 _ _ _ (by decide) (wf0 _ _ (by decide) rj0) (wf0 _ _ (by decide) fd1))) (zC0 (by decide) (wf0 _ _ (by decide) (qF0 _ _ _ z2 rj0 fd1))) (by simp) (by simp)⟩ ?_
   exact t0'
  ·refine x2' [9000] [] s3 ?_
   obtain ⟨c4, e, i4, ge, s4⟩ := wU0 bs hb c3 i3
   obtain ⟨ek, ⟨lk, ln, lz, la⟩, ⟨rk, rn, rz, ra⟩⟩ := e
   refine exv [9000] s4 ?_
   refine zr0 ?_
   refine exW.fin (c4, ⟨name, (.mk 2 0 ⟨#[102]⟩ [(.mk 2 0 ⟨#[110, 117, 109]⟩ [vN]), (.mk 2 0 ⟨#[110, 117, 109]⟩ [vM])]), (.mk 2 0 ⟨#[110, 117, 109]⟩ [(.mk 2 0 y2 [vN, vM])]), [⟨ek, .mk lk ln lz la, .mk rk rn rz ra⟩]⟩) ⟨i4, wc0 hn (zC0 (by decide) (qF0 _ _ _ (by decide) (wf0 _ _ (by decide) rj0) (wf0 _ _ (by decide) fd1))) (zC0 (by decide) (wf0 _ _ (by decide) (qF0 _ _ _ z2 rj0 fd1))) (by simp) (by simp only [List.forall_mem_cons]; exact ⟨ge, by simp⟩)⟩ ?_
   exact t0'
 ·refine x2' [9000] [] s1 ?_
  refine exW.call (zi0 ⟨#[110, 117, 109]⟩ vN) ?_
  refine zr0 ?_
  refine exW.call (zi0 ⟨#[103]⟩ (.mk 2 0 ⟨#[110, 117, 109]⟩ [vN])) ?_
  refine zr0 ?_
  refine exW.call (qB0 ⟨#[98]⟩ []) ?_
  refine zr0 ?_
  refine exW.call (zc0 ⟨#[104]⟩ (.mk 2 0 ⟨#[98]⟩ []) vN) ?_
  refine zr0 ?_
  obtain ⟨c2, b2, i2, s2⟩ := zL0 bs hb c1 i1 8 (by omega)
  rcases b2 with _ | _
  ·refine x2' [9000] [] s2 ?_
   refine exW.fin (c2, ⟨name, (.mk 2 0 ⟨#[103]⟩ [(.mk 2 0 ⟨#[110, 117, 109]⟩ [vN])]), (.mk 2 0 ⟨#[104]⟩ [(.mk 2 0 ⟨#[98]⟩ []), vN]), []⟩) ⟨i2, wc0 hn (zC0 (by decide) (wf0 _ _ (by decide) (wf0 _ _ (by decide) rj0))) (zC0 (by decide) (qF0 _ _ _ (by decide) (jl0 _ (by decide)) rj0)) (by simp) (by simp)⟩ ?_
   exact t0'
  ·refine x2' [9000] [] s2 ?_
   obtain ⟨c3, e, i3, ge, s3⟩ := wU0 bs hb c2 i2
   obtain ⟨ek, ⟨lk, ln, lz, la⟩, ⟨rk, rn, rz, ra⟩⟩ := e
   refine exv [9000] s3 ?_
   refine zr0 ?_
   refine exW.fin (c3, ⟨name, (.mk 2 0 ⟨#[103]⟩ [(.mk 2 0 ⟨#[110, 117, 109]⟩ [vN])]), (.mk 2 0 ⟨#[104]⟩ [(.mk 2 0 ⟨#[98]⟩ []), vN]), [⟨ek, .mk lk ln lz la, .mk rk rn rz ra⟩]⟩) ⟨i3, wc0 hn (zC0 (by decide) (wf0 _ _ (by decide) (wf0 _ _ (by decide) rj0))) (zC0 (by decide) (qF0 _ _ _ (by decide) (jl0 _ (by decide)) rj0)) (by simp) (by simp only [List.forall_mem_cons]; exact ⟨ge, by simp⟩)⟩ ?_
   exact t0'
 ·refine x2' [9000] [] s1 ?_
  refine exW.call (qB0 ⟨#[97]⟩ []) ?_
  refine zr0 ?_
  refine exW.call (qB0 ⟨#[98]⟩ []) ?_
  refine zr0 ?_
  refine exW.call (l3Word_sat 2) ?_
  refine zr0 ?_
  refine exW.call (zi0 ⟨#[110, 117, 109]⟩ (wordT 2)) ?_
  refine zr0 ?_
  obtain ⟨c2, t2, i2, m2, s2⟩ := fH0 bs hb c1 i1 [(.mk 2 0 ⟨#[98]⟩ []), (.mk 2 0 ⟨#[110, 117, 109]⟩ [(wordT 2)])] (by simp) (by decide)
  have g2 : gT 20 t2 := nS1 m2 (by simp only [List.forall_mem_cons]; exact ⟨zC0 (by decide) (jl0 _ (by decide)), zC0 (by decide) (wf0 _ _ (by decide) (qs0 2 (by decide) (by decide))), by simp⟩)
  obtain ⟨t2k, t2n, t2s, t2a⟩ := t2
  refine exW.loan [9000] [] s2 rfl (by simp [go_sem, encS, encI, Tm.enc, wordT]) ?_
  refine zr0 ?_
  obtain ⟨c3, b3, i3, s3⟩ := zL0 bs hb c2 i2 8 (by omega)
  rcases b3 with _ | _
  ·refine x2' [9000] [] s3 ?_
   refine exW.fin (c3, ⟨name, (.mk 2 0 ⟨#[97]⟩ []), (.mk t2k t2n t2s t2a), []⟩) ⟨i3, wc0 hn (zC0 (by decide) (jl0 _ (by decide))) (zC0 (by decide) g2) (by simp) (by simp)⟩ ?_
   exact t0'
  ·refine x2' [9000] [] s3 ?_
   obtain ⟨c4, e, i4, ge, s4⟩ := wU0 bs hb c3 i3
   obtain ⟨ek, ⟨lk, ln, lz, la⟩, ⟨rk, rn, rz, ra⟩⟩ := e
   refine exv [9000] s4 ?_
   refine zr0 ?_
   refine exW.fin (c4, ⟨name, (.mk 2 0 ⟨#[97]⟩ []), (.mk t2k t2n t2s t2a), [⟨ek, .mk lk ln lz la, .mk rk rn rz ra⟩]⟩) ⟨i4, wc0 hn (zC0 (by decide) (jl0 _ (by decide))) (zC0 (by decide) g2) (by simp) (by simp only [List.forall_mem_cons]; exact ⟨ge, by simp⟩)⟩ ?_
   exact t0'
 ·refine x2' [9000] [] s1 ?_
  refine exW.call (zc0 ⟨#[102]⟩ vX vX) ?_
  refine zr0 ?_
  refine exW.call (zi0 ⟨#[103]⟩ vX) ?_
  refine zr0 ?_
  obtain ⟨c2, b2, i2, s2⟩ := zL0 bs hb c1 i1 8 (by omega)
  rcases b2 with _ | _
  ·refine x2' [9000] [] s2 ?_
   refine exW.fin (c2, ⟨name, (.mk 2 0 ⟨#[102]⟩ [vX, vX]), (.mk 2 0 ⟨#[103]⟩ [vX]), []⟩) ⟨i2, wc0 hn (zC0 (by decide) (qF0 _ _ _ (by decide) fx0 fx0)) (zC0 (by decide) (wf0 _ _ (by decide) fx0)) (by simp) (by simp)⟩ ?_
   exact t0'
  ·refine x2' [9000] [] s2 ?_
   obtain ⟨c3, e, i3, ge, s3⟩ := wU0 bs hb c2 i2
   obtain ⟨ek, ⟨lk, ln, lz, la⟩, ⟨rk, rn, rz, ra⟩⟩ := e
   refine exv [9000] s3 ?_
   refine zr0 ?_
   refine exW.fin (c3, ⟨name, (.mk 2 0 ⟨#[102]⟩ [vX, vX]), (.mk 2 0 ⟨#[103]⟩ [vX]), [⟨ek, .mk lk ln lz la, .mk rk rn rz ra⟩]⟩) ⟨i3, wc0 hn (zC0 (by decide) (qF0 _ _ _ (by decide) fx0 fx0)) (zC0 (by decide) (wf0 _ _ (by decide) fx0)) (by simp) (by simp only [List.forall_mem_cons]; exact ⟨ge, by simp⟩)⟩ ?_
   exact t0'
 ·have nex10 : (x1 == 0) = false := by simp only [beq_eq_false_iff_ne, ne_eq]; omega
  have nex11 : (x1 == 1) = false := by simp only [beq_eq_false_iff_ne, ne_eq]; omega
  have nex12 : (x1 == 2) = false := by simp only [beq_eq_false_iff_ne, ne_eq]; omega
  have nex13 : (x1 == 3) = false := by simp only [beq_eq_false_iff_ne, ne_eq]; omega
  have nex14 : (x1 == 4) = false := by simp only [beq_eq_false_iff_ne, ne_eq]; omega
  have nex15 : (x1 == 5) = false := by simp only [beq_eq_false_iff_ne, ne_eq]; omega
  have nex16 : (x1 == 6) = false := by simp only [beq_eq_false_iff_ne, ne_eq]; omega
  have nex17 : (x1 == 7) = false := by simp only [beq_eq_false_iff_ne, ne_eq]; omega
  refine exl [9000] [] s1 ?_
  refine xy1 ?_
  obtain ⟨c2, t2, i2, g2, s2⟩ := gp0 bs hb 3 (by omega) c1 i1 false
  obtain ⟨t2k, t2n, t2s, t2a⟩ := t2
  refine exl [9000] [] s2 ?_
  refine xy1 ?_
  obtain ⟨c3, t3, i3, g3, s3⟩ := gp0 bs hb 2 (by omega) c2 i2 true
  obtain ⟨t3k, t3n, t3s, t3a⟩ := t3
  refine exl [9000] [] s3 ?_
  refine xy1 ?_
  obtain ⟨c4, b4, i4, s4⟩ := zL0 bs hb c3 i3 8 (by omega)
  rcases b4 with _ | _
  ·refine exl [9000] [] s4 ?_
   refine xy1 ?_
   refine exW.fin (c4, ⟨name, (.mk t2k t2n t2s t2a), (.mk t3k t3n t3s t3a), []⟩) ⟨i4, wc0 hn (zC0 (by decide) g2) (zC0 (by decide) g3) (by simp) (by simp)⟩ ?_
   exact t0'
  ·refine exl [9000] [] s4 ?_
   refine xy1 ?_
   obtain ⟨c5, e, i5, ge, s5⟩ := wU0 bs hb c4 i4
   obtain ⟨ek, ⟨lk, ln, lz, la⟩, ⟨rk, rn, rz, ra⟩⟩ := e
   refine exv [9000] s5 ?_
   refine xy1 ?_
   refine exW.fin (c5, ⟨name, (.mk t2k t2n t2s t2a), (.mk t3k t3n t3s t3a), [⟨ek, .mk lk ln lz la, .mk rk rn rz ra⟩]⟩) ⟨i5, wc0 hn (zC0 (by decide) g2) (zC0 (by decide) g3) (by simp) (by simp only [List.forall_mem_cons]; exact ⟨ge, by simp⟩)⟩ ?_
   exact t0'
end Go.Ai
