/- Draws: guards, signatures. Written by mkdw6.py. -/
import Derived.Test.YtphclghkljeaeaaGreatAiDw5
import Derived.Test.YtphclghkljeaeaaGreatAiD1
set_option linter.unusedVariables false
set_option linter.unusedSimpArgs false
namespace Go.Ai
open Go.Proofs
set_option maxRecDepth 100000
def gG (B : Nat) (g : GGuard) : Prop := g.wf ∧ g.size ≤ B
theorem dd0 {B B' : Nat} {g : GGuard} (h : B ≤ B') (k : gG B g) : gG B' g := ⟨k.1, Nat.le_trans k.2 h⟩
theorem de0 {B1 B2 : Nat} {k : Int} {a b : Tm} (hk : (Lit.int .i64 k).wf = true) (ha : gT B1 a) (hb : gT B2 b) : gG (B1 + B2) ⟨k, a, b⟩ := by
 refine ⟨⟨hk, ha.1, hb.1⟩, ?_⟩
 have := ha.2; have := hb.2
 simp only [GGuard.size, szI]; omega
theorem wG0 (bs : List Int) (hb : wM0 bs) (c : Cur) (hc : c.i ≤ bs.length) : ∃ c' g, c'.i ≤ bs.length ∧ gG 1000 g ∧ qo0 Tryz.prog 230 [.one (.ptr 0 0)] [wK0 bs c] [wK0 bs c'] (zz0 (GGuard.enc g)) := by
 obtain ⟨c1, b1, i1, s1⟩ := zM0 bs hb c hc 2 (by omega)
 refine ex2 (sxe [] zE0 zA0 Tryz.func230 ?_)
 refine wj0 ?_
 refine exl [9000] [] s1 ?_
 refine wj0 ?_
 obtain ⟨c2, x2, i2, x2a, x2b, s2⟩ := zP0 bs hb c1 i1 3 (by omega)
 refine exl [9000] [] s2 ?_
 refine wj0 ?_
 obtain ⟨c3, a, i3, ga, s3⟩ := wi0 bs hb 3 (by omega) c2 i2 b1
 refine exl [9000] [] s3 ?_
 refine wj0 ?_
 obtain ⟨c4, d, i4, gd, s4⟩ := wi0 bs hb 2 (by omega) c3 i3 b1
 obtain ⟨ak, an, az, at_⟩ := a
 obtain ⟨dk, dn, dz, dt⟩ := d
 refine exl [9000] [] s4 ?_
 refine jw0 ?_
 obtain ⟨c5, b5, i5, s5⟩ := zM0 bs hb c4 i4 6 (by omega)
 rcases b5 with _ | _
 ·refine exl [9000] [] s5 ?_
  refine jw0 ?_
  refine exW.fin (c5, ⟨1 + x2, .mk ak an az at_, .mk dk dn dz dt⟩) ⟨i5, dd0 (by decide) (de0 (wH0 _ (by omega) (by omega)) ga gd)⟩ ?_
  exact ft1
 ·refine exl [9000] [] s5 ?_
  refine jw0 ?_
  obtain ⟨c6, a2, i6, ga2, s6⟩ := mC0 bs hb 2 (by omega) c5 i5 b1
  refine exl [9000] [] s6 ?_
  refine jw0 ?_
  obtain ⟨c7, d2, i7, gd2, s7⟩ := mC0 bs hb 2 (by omega) c6 i6 b1
  obtain ⟨a2k, a2n, a2s, a2t⟩ := a2
  obtain ⟨d2k, d2n, d2s, d2t⟩ := d2
  refine exl [9000] [] s7 ?_
  refine jw0 ?_
  refine exW.fin (c7, ⟨1 + x2, .mk a2k a2n a2s a2t, .mk d2k d2n d2s d2t⟩) ⟨i7, dd0 (by decide) (de0 (wH0 _ (by omega) (by omega)) ga2 gd2)⟩ ?_
  exact ft1
abbrev bA : ByteArray := ⟨#[97]⟩
abbrev wF1 : LB := .arr 9 1 [[sC ⟨#[101]⟩], [sC ⟨#[107]⟩]] false
abbrev mk1 : List (List AC) := [[sC ⟨#[97]⟩, .nil, sC ⟨#[101]⟩], [sC ⟨#[98]⟩, .nil, sC ⟨#[101]⟩], [sC ⟨#[103]⟩, .c (.sl [[.v (.string ⟨#[101]⟩)]]), sC ⟨#[101]⟩], [sC ⟨#[102]⟩, .c (.sl [[.v (.string ⟨#[101]⟩)], [.v (.string ⟨#[101]⟩)]]), sC ⟨#[101]⟩],
 [sC ⟨#[104]⟩, .c (.sl [[.v (.string ⟨#[101]⟩)], [.v (.string ⟨#[119, 111, 114, 100]⟩)]]), sC ⟨#[101]⟩], [sC ⟨#[110, 117, 109]⟩, .c (.sl [[.v (.string ⟨#[119, 111, 114, 100]⟩)]]), sC ⟨#[101]⟩], [sC ⟨#[116, 111, 112]⟩, .c (.sl [[.v (.string ⟨#[101]⟩)]]), sC ⟨#[107]⟩]]
abbrev qR1 : LB := .arr 171 3 mk1 false
theorem zg2 {α : Type} (x : α) : List.replicate 7 x = [x, x, x, x, x, x, x] := rfl
theorem vW0 : qo0 Tryz.prog 180 [] [] [wF1, qR1] (.agg [.own 0 2, .own 1 7]) := by
 refine jX0 zE0 Tryz.func180 rfl rfl rfl (by decide +kernel) (Nat.le_of_ble_eq_true rfl) (by simp [go_sem]) (by simp [go_sem]) (by simp [go_sem, noD, isD]) (by simp [go_sem]) (by simp [go_sem]) rfl ?_
 refine pk0 [] zE0 zA0 (by decide +kernel) ?_
 refine zW0 ?_
 refine pk0 [] zE0 zA0 (by decide +kernel) ?_
 simp -implicitDefEqProofs (maxSteps := 3000000) only [go_sem, zg2, List.flatten_cons, List.flatten_nil, List.cons_append, List.nil_append, List.append_nil, List.drop_succ_cons, List.drop_zero, List.take_succ_cons, List.take_zero, List.length_cons, List.length_nil, Option.map_some]
 refine AWP.wk (Wk.trans (wW0 (c := 1) (T := 4) (k := 1) (e' := 9) (sz' := 1) (rows1 := [[sC ⟨#[101]⟩]]) (fz1 := false) (y := [[.v (.string ⟨#[101]⟩)]]) (l := 14) (i := 2) (by simp only [zJ0, js0]; rfl) (by decide) (by rfl) (by simp [zJ0, js0]) rfl (by simp [unN]) (by decide)) <|
  Wk.trans (wW0 (c := 1) (T := 6) (k := 2) (e' := 9) (sz' := 1) (rows1 := [[sC ⟨#[101]⟩], [sC ⟨#[101]⟩]]) (fz1 := false) (y := [[.v (.string ⟨#[101]⟩)], [.v (.string ⟨#[101]⟩)]]) (l := 14) (i := 3) (by simp only [zJ0, js0]; rfl) (by decide) (by rfl) (by simp [zJ0, js0]) rfl (by simp [unN]) (by decide)) <|
  Wk.trans (wW0 (c := 1) (T := 8) (k := 2) (e' := 9) (sz' := 1) (rows1 := [[sC ⟨#[101]⟩], [sC ⟨#[119, 111, 114, 100]⟩]]) (fz1 := false) (y := [[.v (.string ⟨#[101]⟩)], [.v (.string ⟨#[119, 111, 114, 100]⟩)]]) (l := 14) (i := 4) (by simp only [zJ0, js0]; rfl) (by decide) (by rfl) (by simp [zJ0, js0]) rfl (by simp [unN]) (by decide)) <|
  Wk.trans (wW0 (c := 1) (T := 10) (k := 1) (e' := 9) (sz' := 1) (rows1 := [[sC ⟨#[119, 111, 114, 100]⟩]]) (fz1 := false) (y := [[.v (.string ⟨#[119, 111, 114, 100]⟩)]]) (l := 14) (i := 5) (by simp only [zJ0, js0]; rfl) (by decide) (by rfl) (by simp [zJ0, js0]) rfl (by simp [unN]) (by decide)) <|
  Wk.trans (wW0 (c := 1) (T := 12) (k := 1) (e' := 9) (sz' := 1) (rows1 := [[sC ⟨#[101]⟩]]) (fz1 := false) (y := [[.v (.string ⟨#[101]⟩)]]) (l := 14) (i := 6) (by simp only [zJ0, js0]; rfl) (by decide) (by rfl) (by simp [zJ0, js0]) rfl (by simp [unN]) (by decide)) <|
  le_mk (L' := [(0, .one (.ptr 0 0))]) (B' := [(0, .var [.own 1 2, .own 14 7]), (14, qR1), (1, wF1)]) (by simp [go_sem]) (by simp [go_sem, js0, zJ0])) ?_
 refine zf0 [] zE0 zA0 _ _ _ (by decide +kernel) ?_
 refine zW0 ?_
 exact ⟨[1, 14], by simp, rfl, by simp [go_sem], by simp [go_sem]⟩
def gS (B : Nat) (s : GSignature) : Prop := s.wf ∧ s.size ≤ B
def baseO : List GOp := [⟨⟨#[97]⟩, [], ⟨#[101]⟩⟩, ⟨⟨#[98]⟩, [], ⟨#[101]⟩⟩, ⟨⟨#[103]⟩, [⟨#[101]⟩], ⟨#[101]⟩⟩, ⟨⟨#[102]⟩, [⟨#[101]⟩, ⟨#[101]⟩], ⟨#[101]⟩⟩, ⟨⟨#[104]⟩, [⟨#[101]⟩, ⟨#[119, 111, 114, 100]⟩], ⟨#[101]⟩⟩, ⟨⟨#[110, 117, 109]⟩, [⟨#[119, 111, 114, 100]⟩], ⟨#[101]⟩⟩, ⟨⟨#[116, 111, 112]⟩, [⟨#[101]⟩], ⟨#[107]⟩⟩]
def yK0 : List ByteArray := [⟨#[101]⟩, ⟨#[107]⟩]
theorem jK0 {s : ByteArray} (h : s.size ≤ 8) : wfS s := by
 have : (8 : Nat) ≤ maxLen := by decide
 unfold wfS; omega
theorem bG1 {α : Type} {p : α → Prop} : wfL p [] := ⟨Nat.zero_le _, fun _ h => by simp at h⟩
theorem jJ0 {α : Type} {p : α → Prop} {xs : List α} (hl : xs.length ≤ 100000) (h : ∀ x, x ∈ xs → p x) : wfL p xs := ⟨Nat.le_trans hl (by decide), h⟩
def gO (x : GOp) : Prop := x.na.size ≤ 8 ∧ x.ar.length ≤ 4 ∧ (∀ s, s ∈ x.ar → s.size ≤ 8) ∧ x.re.size ≤ 8
theorem dv1 {x : GOp} (h : gO x) : x.wf := ⟨jK0 h.1, jJ0 (Nat.le_trans h.2.1 (by decide)) fun s hs => jK0 (h.2.2.1 s hs), jK0 h.2.2.2⟩
theorem pN1 {α : Type} {sz : α → Nat} {xs : List α} {m : Nat} (h : ∀ x, x ∈ xs → sz x ≤ m) : szL sz xs ≤ xs.length * (m + 1) := by
 induction xs with
 | nil => simp [szL]
 | cons a xs ih =>
  have h1 := ih fun x hx => h x (List.mem_cons_of_mem _ hx)
  have h2 := h a (List.mem_cons_self ..)
  simp only [szL, List.length_cons, Nat.succ_mul]
  omega
theorem pu1 {x : GOp} (h : gO x) : x.size ≤ 52 := by
 obtain ⟨h1, h2, h3, h4⟩ := h
 have h5 := pN1 (sz := szS) (m := 8) h3
 have : x.ar.length * 9 ≤ 4 * 9 := Nat.mul_le_mul_right _ h2
 simp only [GOp.size, szS] at *
 omega
theorem vq1 {so : List ByteArray} {op : List GOp} (h1 : so.length ≤ 3) (h2 : ∀ s, s ∈ so → s.size ≤ 8) (h3 : op.length ≤ 8) (h4 : ∀ x, x ∈ op → gO x) : gS 1000 ⟨so, op⟩ := by
 refine ⟨⟨jJ0 (Nat.le_trans h1 (by decide)) fun s hs => jK0 (h2 s hs), jJ0 (Nat.le_trans h3 (by decide)) fun x hx => dv1 (h4 x hx)⟩, ?_⟩
 have h5 := pN1 (sz := szS) (m := 8) h2
 have h6 := pN1 (sz := GOp.size) (m := 52) fun x hx => pu1 (h4 x hx)
 have : so.length * 9 ≤ 3 * 9 := Nat.mul_le_mul_right _ h1
 have : op.length * 53 ≤ 8 * 53 := Nat.mul_le_mul_right _ h3
 simp only [GSignature.size] at *
 omega
instance (x : GOp) : Decidable (gO x) := by unfold gO; infer_instance
theorem vE0 : ∀ s, s ∈ yK0 → s.size ≤ 8 := by decide
theorem dK0 : ∀ x, x ∈ baseO → gO x := by decide
theorem gS_base : gS 1000 ⟨yK0, baseO⟩ := vq1 (by decide) vE0 (by decide) dK0
theorem dx1 {y : ByteArray} (h : y.size ≤ 8) : gS 1000 ⟨yK0 ++ [y], baseO⟩ := vq1 (by simp [yK0]) (fun s hs => by
 rcases List.mem_append.1 hs with hs | hs
 ·exact vE0 s hs
 ·rw [List.mem_singleton.1 hs]; exact h) (by decide) dK0
theorem yj1 {y v : ByteArray} {ar : List ByteArray} (h : y.size ≤ 8) (h1 : ar.length ≤ 4) (h2 : ∀ s, s ∈ ar → s.size ≤ 8) (h3 : v.size ≤ 8) : gS 1000 ⟨yK0, baseO ++ [⟨y, ar, v⟩]⟩ := vq1 (by decide) vE0 (by simp [baseO]) (fun x hx => by
 rcases List.mem_append.1 hx with hx | hx
 ·exact dK0 x hx
 ·rw [List.mem_singleton.1 hx]; exact ⟨h, h1, h2, h3⟩)
theorem tg1 : gS 1000 ⟨yK0, [⟨⟨#[97]⟩, [⟨#[122, 122]⟩], ⟨#[101]⟩⟩] ++ baseO.drop 1⟩ := vq1 (by decide) vE0 (by decide) (by decide)
theorem jH1 (bs : List Int) (hb : wM0 bs) (c : Cur) (hc : c.i ≤ bs.length) : ∃ c' s, c'.i ≤ bs.length ∧ gS 1000 s ∧ qo0 Tryz.prog 184 [.one (.ptr 0 0)] [wK0 bs c] [wK0 bs c'] (zz0 (GSignature.enc s)) := by
 obtain ⟨c1, x1, i1, x1a, x1b, s1⟩ := zP0 bs hb c hc 10 (by omega)
 rcases (by omega : x1 = 0 ∨ x1 = 1 ∨ x1 = 2 ∨ 3 ≤ x1) with rfl | rfl | rfl | x1r
 ·refine ex2 (sxe [(4, ([⟨0, 4, [3], [11, 12]⟩, ⟨1, 4, [9], [11, 12]⟩], [4])), (6, ([⟨0, 4, [3], [21, 22]⟩, ⟨1, 4, [19], [21, 22]⟩, ⟨4, 5, [21, 22], []⟩, ⟨0, 7, [3], [25]⟩, ⟨1, 7, [19], [25]⟩, ⟨5, 7, [], [25]⟩, ⟨0, 8, [3], [24, 26]⟩, ⟨1, 8, [19], [24, 26]⟩, ⟨4, 10, [21, 22], []⟩, ⟨7, 10, [25], []⟩, ⟨8, 10, [24, 26], []⟩, ⟨0, 11, [3], [28, 29]⟩, ⟨1, 11, [19], [28, 29]⟩, ⟨5, 11, [], [28, 29]⟩, ⟨8, 11, [24, 26], [28, 29]⟩], [4, 7, 8, 11]))] zE0 zA0 Tryz.func184 ?_)
  refine zW0 ?_
  refine exW.con [] [9101, 9102] rfl vW0 (by simp [go_sem]) ?_
  refine zW0 ?_
  refine x1' [9000] [] s1 ?_
  obtain ⟨c2, y2, i2, z2, s2⟩ := zL0 bs hb c1 i1 [⟨#[101]⟩, ⟨#[119, 111, 114, 100]⟩, ⟨#[88]⟩, ⟨#[112]⟩] (by simp) (by decide) (by decide)
  refine exv [9000] s2 ?_
  refine zW0 ?_
  refine exW.fin (c2, ⟨yK0 ++ [y2], baseO⟩) ⟨i2, dx1 z2⟩ ?_
  exact t7'
 ·refine ex2 (sxe [(4, ([⟨0, 4, [3], [11, 12]⟩, ⟨1, 4, [9], [11, 12]⟩], [4])), (6, ([⟨0, 4, [3], [21, 22]⟩, ⟨1, 4, [19], [21, 22]⟩, ⟨4, 5, [21, 22], []⟩, ⟨0, 7, [3], [25]⟩, ⟨1, 7, [19], [25]⟩, ⟨5, 7, [], [25]⟩, ⟨0, 8, [3], [24, 26]⟩, ⟨1, 8, [19], [24, 26]⟩, ⟨4, 10, [21, 22], []⟩, ⟨7, 10, [25], []⟩, ⟨8, 10, [24, 26], []⟩, ⟨0, 11, [3], [28, 29]⟩, ⟨1, 11, [19], [28, 29]⟩, ⟨5, 11, [], [28, 29]⟩, ⟨8, 11, [24, 26], [28, 29]⟩], [4, 7, 8, 11]))] zE0 zA0 Tryz.func184 ?_)
  refine zW0 ?_
  refine exW.con [] [9101, 9102] rfl vW0 (by simp [go_sem]) ?_
  refine zW0 ?_
  refine x1' [9000] [] s1 ?_
  obtain ⟨c2, y2, i2, z2, s2⟩ := zL0 bs hb c1 i1 [⟨#[97]⟩, ⟨#[112, 108, 117, 115]⟩, ⟨#[110, 101, 119]⟩] (by simp) (by decide) (by decide)
  refine exv [9000] s2 ?_
  refine zW0 ?_
  obtain ⟨c3, x3, i3, x3a, x3b, s3⟩ := zP0 bs hb c2 i2 5 (by omega)
  rcases (by omega : x3 = 0 ∨ x3 = 1 ∨ x3 = 2 ∨ x3 = 3 ∨ x3 = 4) with rfl | rfl | rfl | rfl | rfl
  ·refine exv [9000] s3 ?_
   refine zW0 ?_
   obtain ⟨c4, y4, i4, z4, s4⟩ := zL0 bs hb c3 i3 [⟨#[101]⟩, ⟨#[122, 122]⟩] (by simp) (by decide) (by decide)
   refine exW.and (by simp) ?_
   refine exv [9000] s4 ?_
   refine zW0 ?_
   refine exW.fin (c4, ⟨yK0, baseO ++ [⟨y2, [], y4⟩]⟩) ⟨i4, yj1 z2 (by simp) (by decide) z4⟩ ?_
   exact t7'
  ·refine exv [9000] s3 ?_
   refine zW0 ?_
   obtain ⟨c4, y4, i4, z4, s4⟩ := zL0 bs hb c3 i3 [⟨#[101]⟩, ⟨#[122, 122]⟩] (by simp) (by decide) (by decide)
   refine exW.and (by simp) ?_
   refine exv [9000] s4 ?_
   refine zW0 ?_
   refine exW.fin (c4, ⟨yK0, baseO ++ [⟨y2, [⟨#[101]⟩], y4⟩]⟩) ⟨i4, yj1 z2 (by simp) (by decide) z4⟩ ?_
   exact t7'
  ·refine exv [9000] s3 ?_
   refine zW0 ?_
   obtain ⟨c4, y4, i4, z4, s4⟩ := zL0 bs hb c3 i3 [⟨#[101]⟩, ⟨#[122, 122]⟩] (by simp) (by decide) (by decide)
   refine exW.and (by simp) ?_
   refine exv [9000] s4 ?_
   refine zW0 ?_
   refine exW.fin (c4, ⟨yK0, baseO ++ [⟨y2, [⟨#[101]⟩, ⟨#[101]⟩], y4⟩]⟩) ⟨i4, yj1 z2 (by simp) (by decide) z4⟩ ?_
   exact t7'
  ·refine exv [9000] s3 ?_
   refine zW0 ?_
   obtain ⟨c4, y4, i4, z4, s4⟩ := zL0 bs hb c3 i3 [⟨#[101]⟩, ⟨#[122, 122]⟩] (by simp) (by decide) (by decide)
   refine exW.and (by simp) ?_
   refine exv [9000] s4 ?_
   refine zW0 ?_
   refine exW.fin (c4, ⟨yK0, baseO ++ [⟨y2, [⟨#[101]⟩, ⟨#[101]⟩, ⟨#[101]⟩], y4⟩]⟩) ⟨i4, yj1 z2 (by simp) (by decide) z4⟩ ?_
   exact t7'
  ·refine exv [9000] s3 ?_
   refine zW0 ?_
   obtain ⟨c4, y4, i4, z4, s4⟩ := zL0 bs hb c3 i3 [⟨#[101]⟩, ⟨#[122, 122]⟩] (by simp) (by decide) (by decide)
   refine exW.and (by simp) ?_
   refine exv [9000] s4 ?_
   refine zW0 ?_
   refine exW.fin (c4, ⟨yK0, baseO ++ [⟨y2, [⟨#[101]⟩, ⟨#[101]⟩, ⟨#[101]⟩, ⟨#[101]⟩], y4⟩]⟩) ⟨i4, yj1 z2 (by simp) (by decide) z4⟩ ?_
   exact t7'
 ·refine ⟨c1, ⟨yK0, [⟨⟨#[97]⟩, [⟨#[122, 122]⟩], ⟨#[101]⟩⟩] ++ baseO.drop 1⟩, i1, tg1, ?_⟩
  refine jX0 zE0 Tryz.func184 rfl rfl rfl (by decide +kernel) (Nat.le_of_ble_eq_true rfl) (by simp [go_sem]) (by simp [go_sem]) (by simp [go_sem, noD, isD]) (by simp [go_sem]) (by simp [go_sem]) rfl ?_
  refine pk0 [] zE0 zA0 (by decide +kernel) ?_
  refine zW0 ?_
  refine pk0 [] zE0 zA0 (by decide +kernel) ?_
  refine zW0 ?_
  refine CallK.con [] [9101, 9102] rfl vW0 (by simp [go_sem]) ?_
  refine zW0 ?_
  refine pk0 [] zE0 zA0 (by decide +kernel) ?_
  refine zW0 ?_
  refine LoanK.con [9000] [] s1 rfl (by simp [go_sem, encS, encI]) ?_
  refine zW0 ?_
  refine ⟨by decide, fun _ => ⟨by simp, fun _ => ?_⟩⟩
  refine AWP.wk (wW0 (c := 1) (T := 39) (k := 1) (e' := 9) (sz' := 1) (rows1 := [[sC ⟨#[122, 122]⟩]]) (fz1 := false) (y := [[.v (.string ⟨#[122, 122]⟩)]]) (l := 9102) (i := 0) (by simp only [zJ0, js0]; rfl) (by decide) (by rfl) (by simp [zJ0, js0]) rfl (by simp [unN]) (by decide)) ?_
  refine zf0 [] zE0 zA0 _ _ _ (by decide +kernel) ?_
  refine zW0 ?_
  exact ⟨[], by simp, rfl, trivial, rfl, by decide⟩
 ·have nex10 : (x1 == 0) = false := by simp only [beq_eq_false_iff_ne, ne_eq]; omega
  have nex11 : (x1 == 1) = false := by simp only [beq_eq_false_iff_ne, ne_eq]; omega
  have nex12 : (x1 == 2) = false := by simp only [beq_eq_false_iff_ne, ne_eq]; omega
  refine ex2 (sxe [(4, ([⟨0, 4, [3], [11, 12]⟩, ⟨1, 4, [9], [11, 12]⟩], [4])), (6, ([⟨0, 4, [3], [21, 22]⟩, ⟨1, 4, [19], [21, 22]⟩, ⟨4, 5, [21, 22], []⟩, ⟨0, 7, [3], [25]⟩, ⟨1, 7, [19], [25]⟩, ⟨5, 7, [], [25]⟩, ⟨0, 8, [3], [24, 26]⟩, ⟨1, 8, [19], [24, 26]⟩, ⟨4, 10, [21, 22], []⟩, ⟨7, 10, [25], []⟩, ⟨8, 10, [24, 26], []⟩, ⟨0, 11, [3], [28, 29]⟩, ⟨1, 11, [19], [28, 29]⟩, ⟨5, 11, [], [28, 29]⟩, ⟨8, 11, [24, 26], [28, 29]⟩], [4, 7, 8, 11]))] zE0 zA0 Tryz.func184 ?_)
  refine zW0 ?_
  refine exW.con [] [9101, 9102] rfl vW0 (by simp [go_sem]) ?_
  simp -implicitDefEqProofs only [go_sem, nex10, nex11, nex12]
  refine exl [9000] [] s1 ?_
  simp -implicitDefEqProofs only [go_sem, nex10, nex11, nex12]
  refine exW.fin (c1, ⟨yK0, baseO⟩) ⟨i1, gS_base⟩ ?_
  exact ⟨[], by simp, rfl, ⟨rfl, trivial⟩, rfl, by decide⟩
end Go.Ai
namespace Go.Ai
open Go.Proofs
set_option maxRecDepth 100000
attribute [go_sem] Tm.enc encI wordT GGuard.enc
def gR (B : Nat) (r : GRule) : Prop := r.wf ∧ r.size ≤ B
theorem wO0 {na : ByteArray} {le ri : Tm} {gu : List GGuard} (h1 : na.size ≤ 100) (h2 : gT 500 le) (h3 : gT 500 ri) (h4 : gu.length ≤ 2) (h5 : ∀ g, g ∈ gu → gG 1000 g) : gR 4000 ⟨na, le, ri, gu⟩ := by
 refine ⟨⟨Nat.le_trans h1 (by decide), h2.1, h3.1, jJ0 (Nat.le_trans h4 (by decide)) fun g hg => (h5 g hg).1⟩, ?_⟩
 have h6 := pN1 (sz := GGuard.size) (m := 1000) fun x hx => (h5 x hx).2
 have : gu.length * 1001 ≤ 2 * 1001 := Nat.mul_le_mul_right _ h4
 have := h2.2
 have := h3.2
 simp only [GRule.size, szS] at *
 omega
abbrev vX : Tm := .mk 1 0 ⟨#[88]⟩ []
abbrev vY : Tm := .mk 1 0 ⟨#[89]⟩ []
abbrev vN : Tm := .mk 1 0 ⟨#[78]⟩ []
abbrev vM : Tm := .mk 1 0 ⟨#[77]⟩ []
theorem be0 : gT 10 vX := ya0 _ _ _ (by decide) (by decide) (by decide)
theorem dz1 : gT 10 vY := ya0 _ _ _ (by decide) (by decide) (by decide)
theorem tM0 : gT 10 vN := ya0 _ _ _ (by decide) (by decide) (by decide)
theorem dE1 : gT 10 vM := ya0 _ _ _ (by decide) (by decide) (by decide)
theorem sq1 {B : Nat} {xs : List Tm} {t : Tm} (h : t ∈ xs) (hx : ∀ u, u ∈ xs → gT B u) : gT B t := hx t h
theorem qD1 (bs : List Int) (hb : wM0 bs) (c : Cur) (hc : c.i ≤ bs.length) (name : ByteArray) (hn : name.size ≤ 100) : ∃ c' r, c'.i ≤ bs.length ∧ gR 4000 r ∧ qo0 Tryz.prog 181 [.one (.ptr 0 0), qU0 name] [wK0 bs c] [wK0 bs c'] (zz0 (GRule.enc r)) := by
 refine ex2 (sxe [(12, ([], [6])), (22, ([⟨2, 3, [74, 75], [6]⟩], [2])), (33, ([⟨0, 3, [7], [119]⟩, ⟨1, 3, [117], [119]⟩], [3]))] zE0 zA0 Tryz.func181 ?_)
 refine zW0 ?_
 refine exW.call (qI0 ⟨#[88]⟩) ?_
 refine zW0 ?_
 refine exW.call (qI0 ⟨#[78]⟩) ?_
 refine zW0 ?_
 obtain ⟨c1, x1, i1, x1a, x1b, s1⟩ := zP0 bs hb c hc 9 (by omega)
 rcases (by omega : x1 = 0 ∨ x1 = 1 ∨ x1 = 2 ∨ x1 = 3 ∨ x1 = 4 ∨ x1 = 5 ∨ x1 = 6 ∨ x1 = 7 ∨ 8 ≤ x1) with rfl | rfl | rfl | rfl | rfl | rfl | rfl | rfl | x1r
 ·refine x1' [9000] [] s1 ?_
  refine exW.call (zh0 ⟨#[103]⟩ vX) ?_
  refine zW0 ?_
  obtain ⟨c2, b2, i2, s2⟩ := zM0 bs hb c1 i1 8 (by omega)
  rcases b2 with _ | _
  ·refine x1' [9000] [] s2 ?_
   refine exW.fin (c2, ⟨name, (.mk 2 0 ⟨#[103]⟩ [vX]), vX, []⟩) ⟨i2, wO0 hn (zC0 (by decide) (wS0 _ _ (by decide) be0)) (zC0 (by decide) be0) (by simp) (by simp)⟩ ?_
   exact t0'
  ·refine x1' [9000] [] s2 ?_
   obtain ⟨c3, e, i3, ge, s3⟩ := wG0 bs hb c2 i2
   obtain ⟨ek, ⟨lk, ln, lz, la⟩, ⟨rk, rn, rz, ra⟩⟩ := e
   refine exv [9000] s3 ?_
   refine zW0 ?_
   refine exW.fin (c3, ⟨name, (.mk 2 0 ⟨#[103]⟩ [vX]), vX, [⟨ek, .mk lk ln lz la, .mk rk rn rz ra⟩]⟩) ⟨i3, wO0 hn (zC0 (by decide) (wS0 _ _ (by decide) be0)) (zC0 (by decide) be0) (by simp) (by simp only [List.forall_mem_cons]; exact ⟨ge, by simp⟩)⟩ ?_
   exact t0'
 ·refine x1' [9000] [] s1 ?_
  refine exW.call (qI0 ⟨#[89]⟩) ?_
  refine zW0 ?_
  refine exW.call (za0 ⟨#[102]⟩ vX vY) ?_
  refine zW0 ?_
  refine exW.call (qI0 ⟨#[89]⟩) ?_
  refine zW0 ?_
  refine exW.call (zy0 ⟨#[97]⟩ []) ?_
  refine zW0 ?_
  obtain ⟨c2, t2, i2, m2, s2⟩ := fj0 bs hb c1 i1 [vX, vY, (.mk 2 0 ⟨#[97]⟩ [])] (by simp) (by decide)
  have g2 : gT 10 t2 := sq1 m2 (by simp only [List.forall_mem_cons]; exact ⟨zC0 (by decide) be0, zC0 (by decide) dz1, zC0 (by decide) (jj0 _ (by decide)), by simp⟩)
  obtain ⟨t2k, t2n, t2s, t2a⟩ := t2
  refine exW.uv [9000] s2 (by simp [go_sem, encS, encI, Tm.enc, wordT]) (by simp [go_sem]) ?_
  refine zW0 ?_
  obtain ⟨c3, b3, i3, s3⟩ := zM0 bs hb c2 i2 8 (by omega)
  rcases b3 with _ | _
  ·refine x1' [9000] [] s3 ?_
   refine exW.fin (c3, ⟨name, (.mk 2 0 ⟨#[102]⟩ [vX, vY]), (.mk t2k t2n t2s t2a), []⟩) ⟨i3, wO0 hn (zC0 (by decide) (qD0 _ _ _ (by decide) be0 dz1)) (zC0 (by decide) g2) (by simp) (by simp)⟩ ?_
   exact t0'
  ·refine x1' [9000] [] s3 ?_
   obtain ⟨c4, e, i4, ge, s4⟩ := wG0 bs hb c3 i3
   obtain ⟨ek, ⟨lk, ln, lz, la⟩, ⟨rk, rn, rz, ra⟩⟩ := e
   refine exv [9000] s4 ?_
   refine zW0 ?_
   refine exW.fin (c4, ⟨name, (.mk 2 0 ⟨#[102]⟩ [vX, vY]), (.mk t2k t2n t2s t2a), [⟨ek, .mk lk ln lz la, .mk rk rn rz ra⟩]⟩) ⟨i4, wO0 hn (zC0 (by decide) (qD0 _ _ _ (by decide) be0 dz1)) (zC0 (by decide) g2) (by simp) (by simp only [List.forall_mem_cons]; exact ⟨ge, by simp⟩)⟩ ?_
   exact t0'
 ·refine x1' [9000] [] s1 ?_
  refine exW.call (za0 ⟨#[104]⟩ vX vN) ?_
  refine zW0 ?_
  refine exW.call (l3Word_sat 1) ?_
  refine zW0 ?_
  refine exW.call (za0 ⟨#[109, 105, 110, 117, 115]⟩ vN (wordT 1)) ?_
  refine zW0 ?_
  refine exW.call (za0 ⟨#[104]⟩ vX (.mk 2 0 ⟨#[109, 105, 110, 117, 115]⟩ [vN, (wordT 1)])) ?_
  refine zW0 ?_
  refine exW.call (l3Word_sat 0) ?_
  refine zW0 ?_
  obtain ⟨c2, b2, i2, s2⟩ := zM0 bs hb c1 i1 8 (by omega)
  rcases b2 with _ | _
  ·refine x1' [9000] [] s2 ?_
   refine exW.fin (c2, ⟨name, (.mk 2 0 ⟨#[104]⟩ [vX, vN]), (.mk 2 0 ⟨#[104]⟩ [vX, (.mk 2 0 ⟨#[109, 105, 110, 117, 115]⟩ [vN, (wordT 1)])]), [⟨3, wordT 0, vN⟩]⟩) ⟨i2, wO0 hn (zC0 (by decide) (qD0 _ _ _ (by decide) be0 tM0)) (zC0 (by decide) (qD0 _ _ _ (by decide) be0 (qD0 _ _ _ (by decide) tM0 (qf0 1 (by decide) (by decide))))) (by simp) (by simp only [List.forall_mem_cons]; exact ⟨dd0 (by decide) (de0 (wH0 _ (by decide) (by decide)) (qf0 0 (by decide) (by decide)) tM0), by simp⟩)⟩ ?_
   exact t0'
  ·refine x1' [9000] [] s2 ?_
   obtain ⟨c3, e, i3, ge, s3⟩ := wG0 bs hb c2 i2
   obtain ⟨ek, ⟨lk, ln, lz, la⟩, ⟨rk, rn, rz, ra⟩⟩ := e
   refine exv [9000] s3 ?_
   refine zW0 ?_
   refine exW.fin (c3, ⟨name, (.mk 2 0 ⟨#[104]⟩ [vX, vN]), (.mk 2 0 ⟨#[104]⟩ [vX, (.mk 2 0 ⟨#[109, 105, 110, 117, 115]⟩ [vN, (wordT 1)])]), [⟨3, wordT 0, vN⟩, ⟨ek, .mk lk ln lz la, .mk rk rn rz ra⟩]⟩) ⟨i3, wO0 hn (zC0 (by decide) (qD0 _ _ _ (by decide) be0 tM0)) (zC0 (by decide) (qD0 _ _ _ (by decide) be0 (qD0 _ _ _ (by decide) tM0 (qf0 1 (by decide) (by decide))))) (by simp) (by simp only [List.forall_mem_cons]; exact ⟨dd0 (by decide) (de0 (wH0 _ (by decide) (by decide)) (qf0 0 (by decide) (by decide)) tM0), ge, by simp⟩)⟩ ?_
   exact t0'
 ·refine x1' [9000] [] s1 ?_
  refine exW.call (l3Word_sat 0) ?_
  refine zW0 ?_
  refine exW.call (za0 ⟨#[104]⟩ vX (wordT 0)) ?_
  refine zW0 ?_
  obtain ⟨c2, b2, i2, s2⟩ := zM0 bs hb c1 i1 8 (by omega)
  rcases b2 with _ | _
  ·refine x1' [9000] [] s2 ?_
   refine exW.fin (c2, ⟨name, (.mk 2 0 ⟨#[104]⟩ [vX, (wordT 0)]), vX, []⟩) ⟨i2, wO0 hn (zC0 (by decide) (qD0 _ _ _ (by decide) be0 (qf0 0 (by decide) (by decide)))) (zC0 (by decide) be0) (by simp) (by simp)⟩ ?_
   exact t0'
  ·refine x1' [9000] [] s2 ?_
   obtain ⟨c3, e, i3, ge, s3⟩ := wG0 bs hb c2 i2
   obtain ⟨ek, ⟨lk, ln, lz, la⟩, ⟨rk, rn, rz, ra⟩⟩ := e
   refine exv [9000] s3 ?_
   refine zW0 ?_
   refine exW.fin (c3, ⟨name, (.mk 2 0 ⟨#[104]⟩ [vX, (wordT 0)]), vX, [⟨ek, .mk lk ln lz la, .mk rk rn rz ra⟩]⟩) ⟨i3, wO0 hn (zC0 (by decide) (qD0 _ _ _ (by decide) be0 (qf0 0 (by decide) (by decide)))) (zC0 (by decide) be0) (by simp) (by simp only [List.forall_mem_cons]; exact ⟨ge, by simp⟩)⟩ ?_
   exact t0'
 ·refine x1' [9000] [] s1 ?_
  refine exW.call (zh0 ⟨#[110, 117, 109]⟩ vN) ?_
  refine zW0 ?_
  refine exW.call (qI0 ⟨#[77]⟩) ?_
  refine zW0 ?_
  refine exW.call (zh0 ⟨#[110, 117, 109]⟩ vM) ?_
  refine zW0 ?_
  refine exW.call (za0 ⟨#[102]⟩ (.mk 2 0 ⟨#[110, 117, 109]⟩ [vN]) (.mk 2 0 ⟨#[110, 117, 109]⟩ [vM])) ?_
  refine zW0 ?_
  obtain ⟨c2, y2, i2, z2, s2⟩ := zL0 bs hb c1 i1 [⟨#[112, 108, 117, 115]⟩, ⟨#[116, 105, 109, 101, 115]⟩, ⟨#[109, 105, 110, 117, 115]⟩] (by simp) (by decide) (by decide)
  refine exv [9000] s2 ?_
  refine zW0 ?_
  refine exW.call (qI0 ⟨#[77]⟩) ?_
  refine zW0 ?_
  refine exW.call (za0 y2 vN vM) ?_
  refine zW0 ?_
  refine exW.call (zh0 ⟨#[110, 117, 109]⟩ (.mk 2 0 y2 [vN, vM])) ?_
  refine zW0 ?_
  obtain ⟨c3, b3, i3, s3⟩ := zM0 bs hb c2 i2 8 (by omega)
  rcases b3 with _ | _
  ·refine x1' [9000] [] s3 ?_
   refine exW.fin (c3, ⟨name, (.mk 2 0 ⟨#[102]⟩ [(.mk 2 0 ⟨#[110, 117, 109]⟩ [vN]), (.mk 2 0 ⟨#[110, 117, 109]⟩ [vM])]), (.mk 2 0 ⟨#[110, 117, 109]⟩ [(.mk 2 0 y2 [vN, vM])]), []⟩) ⟨i3, wO0 hn (zC0 (by decide) (qD0 _ _ _ (by decide) (wS0 _ _ (by decide) tM0) (wS0 _ _ (by decide) dE1))) (zC0 (by decide) (wS0 _ _ (by decide) (qD0 _ _ _ z2 tM0 dE1))) (by simp) (by simp)⟩ ?_
   exact t0'
  ·refine x1' [9000] [] s3 ?_
   obtain ⟨c4, e, i4, ge, s4⟩ := wG0 bs hb c3 i3
   obtain ⟨ek, ⟨lk, ln, lz, la⟩, ⟨rk, rn, rz, ra⟩⟩ := e
   refine exv [9000] s4 ?_
   refine zW0 ?_
   refine exW.fin (c4, ⟨name, (.mk 2 0 ⟨#[102]⟩ [(.mk 2 0 ⟨#[110, 117, 109]⟩ [vN]), (.mk 2 0 ⟨#[110, 117, 109]⟩ [vM])]), (.mk 2 0 ⟨#[110, 117, 109]⟩ [(.mk 2 0 y2 [vN, vM])]), [⟨ek, .mk lk ln lz la, .mk rk rn rz ra⟩]⟩) ⟨i4, wO0 hn (zC0 (by decide) (qD0 _ _ _ (by decide) (wS0 _ _ (by decide) tM0) (wS0 _ _ (by decide) dE1))) (zC0 (by decide) (wS0 _ _ (by decide) (qD0 _ _ _ z2 tM0 dE1))) (by simp) (by simp only [List.forall_mem_cons]; exact ⟨ge, by simp⟩)⟩ ?_
   exact t0'
 ·refine x1' [9000] [] s1 ?_
  refine exW.call (zh0 ⟨#[110, 117, 109]⟩ vN) ?_
  refine zW0 ?_
  refine exW.call (zh0 ⟨#[103]⟩ (.mk 2 0 ⟨#[110, 117, 109]⟩ [vN])) ?_
  refine zW0 ?_
  refine exW.call (zy0 ⟨#[98]⟩ []) ?_
  refine zW0 ?_
  refine exW.call (za0 ⟨#[104]⟩ (.mk 2 0 ⟨#[98]⟩ []) vN) ?_
  refine zW0 ?_
  obtain ⟨c2, b2, i2, s2⟩ := zM0 bs hb c1 i1 8 (by omega)
  rcases b2 with _ | _
  ·refine x1' [9000] [] s2 ?_
   refine exW.fin (c2, ⟨name, (.mk 2 0 ⟨#[103]⟩ [(.mk 2 0 ⟨#[110, 117, 109]⟩ [vN])]), (.mk 2 0 ⟨#[104]⟩ [(.mk 2 0 ⟨#[98]⟩ []), vN]), []⟩) ⟨i2, wO0 hn (zC0 (by decide) (wS0 _ _ (by decide) (wS0 _ _ (by decide) tM0))) (zC0 (by decide) (qD0 _ _ _ (by decide) (jj0 _ (by decide)) tM0)) (by simp) (by simp)⟩ ?_
   exact t0'
  ·refine x1' [9000] [] s2 ?_
   obtain ⟨c3, e, i3, ge, s3⟩ := wG0 bs hb c2 i2
   obtain ⟨ek, ⟨lk, ln, lz, la⟩, ⟨rk, rn, rz, ra⟩⟩ := e
   refine exv [9000] s3 ?_
   refine zW0 ?_
   refine exW.fin (c3, ⟨name, (.mk 2 0 ⟨#[103]⟩ [(.mk 2 0 ⟨#[110, 117, 109]⟩ [vN])]), (.mk 2 0 ⟨#[104]⟩ [(.mk 2 0 ⟨#[98]⟩ []), vN]), [⟨ek, .mk lk ln lz la, .mk rk rn rz ra⟩]⟩) ⟨i3, wO0 hn (zC0 (by decide) (wS0 _ _ (by decide) (wS0 _ _ (by decide) tM0))) (zC0 (by decide) (qD0 _ _ _ (by decide) (jj0 _ (by decide)) tM0)) (by simp) (by simp only [List.forall_mem_cons]; exact ⟨ge, by simp⟩)⟩ ?_
   exact t0'
 ·refine x1' [9000] [] s1 ?_
  refine exW.call (zy0 ⟨#[97]⟩ []) ?_
  refine zW0 ?_
  refine exW.call (zy0 ⟨#[98]⟩ []) ?_
  refine zW0 ?_
  refine exW.call (l3Word_sat 2) ?_
  refine zW0 ?_
  refine exW.call (zh0 ⟨#[110, 117, 109]⟩ (wordT 2)) ?_
  refine zW0 ?_
  obtain ⟨c2, t2, i2, m2, s2⟩ := fj0 bs hb c1 i1 [(.mk 2 0 ⟨#[98]⟩ []), (.mk 2 0 ⟨#[110, 117, 109]⟩ [(wordT 2)])] (by simp) (by decide)
  have g2 : gT 20 t2 := sq1 m2 (by simp only [List.forall_mem_cons]; exact ⟨zC0 (by decide) (jj0 _ (by decide)), zC0 (by decide) (wS0 _ _ (by decide) (qf0 2 (by decide) (by decide))), by simp⟩)
  obtain ⟨t2k, t2n, t2s, t2a⟩ := t2
  refine exW.loan [9000] [] s2 rfl (by simp [go_sem, encS, encI, Tm.enc, wordT]) ?_
  refine zW0 ?_
  obtain ⟨c3, b3, i3, s3⟩ := zM0 bs hb c2 i2 8 (by omega)
  rcases b3 with _ | _
  ·refine x1' [9000] [] s3 ?_
   refine exW.fin (c3, ⟨name, (.mk 2 0 ⟨#[97]⟩ []), (.mk t2k t2n t2s t2a), []⟩) ⟨i3, wO0 hn (zC0 (by decide) (jj0 _ (by decide))) (zC0 (by decide) g2) (by simp) (by simp)⟩ ?_
   exact t0'
  ·refine x1' [9000] [] s3 ?_
   obtain ⟨c4, e, i4, ge, s4⟩ := wG0 bs hb c3 i3
   obtain ⟨ek, ⟨lk, ln, lz, la⟩, ⟨rk, rn, rz, ra⟩⟩ := e
   refine exv [9000] s4 ?_
   refine zW0 ?_
   refine exW.fin (c4, ⟨name, (.mk 2 0 ⟨#[97]⟩ []), (.mk t2k t2n t2s t2a), [⟨ek, .mk lk ln lz la, .mk rk rn rz ra⟩]⟩) ⟨i4, wO0 hn (zC0 (by decide) (jj0 _ (by decide))) (zC0 (by decide) g2) (by simp) (by simp only [List.forall_mem_cons]; exact ⟨ge, by simp⟩)⟩ ?_
   exact t0'
 ·refine x1' [9000] [] s1 ?_
  refine exW.call (za0 ⟨#[102]⟩ vX vX) ?_
  refine zW0 ?_
  refine exW.call (zh0 ⟨#[103]⟩ vX) ?_
  refine zW0 ?_
  obtain ⟨c2, b2, i2, s2⟩ := zM0 bs hb c1 i1 8 (by omega)
  rcases b2 with _ | _
  ·refine x1' [9000] [] s2 ?_
   refine exW.fin (c2, ⟨name, (.mk 2 0 ⟨#[102]⟩ [vX, vX]), (.mk 2 0 ⟨#[103]⟩ [vX]), []⟩) ⟨i2, wO0 hn (zC0 (by decide) (qD0 _ _ _ (by decide) be0 be0)) (zC0 (by decide) (wS0 _ _ (by decide) be0)) (by simp) (by simp)⟩ ?_
   exact t0'
  ·refine x1' [9000] [] s2 ?_
   obtain ⟨c3, e, i3, ge, s3⟩ := wG0 bs hb c2 i2
   obtain ⟨ek, ⟨lk, ln, lz, la⟩, ⟨rk, rn, rz, ra⟩⟩ := e
   refine exv [9000] s3 ?_
   refine zW0 ?_
   refine exW.fin (c3, ⟨name, (.mk 2 0 ⟨#[102]⟩ [vX, vX]), (.mk 2 0 ⟨#[103]⟩ [vX]), [⟨ek, .mk lk ln lz la, .mk rk rn rz ra⟩]⟩) ⟨i3, wO0 hn (zC0 (by decide) (qD0 _ _ _ (by decide) be0 be0)) (zC0 (by decide) (wS0 _ _ (by decide) be0)) (by simp) (by simp only [List.forall_mem_cons]; exact ⟨ge, by simp⟩)⟩ ?_
   exact t0'
 ·have nex10 : (x1 == 0) = false := by simp only [beq_eq_false_iff_ne, ne_eq]; omega
  have nex11 : (x1 == 1) = false := by simp only [beq_eq_false_iff_ne, ne_eq]; omega
  have nex12 : (x1 == 2) = false := by simp only [beq_eq_false_iff_ne, ne_eq]; omega
  have nex13 : (x1 == 3) = false := by simp only [beq_eq_false_iff_ne, ne_eq]; omega
  have nex14 : (x1 == 4) = false := by simp only [beq_eq_false_iff_ne, ne_eq]; omega
  have nex15 : (x1 == 5) = false := by simp only [beq_eq_false_iff_ne, ne_eq]; omega
  have nex16 : (x1 == 6) = false := by simp only [beq_eq_false_iff_ne, ne_eq]; omega
  have nex17 : (x1 == 7) = false := by simp only [beq_eq_false_iff_ne, ne_eq]; omega
  refine exl [9000] [] s1 ?_
  refine bL1 ?_
  obtain ⟨c2, t2, i2, g2, s2⟩ := mC0 bs hb 3 (by omega) c1 i1 false
  obtain ⟨t2k, t2n, t2s, t2a⟩ := t2
  refine exl [9000] [] s2 ?_
  refine bL1 ?_
  obtain ⟨c3, t3, i3, g3, s3⟩ := mC0 bs hb 2 (by omega) c2 i2 true
  obtain ⟨t3k, t3n, t3s, t3a⟩ := t3
  refine exl [9000] [] s3 ?_
  refine bL1 ?_
  obtain ⟨c4, b4, i4, s4⟩ := zM0 bs hb c3 i3 8 (by omega)
  rcases b4 with _ | _
  ·refine exl [9000] [] s4 ?_
   refine bL1 ?_
   refine exW.fin (c4, ⟨name, (.mk t2k t2n t2s t2a), (.mk t3k t3n t3s t3a), []⟩) ⟨i4, wO0 hn (zC0 (by decide) g2) (zC0 (by decide) g3) (by simp) (by simp)⟩ ?_
   exact t0'
  ·refine exl [9000] [] s4 ?_
   refine bL1 ?_
   obtain ⟨c5, e, i5, ge, s5⟩ := wG0 bs hb c4 i4
   obtain ⟨ek, ⟨lk, ln, lz, la⟩, ⟨rk, rn, rz, ra⟩⟩ := e
   refine exv [9000] s5 ?_
   refine bL1 ?_
   refine exW.fin (c5, ⟨name, (.mk t2k t2n t2s t2a), (.mk t3k t3n t3s t3a), [⟨ek, .mk lk ln lz la, .mk rk rn rz ra⟩]⟩) ⟨i5, wO0 hn (zC0 (by decide) g2) (zC0 (by decide) g3) (by simp) (by simp only [List.forall_mem_cons]; exact ⟨ge, by simp⟩)⟩ ?_
   exact t0'
end Go.Ai
