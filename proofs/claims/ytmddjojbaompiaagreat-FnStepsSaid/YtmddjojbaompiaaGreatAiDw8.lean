/- Draws: guards, signatures. Written by mkdw6.py. -/
import Derived.Test.YtmddjojbaompiaaGreatAiDw5
import Derived.Test.YtmddjojbaompiaaGreatAiD1
set_option linter.unusedVariables false
set_option linter.unusedSimpArgs false
namespace Go.Ai
open Go.Proofs
set_option maxRecDepth 100000
def gG (B : Nat) (g : GGuard) : Prop := g.wf ∧ g.size ≤ B
theorem gG_mono {B B' : Nat} {g : GGuard} (h : B ≤ B') (k : gG B g) : gG B' g := ⟨k.1, Nat.le_trans k.2 h⟩
theorem g_guard {B1 B2 : Nat} {k : Int} {a b : Tm} (hk : (Lit.int .i64 k).wf = true) (ha : gT B1 a) (hb : gT B2 b) : gG (B1 + B2) ⟨k, a, b⟩ := by
 refine ⟨⟨hk, ha.1, hb.1⟩, ?_⟩
 have := ha.2; have := hb.2
 simp only [GGuard.size, szI]; omega
theorem l9Draw_ex (bs : List Int) (hb : okBs8 bs) (c : Cur) (hc : c.i ≤ bs.length) : ∃ c' g, c'.i ≤ bs.length ∧ gG 1000 g ∧ SatX Tryz.prog 152 [.one (.ptr 0 0)] [curB bs c] [curB bs c'] (aggV (GGuard.enc g)) := by
 obtain ⟨c1, b1, i1, s1⟩ := once_ex bs hb c hc 2 (by omega)
 refine ex2 (satX_ex [] tbOk mixed Tryz.func152 rfl rfl rfl (by decide +kernel) (by decide +kernel) (Nat.le_of_ble_eq_true rfl) (by simp [go_sem]) (by simp [go_sem]) (fun _ => by simp [go_sem]) (fun _ => by simp [go_sem]) (fun _ => by simp [go_sem]) (fun _ => rfl) ?_)
 simp -implicitDefEqProofs (disch := omega) only [go_sem]
 refine exW.loan [9000] [] s1 rfl (by simp [go_sem, encS, encI]) ?_
 simp -implicitDefEqProofs (disch := omega) only [go_sem]
 obtain ⟨c2, x2, i2, x2a, x2b, s2⟩ := below_ex bs hb c1 i1 3 (by omega)
 refine exW.loan [9000] [] s2 rfl (by simp [go_sem, encS, encI]) ?_
 simp -implicitDefEqProofs (disch := omega) only [go_sem]
 obtain ⟨c3, a, i3, ga, s3⟩ := l6Word_ex bs hb 3 (by omega) c2 i2 b1
 refine exW.loan [9000] [] s3 rfl (by simp [go_sem, encS, encI]) ?_
 simp -implicitDefEqProofs (disch := omega) only [go_sem]
 obtain ⟨c4, d, i4, gd, s4⟩ := l6Word_ex bs hb 2 (by omega) c3 i3 b1
 obtain ⟨ak, an, az, at_⟩ := a
 obtain ⟨dk, dn, dz, dt⟩ := d
 refine exW.loan [9000] [] s4 rfl (by simp [go_sem, encS, encI]) ?_
 simp -implicitDefEqProofs (disch := omega) only [go_sem, Tm.enc]
 obtain ⟨c5, b5, i5, s5⟩ := once_ex bs hb c4 i4 6 (by omega)
 rcases b5 with _ | _
 ·refine exW.loan [9000] [] s5 rfl (by simp [go_sem, encS, encI]) ?_
  simp -implicitDefEqProofs (disch := omega) only [go_sem, Tm.enc]
  refine exW.fin (c5, ⟨1 + x2, .mk ak an az at_, .mk dk dn dz dt⟩) ⟨i5, gG_mono (by decide) (g_guard (lit_small _ (by omega) (by omega)) ga gd)⟩ ?_
  exact ⟨[], by simp, rfl, ⟨rfl, trivial⟩, rfl⟩
 ·refine exW.loan [9000] [] s5 rfl (by simp [go_sem, encS, encI]) ?_
  simp -implicitDefEqProofs (disch := omega) only [go_sem, Tm.enc]
  obtain ⟨c6, a2, i6, ga2, s6⟩ := l6E_ex bs hb 2 (by omega) c5 i5 b1
  refine exW.loan [9000] [] s6 rfl (by simp [go_sem, encS, encI]) ?_
  simp -implicitDefEqProofs (disch := omega) only [go_sem, Tm.enc]
  obtain ⟨c7, d2, i7, gd2, s7⟩ := l6E_ex bs hb 2 (by omega) c6 i6 b1
  obtain ⟨a2k, a2n, a2s, a2t⟩ := a2
  obtain ⟨d2k, d2n, d2s, d2t⟩ := d2
  refine exW.loan [9000] [] s7 rfl (by simp [go_sem, encS, encI]) ?_
  simp -implicitDefEqProofs (disch := omega) only [go_sem, Tm.enc]
  refine exW.fin (c7, ⟨1 + x2, .mk a2k a2n a2s a2t, .mk d2k d2n d2s d2t⟩) ⟨i7, gG_mono (by decide) (g_guard (lit_small _ (by omega) (by omega)) ga2 gd2)⟩ ?_
  exact ⟨[], by simp, rfl, ⟨rfl, trivial⟩, rfl⟩
end Go.Ai
/- Draws: signatures. Written by mkdw7.py. -/
namespace Go.Ai
open Go.Proofs
set_option maxRecDepth 100000
abbrev bA : ByteArray := ⟨#[97]⟩
abbrev sRow0 : LB := .arr 9 1 [[sC ⟨#[101]⟩], [sC ⟨#[107]⟩]] false
abbrev oRows : List (List AC) := [[sC ⟨#[97]⟩, .nil, sC ⟨#[101]⟩], [sC ⟨#[98]⟩, .nil, sC ⟨#[101]⟩], [sC ⟨#[103]⟩, .c (.sl [[.v (.string ⟨#[101]⟩)]]), sC ⟨#[101]⟩], [sC ⟨#[102]⟩, .c (.sl [[.v (.string ⟨#[101]⟩)], [.v (.string ⟨#[101]⟩)]]), sC ⟨#[101]⟩],
 [sC ⟨#[104]⟩, .c (.sl [[.v (.string ⟨#[101]⟩)], [.v (.string ⟨#[119, 111, 114, 100]⟩)]]), sC ⟨#[101]⟩], [sC ⟨#[110, 117, 109]⟩, .c (.sl [[.v (.string ⟨#[119, 111, 114, 100]⟩)]]), sC ⟨#[101]⟩], [sC ⟨#[116, 111, 112]⟩, .c (.sl [[.v (.string ⟨#[101]⟩)]]), sC ⟨#[107]⟩]]
abbrev oRow0 : LB := .arr 90 3 oRows false
theorem rep7 {α : Type} (x : α) : List.replicate 7 x = [x, x, x, x, x, x, x] := rfl
theorem l6Base_x : SatX Tryz.prog 155 [] [] [sRow0, oRow0] (.agg [.own 0 2, .own 1 7]) := by
 refine satX_of_awp tbOk Tryz.func155 rfl rfl rfl (by decide +kernel) (Nat.le_of_ble_eq_true rfl) (by simp [go_sem]) (by simp [go_sem]) (by simp [go_sem, noD, isD]) (by simp [go_sem]) (by simp [go_sem]) rfl ?_
 refine awp_cut [] tbOk mixed (by decide +kernel) ?_
 simp -implicitDefEqProofs (disch := omega) only [go_sem]
 refine awp_cut [] tbOk mixed (by decide +kernel) ?_
 simp -implicitDefEqProofs (maxSteps := 3000000) (disch := omega) only [go_sem, rep7, List.flatten_cons, List.flatten_nil, List.cons_append, List.nil_append, List.append_nil, List.drop_succ_cons, List.drop_zero, List.take_succ_cons, List.take_zero, List.length_cons, List.length_nil, Option.map_some]
 refine AWP.wk (Wk.trans (wk_rowData (c := 1) (T := 4) (k := 1) (e' := 9) (sz' := 1) (rows1 := [[sC ⟨#[101]⟩]]) (fz1 := false) (y := [[.v (.string ⟨#[101]⟩)]]) (l := 14) (i := 2) (by simp only [lookB, frzB]; rfl) (by decide) (by rfl) (by simp [lookB, frzB]) rfl (by simp [unN]) (by decide)) <|
  Wk.trans (wk_rowData (c := 1) (T := 6) (k := 2) (e' := 9) (sz' := 1) (rows1 := [[sC ⟨#[101]⟩], [sC ⟨#[101]⟩]]) (fz1 := false) (y := [[.v (.string ⟨#[101]⟩)], [.v (.string ⟨#[101]⟩)]]) (l := 14) (i := 3) (by simp only [lookB, frzB]; rfl) (by decide) (by rfl) (by simp [lookB, frzB]) rfl (by simp [unN]) (by decide)) <|
  Wk.trans (wk_rowData (c := 1) (T := 8) (k := 2) (e' := 9) (sz' := 1) (rows1 := [[sC ⟨#[101]⟩], [sC ⟨#[119, 111, 114, 100]⟩]]) (fz1 := false) (y := [[.v (.string ⟨#[101]⟩)], [.v (.string ⟨#[119, 111, 114, 100]⟩)]]) (l := 14) (i := 4) (by simp only [lookB, frzB]; rfl) (by decide) (by rfl) (by simp [lookB, frzB]) rfl (by simp [unN]) (by decide)) <|
  Wk.trans (wk_rowData (c := 1) (T := 10) (k := 1) (e' := 9) (sz' := 1) (rows1 := [[sC ⟨#[119, 111, 114, 100]⟩]]) (fz1 := false) (y := [[.v (.string ⟨#[119, 111, 114, 100]⟩)]]) (l := 14) (i := 5) (by simp only [lookB, frzB]; rfl) (by decide) (by rfl) (by simp [lookB, frzB]) rfl (by simp [unN]) (by decide)) <|
  Wk.trans (wk_rowData (c := 1) (T := 12) (k := 1) (e' := 9) (sz' := 1) (rows1 := [[sC ⟨#[101]⟩]]) (fz1 := false) (y := [[.v (.string ⟨#[101]⟩)]]) (l := 14) (i := 6) (by simp only [lookB, frzB]; rfl) (by decide) (by rfl) (by simp [lookB, frzB]) rfl (by simp [unN]) (by decide)) <|
  le_mk (L' := [(0, .one (.ptr 0 0))]) (B' := [(0, .var [.own 1 2, .own 14 7]), (14, oRow0), (1, sRow0)]) (by simp [go_sem]) (by simp [go_sem, frzB, lookB])) ?_
 refine codeV_sound [] tbOk mixed _ _ _ (by decide +kernel) ?_
 simp -implicitDefEqProofs (disch := omega) only [go_sem]
 exact ⟨[1, 14], by simp, rfl, by simp [go_sem], by simp [go_sem]⟩
def gS (B : Nat) (s : GSignature) : Prop := s.wf ∧ s.size ≤ B
def baseO : List GOp := [⟨⟨#[97]⟩, [], ⟨#[101]⟩⟩, ⟨⟨#[98]⟩, [], ⟨#[101]⟩⟩, ⟨⟨#[103]⟩, [⟨#[101]⟩], ⟨#[101]⟩⟩, ⟨⟨#[102]⟩, [⟨#[101]⟩, ⟨#[101]⟩], ⟨#[101]⟩⟩, ⟨⟨#[104]⟩, [⟨#[101]⟩, ⟨#[119, 111, 114, 100]⟩], ⟨#[101]⟩⟩, ⟨⟨#[110, 117, 109]⟩, [⟨#[119, 111, 114, 100]⟩], ⟨#[101]⟩⟩, ⟨⟨#[116, 111, 112]⟩, [⟨#[101]⟩], ⟨#[107]⟩⟩]
def baseSo : List ByteArray := [⟨#[101]⟩, ⟨#[107]⟩]
theorem wfS_small {s : ByteArray} (h : s.size ≤ 8) : wfS s := by
 have : (8 : Nat) ≤ maxLen := by decide
 unfold wfS; omega
theorem wfL_nil {α : Type} {p : α → Prop} : wfL p [] := ⟨Nat.zero_le _, fun _ h => by simp at h⟩
theorem wfL_small {α : Type} {p : α → Prop} {xs : List α} (hl : xs.length ≤ 100000) (h : ∀ x, x ∈ xs → p x) : wfL p xs := ⟨Nat.le_trans hl (by decide), h⟩
def gO (x : GOp) : Prop := x.na.size ≤ 8 ∧ x.ar.length ≤ 4 ∧ (∀ s, s ∈ x.ar → s.size ≤ 8) ∧ x.re.size ≤ 8
theorem gO_wf {x : GOp} (h : gO x) : x.wf := ⟨wfS_small h.1, wfL_small (Nat.le_trans h.2.1 (by decide)) fun s hs => wfS_small (h.2.2.1 s hs), wfS_small h.2.2.2⟩
theorem szLm {α : Type} {sz : α → Nat} {xs : List α} {m : Nat} (h : ∀ x, x ∈ xs → sz x ≤ m) : szL sz xs ≤ xs.length * (m + 1) := by
 induction xs with
 | nil => simp [szL]
 | cons a xs ih =>
  have h1 := ih fun x hx => h x (List.mem_cons_of_mem _ hx)
  have h2 := h a (List.mem_cons_self ..)
  simp only [szL, List.length_cons, Nat.succ_mul]
  omega
theorem gO_size {x : GOp} (h : gO x) : x.size ≤ 52 := by
 obtain ⟨h1, h2, h3, h4⟩ := h
 have h5 := szLm (sz := szS) (m := 8) h3
 have : x.ar.length * 9 ≤ 4 * 9 := Nat.mul_le_mul_right _ h2
 simp only [GOp.size, szS] at *
 omega
theorem gS_mk {so : List ByteArray} {op : List GOp} (h1 : so.length ≤ 3) (h2 : ∀ s, s ∈ so → s.size ≤ 8) (h3 : op.length ≤ 8) (h4 : ∀ x, x ∈ op → gO x) : gS 1000 ⟨so, op⟩ := by
 refine ⟨⟨wfL_small (Nat.le_trans h1 (by decide)) fun s hs => wfS_small (h2 s hs), wfL_small (Nat.le_trans h3 (by decide)) fun x hx => gO_wf (h4 x hx)⟩, ?_⟩
 have h5 := szLm (sz := szS) (m := 8) h2
 have h6 := szLm (sz := GOp.size) (m := 52) fun x hx => gO_size (h4 x hx)
 have : so.length * 9 ≤ 3 * 9 := Nat.mul_le_mul_right _ h1
 have : op.length * 53 ≤ 8 * 53 := Nat.mul_le_mul_right _ h3
 simp only [GSignature.size] at *
 omega
instance (x : GOp) : Decidable (gO x) := by unfold gO; infer_instance
theorem baseSo_ok : ∀ s, s ∈ baseSo → s.size ≤ 8 := by decide
theorem baseO_ok : ∀ x, x ∈ baseO → gO x := by decide
theorem gS_base : gS 1000 ⟨baseSo, baseO⟩ := gS_mk (by decide) baseSo_ok (by decide) baseO_ok
theorem gS_so {y : ByteArray} (h : y.size ≤ 8) : gS 1000 ⟨baseSo ++ [y], baseO⟩ := gS_mk (by simp [baseSo]) (fun s hs => by
 rcases List.mem_append.1 hs with hs | hs
 ·exact baseSo_ok s hs
 ·rw [List.mem_singleton.1 hs]; exact h) (by decide) baseO_ok
theorem gS_op {y v : ByteArray} {ar : List ByteArray} (h : y.size ≤ 8) (h1 : ar.length ≤ 4) (h2 : ∀ s, s ∈ ar → s.size ≤ 8) (h3 : v.size ≤ 8) : gS 1000 ⟨baseSo, baseO ++ [⟨y, ar, v⟩]⟩ := gS_mk (by decide) baseSo_ok (by simp [baseO]) (fun x hx => by
 rcases List.mem_append.1 hx with hx | hx
 ·exact baseO_ok x hx
 ·rw [List.mem_singleton.1 hx]; exact ⟨h, h1, h2, h3⟩)
theorem gS_0 : gS 1000 ⟨baseSo, [⟨⟨#[97]⟩, [⟨#[122, 122]⟩], ⟨#[101]⟩⟩] ++ baseO.drop 1⟩ := gS_mk (by decide) baseSo_ok (by decide) (by decide)
theorem l6Bent_ex (bs : List Int) (hb : okBs8 bs) (c : Cur) (hc : c.i ≤ bs.length) : ∃ c' s, c'.i ≤ bs.length ∧ gS 1000 s ∧ SatX Tryz.prog 85 [.one (.ptr 0 0)] [curB bs c] [curB bs c'] (aggV (GSignature.enc s)) := by
 obtain ⟨c1, x1, i1, x1a, x1b, s1⟩ := below_ex bs hb c hc 10 (by omega)
 rcases (by omega : x1 = 0 ∨ x1 = 1 ∨ x1 = 2 ∨ 3 ≤ x1) with rfl | rfl | rfl | x1r
 ·refine ex2 (satX_ex [(4, ([⟨0, 4, [3], [11, 12]⟩, ⟨1, 4, [9], [11, 12]⟩], [4])), (6, ([⟨0, 4, [3], [21, 22]⟩, ⟨1, 4, [19], [21, 22]⟩, ⟨4, 5, [21, 22], []⟩, ⟨0, 7, [3], [25]⟩, ⟨1, 7, [19], [25]⟩, ⟨5, 7, [], [25]⟩, ⟨0, 8, [3], [24, 26]⟩, ⟨1, 8, [19], [24, 26]⟩, ⟨4, 10, [21, 22], []⟩, ⟨7, 10, [25], []⟩, ⟨8, 10, [24, 26], []⟩, ⟨0, 11, [3], [28, 29]⟩, ⟨1, 11, [19], [28, 29]⟩, ⟨5, 11, [], [28, 29]⟩, ⟨8, 11, [24, 26], [28, 29]⟩], [4, 7, 8, 11]))] tbOk mixed Tryz.func85 rfl rfl rfl (by decide +kernel) (by decide +kernel) (Nat.le_of_ble_eq_true rfl) (by simp [go_sem]) (by simp [go_sem]) (fun _ => by simp [go_sem]) (fun _ => by simp [go_sem]) (fun _ => by simp [go_sem]) (fun _ => rfl) ?_)
  simp -implicitDefEqProofs (disch := omega) only [go_sem]
  refine exW.con [] [9101, 9102] rfl l6Base_x (by simp [go_sem]) ?_
  simp -implicitDefEqProofs (disch := omega) only [go_sem]
  refine exW.loan [9000] [] s1 rfl (by simp [go_sem, encS, encI]) ?_
  simp -implicitDefEqProofs (disch := omega) only [go_sem]
  obtain ⟨c2, y2, i2, z2, s2⟩ := pick8_ex bs hb c1 i1 [⟨#[101]⟩, ⟨#[119, 111, 114, 100]⟩, ⟨#[88]⟩, ⟨#[112]⟩] (by simp) (by decide) (by decide)
  refine exW.uv [9000] s2 (by simp [go_sem, encS, encI]) (by simp [go_sem]) ?_
  simp -implicitDefEqProofs (disch := omega) only [go_sem]
  refine exW.fin (c2, ⟨baseSo ++ [y2], baseO⟩) ⟨i2, gS_so z2⟩ ?_
  exact ⟨by simp, fun _ => ⟨[], by simp, rfl, ⟨rfl, trivial⟩, rfl, by decide⟩⟩
 ·refine ex2 (satX_ex [(4, ([⟨0, 4, [3], [11, 12]⟩, ⟨1, 4, [9], [11, 12]⟩], [4])), (6, ([⟨0, 4, [3], [21, 22]⟩, ⟨1, 4, [19], [21, 22]⟩, ⟨4, 5, [21, 22], []⟩, ⟨0, 7, [3], [25]⟩, ⟨1, 7, [19], [25]⟩, ⟨5, 7, [], [25]⟩, ⟨0, 8, [3], [24, 26]⟩, ⟨1, 8, [19], [24, 26]⟩, ⟨4, 10, [21, 22], []⟩, ⟨7, 10, [25], []⟩, ⟨8, 10, [24, 26], []⟩, ⟨0, 11, [3], [28, 29]⟩, ⟨1, 11, [19], [28, 29]⟩, ⟨5, 11, [], [28, 29]⟩, ⟨8, 11, [24, 26], [28, 29]⟩], [4, 7, 8, 11]))] tbOk mixed Tryz.func85 rfl rfl rfl (by decide +kernel) (by decide +kernel) (Nat.le_of_ble_eq_true rfl) (by simp [go_sem]) (by simp [go_sem]) (fun _ => by simp [go_sem]) (fun _ => by simp [go_sem]) (fun _ => by simp [go_sem]) (fun _ => rfl) ?_)
  simp -implicitDefEqProofs (disch := omega) only [go_sem]
  refine exW.con [] [9101, 9102] rfl l6Base_x (by simp [go_sem]) ?_
  simp -implicitDefEqProofs (disch := omega) only [go_sem]
  refine exW.loan [9000] [] s1 rfl (by simp [go_sem, encS, encI]) ?_
  simp -implicitDefEqProofs (disch := omega) only [go_sem]
  obtain ⟨c2, y2, i2, z2, s2⟩ := pick8_ex bs hb c1 i1 [⟨#[97]⟩, ⟨#[112, 108, 117, 115]⟩, ⟨#[110, 101, 119]⟩] (by simp) (by decide) (by decide)
  refine exW.uv [9000] s2 (by simp [go_sem, encS, encI]) (by simp [go_sem]) ?_
  simp -implicitDefEqProofs (disch := omega) only [go_sem]
  obtain ⟨c3, x3, i3, x3a, x3b, s3⟩ := below_ex bs hb c2 i2 5 (by omega)
  rcases (by omega : x3 = 0 ∨ x3 = 1 ∨ x3 = 2 ∨ x3 = 3 ∨ x3 = 4) with rfl | rfl | rfl | rfl | rfl
  ·refine exW.uv [9000] s3 (by simp [go_sem, encS, encI]) (by simp [go_sem]) ?_
   simp -implicitDefEqProofs (disch := omega) only [go_sem]
   obtain ⟨c4, y4, i4, z4, s4⟩ := pick8_ex bs hb c3 i3 [⟨#[101]⟩, ⟨#[122, 122]⟩] (by simp) (by decide) (by decide)
   refine exW.and (by simp) ?_
   refine exW.uv [9000] s4 (by simp [go_sem, encS, encI]) (by simp [go_sem]) ?_
   simp -implicitDefEqProofs (disch := omega) only [go_sem]
   refine exW.fin (c4, ⟨baseSo, baseO ++ [⟨y2, [], y4⟩]⟩) ⟨i4, gS_op z2 (by simp) (by decide) z4⟩ ?_
   exact ⟨by simp, fun _ => ⟨[], by simp, rfl, ⟨rfl, trivial⟩, rfl, by decide⟩⟩
  ·refine exW.uv [9000] s3 (by simp [go_sem, encS, encI]) (by simp [go_sem]) ?_
   simp -implicitDefEqProofs (disch := omega) only [go_sem]
   obtain ⟨c4, y4, i4, z4, s4⟩ := pick8_ex bs hb c3 i3 [⟨#[101]⟩, ⟨#[122, 122]⟩] (by simp) (by decide) (by decide)
   refine exW.and (by simp) ?_
   refine exW.uv [9000] s4 (by simp [go_sem, encS, encI]) (by simp [go_sem]) ?_
   simp -implicitDefEqProofs (disch := omega) only [go_sem]
   refine exW.fin (c4, ⟨baseSo, baseO ++ [⟨y2, [⟨#[101]⟩], y4⟩]⟩) ⟨i4, gS_op z2 (by simp) (by decide) z4⟩ ?_
   exact ⟨by simp, fun _ => ⟨[], by simp, rfl, ⟨rfl, trivial⟩, rfl, by decide⟩⟩
  ·refine exW.uv [9000] s3 (by simp [go_sem, encS, encI]) (by simp [go_sem]) ?_
   simp -implicitDefEqProofs (disch := omega) only [go_sem]
   obtain ⟨c4, y4, i4, z4, s4⟩ := pick8_ex bs hb c3 i3 [⟨#[101]⟩, ⟨#[122, 122]⟩] (by simp) (by decide) (by decide)
   refine exW.and (by simp) ?_
   refine exW.uv [9000] s4 (by simp [go_sem, encS, encI]) (by simp [go_sem]) ?_
   simp -implicitDefEqProofs (disch := omega) only [go_sem]
   refine exW.fin (c4, ⟨baseSo, baseO ++ [⟨y2, [⟨#[101]⟩, ⟨#[101]⟩], y4⟩]⟩) ⟨i4, gS_op z2 (by simp) (by decide) z4⟩ ?_
   exact ⟨by simp, fun _ => ⟨[], by simp, rfl, ⟨rfl, trivial⟩, rfl, by decide⟩⟩
  ·refine exW.uv [9000] s3 (by simp [go_sem, encS, encI]) (by simp [go_sem]) ?_
   simp -implicitDefEqProofs (disch := omega) only [go_sem]
   obtain ⟨c4, y4, i4, z4, s4⟩ := pick8_ex bs hb c3 i3 [⟨#[101]⟩, ⟨#[122, 122]⟩] (by simp) (by decide) (by decide)
   refine exW.and (by simp) ?_
   refine exW.uv [9000] s4 (by simp [go_sem, encS, encI]) (by simp [go_sem]) ?_
   simp -implicitDefEqProofs (disch := omega) only [go_sem]
   refine exW.fin (c4, ⟨baseSo, baseO ++ [⟨y2, [⟨#[101]⟩, ⟨#[101]⟩, ⟨#[101]⟩], y4⟩]⟩) ⟨i4, gS_op z2 (by simp) (by decide) z4⟩ ?_
   exact ⟨by simp, fun _ => ⟨[], by simp, rfl, ⟨rfl, trivial⟩, rfl, by decide⟩⟩
  ·refine exW.uv [9000] s3 (by simp [go_sem, encS, encI]) (by simp [go_sem]) ?_
   simp -implicitDefEqProofs (disch := omega) only [go_sem]
   obtain ⟨c4, y4, i4, z4, s4⟩ := pick8_ex bs hb c3 i3 [⟨#[101]⟩, ⟨#[122, 122]⟩] (by simp) (by decide) (by decide)
   refine exW.and (by simp) ?_
   refine exW.uv [9000] s4 (by simp [go_sem, encS, encI]) (by simp [go_sem]) ?_
   simp -implicitDefEqProofs (disch := omega) only [go_sem]
   refine exW.fin (c4, ⟨baseSo, baseO ++ [⟨y2, [⟨#[101]⟩, ⟨#[101]⟩, ⟨#[101]⟩, ⟨#[101]⟩], y4⟩]⟩) ⟨i4, gS_op z2 (by simp) (by decide) z4⟩ ?_
   exact ⟨by simp, fun _ => ⟨[], by simp, rfl, ⟨rfl, trivial⟩, rfl, by decide⟩⟩
 ·refine ⟨c1, ⟨baseSo, [⟨⟨#[97]⟩, [⟨#[122, 122]⟩], ⟨#[101]⟩⟩] ++ baseO.drop 1⟩, i1, gS_0, ?_⟩
  refine satX_of_awp tbOk Tryz.func85 rfl rfl rfl (by decide +kernel) (Nat.le_of_ble_eq_true rfl) (by simp [go_sem]) (by simp [go_sem]) (by simp [go_sem, noD, isD]) (by simp [go_sem]) (by simp [go_sem]) rfl ?_
  refine awp_cut [] tbOk mixed (by decide +kernel) ?_
  simp -implicitDefEqProofs (disch := omega) only [go_sem]
  refine awp_cut [] tbOk mixed (by decide +kernel) ?_
  simp -implicitDefEqProofs (disch := omega) only [go_sem]
  refine CallK.con [] [9101, 9102] rfl l6Base_x (by simp [go_sem]) ?_
  simp -implicitDefEqProofs (disch := omega) only [go_sem]
  refine awp_cut [] tbOk mixed (by decide +kernel) ?_
  simp -implicitDefEqProofs (disch := omega) only [go_sem]
  refine LoanK.con [9000] [] s1 rfl (by simp [go_sem, encS, encI]) ?_
  simp -implicitDefEqProofs (disch := omega) only [go_sem]
  refine ⟨by decide, fun _ => ⟨by simp, fun _ => ?_⟩⟩
  refine AWP.wk (wk_rowData (c := 1) (T := 39) (k := 1) (e' := 9) (sz' := 1) (rows1 := [[sC ⟨#[122, 122]⟩]]) (fz1 := false) (y := [[.v (.string ⟨#[122, 122]⟩)]]) (l := 9102) (i := 0) (by simp only [lookB, frzB]; rfl) (by decide) (by rfl) (by simp [lookB, frzB]) rfl (by simp [unN]) (by decide)) ?_
  refine codeV_sound [] tbOk mixed _ _ _ (by decide +kernel) ?_
  simp -implicitDefEqProofs (disch := omega) only [go_sem]
  exact ⟨[], by simp, rfl, trivial, rfl, by decide⟩
 ·have nex10 : (x1 == 0) = false := by simp only [beq_eq_false_iff_ne, ne_eq]; omega
  have nex11 : (x1 == 1) = false := by simp only [beq_eq_false_iff_ne, ne_eq]; omega
  have nex12 : (x1 == 2) = false := by simp only [beq_eq_false_iff_ne, ne_eq]; omega
  refine ex2 (satX_ex [(4, ([⟨0, 4, [3], [11, 12]⟩, ⟨1, 4, [9], [11, 12]⟩], [4])), (6, ([⟨0, 4, [3], [21, 22]⟩, ⟨1, 4, [19], [21, 22]⟩, ⟨4, 5, [21, 22], []⟩, ⟨0, 7, [3], [25]⟩, ⟨1, 7, [19], [25]⟩, ⟨5, 7, [], [25]⟩, ⟨0, 8, [3], [24, 26]⟩, ⟨1, 8, [19], [24, 26]⟩, ⟨4, 10, [21, 22], []⟩, ⟨7, 10, [25], []⟩, ⟨8, 10, [24, 26], []⟩, ⟨0, 11, [3], [28, 29]⟩, ⟨1, 11, [19], [28, 29]⟩, ⟨5, 11, [], [28, 29]⟩, ⟨8, 11, [24, 26], [28, 29]⟩], [4, 7, 8, 11]))] tbOk mixed Tryz.func85 rfl rfl rfl (by decide +kernel) (by decide +kernel) (Nat.le_of_ble_eq_true rfl) (by simp [go_sem]) (by simp [go_sem]) (fun _ => by simp [go_sem]) (fun _ => by simp [go_sem]) (fun _ => by simp [go_sem]) (fun _ => rfl) ?_)
  simp -implicitDefEqProofs (disch := omega) only [go_sem]
  refine exW.con [] [9101, 9102] rfl l6Base_x (by simp [go_sem]) ?_
  simp -implicitDefEqProofs (disch := omega) only [go_sem, nex10, nex11, nex12]
  refine exW.loan [9000] [] s1 rfl (by simp [go_sem, encS, encI]) ?_
  simp -implicitDefEqProofs (disch := omega) only [go_sem, nex10, nex11, nex12]
  refine exW.fin (c1, ⟨baseSo, baseO⟩) ⟨i1, gS_base⟩ ?_
  exact ⟨[], by simp, rfl, ⟨rfl, trivial⟩, rfl, by decide⟩
end Go.Ai
/- Draws: rules. Written by mkdw8.py. -/
namespace Go.Ai
open Go.Proofs
set_option maxRecDepth 100000
attribute [go_sem] Tm.enc encI wordT GGuard.enc
def gR (B : Nat) (r : GRule) : Prop := r.wf ∧ r.size ≤ B
theorem g_rule {na : ByteArray} {le ri : Tm} {gu : List GGuard} (h1 : na.size ≤ 100) (h2 : gT 500 le) (h3 : gT 500 ri) (h4 : gu.length ≤ 2) (h5 : ∀ g, g ∈ gu → gG 1000 g) : gR 4000 ⟨na, le, ri, gu⟩ := by
 refine ⟨⟨Nat.le_trans h1 (by decide), h2.1, h3.1, wfL_small (Nat.le_trans h4 (by decide)) fun g hg => (h5 g hg).1⟩, ?_⟩
 have h6 := szLm (sz := GGuard.size) (m := 1000) fun x hx => (h5 x hx).2
 have : gu.length * 1001 ≤ 2 * 1001 := Nat.mul_le_mul_right _ h4
 have := h2.2
 have := h3.2
 simp only [GRule.size, szS] at *
 omega
abbrev vX : Tm := .mk 1 0 ⟨#[88]⟩ []
abbrev vY : Tm := .mk 1 0 ⟨#[89]⟩ []
abbrev vN : Tm := .mk 1 0 ⟨#[78]⟩ []
abbrev vM : Tm := .mk 1 0 ⟨#[77]⟩ []
theorem g_vX : gT 10 vX := g_leaf _ _ _ (by decide) (by decide) (by decide)
theorem g_vY : gT 10 vY := g_leaf _ _ _ (by decide) (by decide) (by decide)
theorem g_vN : gT 10 vN := g_leaf _ _ _ (by decide) (by decide) (by decide)
theorem g_vM : gT 10 vM := g_leaf _ _ _ (by decide) (by decide) (by decide)
theorem g_of {B : Nat} {xs : List Tm} {t : Tm} (h : t ∈ xs) (hx : ∀ u, u ∈ xs → gT B u) : gT B t := hx t h
theorem l10Rule_ex (bs : List Int) (hb : okBs8 bs) (c : Cur) (hc : c.i ≤ bs.length) (name : ByteArray) (hn : name.size ≤ 100) : ∃ c' r, c'.i ≤ bs.length ∧ gR 4000 r ∧ SatX Tryz.prog 81 [.one (.ptr 0 0), strV name] [curB bs c] [curB bs c'] (aggV (GRule.enc r)) := by
 refine ex2 (satX_ex [(12, ([], [6])), (22, ([⟨2, 3, [74, 75], [6]⟩], [2])), (33, ([⟨0, 3, [7], [119]⟩, ⟨1, 3, [117], [119]⟩], [3]))] tbOk mixed Tryz.func81 rfl rfl rfl (by decide +kernel) (by decide +kernel) (Nat.le_of_ble_eq_true rfl) (by simp [go_sem]) (by simp [go_sem]) (fun _ => by simp [go_sem]) (fun _ => by simp [go_sem]) (fun _ => by simp [go_sem]) (fun _ => rfl) ?_)
 simp -implicitDefEqProofs (disch := omega) only [go_sem]
 refine exW.call (l3Var_sat ⟨#[88]⟩) ?_
 simp -implicitDefEqProofs (disch := omega) only [go_sem]
 refine exW.call (l3Var_sat ⟨#[78]⟩) ?_
 simp -implicitDefEqProofs (disch := omega) only [go_sem]
 obtain ⟨c1, x1, i1, x1a, x1b, s1⟩ := below_ex bs hb c hc 9 (by omega)
 rcases (by omega : x1 = 0 ∨ x1 = 1 ∨ x1 = 2 ∨ x1 = 3 ∨ x1 = 4 ∨ x1 = 5 ∨ x1 = 6 ∨ x1 = 7 ∨ 8 ≤ x1) with rfl | rfl | rfl | rfl | rfl | rfl | rfl | rfl | x1r
 ·refine exW.loan [9000] [] s1 rfl (by simp [go_sem, encS, encI]) ?_
  simp -implicitDefEqProofs (disch := omega) only [go_sem]
  refine exW.call (l3One_sat ⟨#[103]⟩ vX) ?_
  simp -implicitDefEqProofs (disch := omega) only [go_sem]
  obtain ⟨c2, b2, i2, s2⟩ := once_ex bs hb c1 i1 8 (by omega)
  rcases b2 with _ | _
  ·refine exW.loan [9000] [] s2 rfl (by simp [go_sem, encS, encI]) ?_
   simp -implicitDefEqProofs (disch := omega) only [go_sem]
   refine exW.fin (c2, ⟨name, (.mk 2 0 ⟨#[103]⟩ [vX]), vX, []⟩) ⟨i2, g_rule hn (gT_mono (by decide) (g_one _ _ (by decide) g_vX)) (gT_mono (by decide) g_vX) (by simp) (by simp)⟩ ?_
   first | exact ⟨[], by simp, rfl, ⟨rfl, trivial⟩, rfl⟩ | exact ⟨[], by simp, rfl, ⟨rfl, trivial⟩, rfl, by decide⟩ | exact ⟨by simp, fun _ => ⟨[], by simp, rfl, ⟨rfl, trivial⟩, rfl⟩⟩ | exact ⟨by simp, fun _ => ⟨[], by simp, rfl, ⟨rfl, trivial⟩, rfl, by decide⟩⟩
  ·refine exW.loan [9000] [] s2 rfl (by simp [go_sem, encS, encI]) ?_
   simp -implicitDefEqProofs (disch := omega) only [go_sem]
   obtain ⟨c3, e, i3, ge, s3⟩ := l9Draw_ex bs hb c2 i2
   obtain ⟨ek, ⟨lk, ln, lz, la⟩, ⟨rk, rn, rz, ra⟩⟩ := e
   refine exW.uv [9000] s3 (by simp [go_sem, encS, encI]) (by simp [go_sem]) ?_
   simp -implicitDefEqProofs (disch := omega) only [go_sem]
   refine exW.fin (c3, ⟨name, (.mk 2 0 ⟨#[103]⟩ [vX]), vX, [⟨ek, .mk lk ln lz la, .mk rk rn rz ra⟩]⟩) ⟨i3, g_rule hn (gT_mono (by decide) (g_one _ _ (by decide) g_vX)) (gT_mono (by decide) g_vX) (by simp) (by simp only [List.forall_mem_cons]; exact ⟨ge, by simp⟩)⟩ ?_
   first | exact ⟨[], by simp, rfl, ⟨rfl, trivial⟩, rfl⟩ | exact ⟨[], by simp, rfl, ⟨rfl, trivial⟩, rfl, by decide⟩ | exact ⟨by simp, fun _ => ⟨[], by simp, rfl, ⟨rfl, trivial⟩, rfl⟩⟩ | exact ⟨by simp, fun _ => ⟨[], by simp, rfl, ⟨rfl, trivial⟩, rfl, by decide⟩⟩
 ·refine exW.loan [9000] [] s1 rfl (by simp [go_sem, encS, encI]) ?_
  simp -implicitDefEqProofs (disch := omega) only [go_sem]
  refine exW.call (l3Var_sat ⟨#[89]⟩) ?_
  simp -implicitDefEqProofs (disch := omega) only [go_sem]
  refine exW.call (l3Pair_sat ⟨#[102]⟩ vX vY) ?_
  simp -implicitDefEqProofs (disch := omega) only [go_sem]
  refine exW.call (l3Var_sat ⟨#[89]⟩) ?_
  simp -implicitDefEqProofs (disch := omega) only [go_sem]
  refine exW.call (l3App_sat ⟨#[97]⟩ []) ?_
  simp -implicitDefEqProofs (disch := omega) only [go_sem]
  obtain ⟨c2, t2, i2, m2, s2⟩ := pickTerm_ex bs hb c1 i1 [vX, vY, (.mk 2 0 ⟨#[97]⟩ [])] (by simp) (by decide)
  have g2 : gT 10 t2 := g_of m2 (by simp only [List.forall_mem_cons]; exact ⟨gT_mono (by decide) g_vX, gT_mono (by decide) g_vY, gT_mono (by decide) (g_app _ (by decide)), by simp⟩)
  obtain ⟨t2k, t2n, t2s, t2a⟩ := t2
  refine exW.uv [9000] s2 (by simp [go_sem, encS, encI, Tm.enc, wordT]) (by simp [go_sem]) ?_
  simp -implicitDefEqProofs (disch := omega) only [go_sem]
  obtain ⟨c3, b3, i3, s3⟩ := once_ex bs hb c2 i2 8 (by omega)
  rcases b3 with _ | _
  ·refine exW.loan [9000] [] s3 rfl (by simp [go_sem, encS, encI]) ?_
   simp -implicitDefEqProofs (disch := omega) only [go_sem]
   refine exW.fin (c3, ⟨name, (.mk 2 0 ⟨#[102]⟩ [vX, vY]), (.mk t2k t2n t2s t2a), []⟩) ⟨i3, g_rule hn (gT_mono (by decide) (g_pair _ _ _ (by decide) g_vX g_vY)) (gT_mono (by decide) g2) (by simp) (by simp)⟩ ?_
   first | exact ⟨[], by simp, rfl, ⟨rfl, trivial⟩, rfl⟩ | exact ⟨[], by simp, rfl, ⟨rfl, trivial⟩, rfl, by decide⟩ | exact ⟨by simp, fun _ => ⟨[], by simp, rfl, ⟨rfl, trivial⟩, rfl⟩⟩ | exact ⟨by simp, fun _ => ⟨[], by simp, rfl, ⟨rfl, trivial⟩, rfl, by decide⟩⟩
  ·refine exW.loan [9000] [] s3 rfl (by simp [go_sem, encS, encI]) ?_
   simp -implicitDefEqProofs (disch := omega) only [go_sem]
   obtain ⟨c4, e, i4, ge, s4⟩ := l9Draw_ex bs hb c3 i3
   obtain ⟨ek, ⟨lk, ln, lz, la⟩, ⟨rk, rn, rz, ra⟩⟩ := e
   refine exW.uv [9000] s4 (by simp [go_sem, encS, encI]) (by simp [go_sem]) ?_
   simp -implicitDefEqProofs (disch := omega) only [go_sem]
   refine exW.fin (c4, ⟨name, (.mk 2 0 ⟨#[102]⟩ [vX, vY]), (.mk t2k t2n t2s t2a), [⟨ek, .mk lk ln lz la, .mk rk rn rz ra⟩]⟩) ⟨i4, g_rule hn (gT_mono (by decide) (g_pair _ _ _ (by decide) g_vX g_vY)) (gT_mono (by decide) g2) (by simp) (by simp only [List.forall_mem_cons]; exact ⟨ge, by simp⟩)⟩ ?_
   first | exact ⟨[], by simp, rfl, ⟨rfl, trivial⟩, rfl⟩ | exact ⟨[], by simp, rfl, ⟨rfl, trivial⟩, rfl, by decide⟩ | exact ⟨by simp, fun _ => ⟨[], by simp, rfl, ⟨rfl, trivial⟩, rfl⟩⟩ | exact ⟨by simp, fun _ => ⟨[], by simp, rfl, ⟨rfl, trivial⟩, rfl, by decide⟩⟩
 ·refine exW.loan [9000] [] s1 rfl (by simp [go_sem, encS, encI]) ?_
  simp -implicitDefEqProofs (disch := omega) only [go_sem]
  refine exW.call (l3Pair_sat ⟨#[104]⟩ vX vN) ?_
  simp -implicitDefEqProofs (disch := omega) only [go_sem]
  refine exW.call (l3Word_sat 1) ?_
  simp -implicitDefEqProofs (disch := omega) only [go_sem]
  refine exW.call (l3Pair_sat ⟨#[109, 105, 110, 117, 115]⟩ vN (wordT 1)) ?_
  simp -implicitDefEqProofs (disch := omega) only [go_sem]
  refine exW.call (l3Pair_sat ⟨#[104]⟩ vX (.mk 2 0 ⟨#[109, 105, 110, 117, 115]⟩ [vN, (wordT 1)])) ?_
  simp -implicitDefEqProofs (disch := omega) only [go_sem]
  refine exW.call (l3Word_sat 0) ?_
  simp -implicitDefEqProofs (disch := omega) only [go_sem]
  obtain ⟨c2, b2, i2, s2⟩ := once_ex bs hb c1 i1 8 (by omega)
  rcases b2 with _ | _
  ·refine exW.loan [9000] [] s2 rfl (by simp [go_sem, encS, encI]) ?_
   simp -implicitDefEqProofs (disch := omega) only [go_sem]
   refine exW.fin (c2, ⟨name, (.mk 2 0 ⟨#[104]⟩ [vX, vN]), (.mk 2 0 ⟨#[104]⟩ [vX, (.mk 2 0 ⟨#[109, 105, 110, 117, 115]⟩ [vN, (wordT 1)])]), [⟨3, wordT 0, vN⟩]⟩) ⟨i2, g_rule hn (gT_mono (by decide) (g_pair _ _ _ (by decide) g_vX g_vN)) (gT_mono (by decide) (g_pair _ _ _ (by decide) g_vX (g_pair _ _ _ (by decide) g_vN (g_word 1 (by decide) (by decide))))) (by simp) (by simp only [List.forall_mem_cons]; exact ⟨gG_mono (by decide) (g_guard (lit_small _ (by decide) (by decide)) (g_word 0 (by decide) (by decide)) g_vN), by simp⟩)⟩ ?_
   first | exact ⟨[], by simp, rfl, ⟨rfl, trivial⟩, rfl⟩ | exact ⟨[], by simp, rfl, ⟨rfl, trivial⟩, rfl, by decide⟩ | exact ⟨by simp, fun _ => ⟨[], by simp, rfl, ⟨rfl, trivial⟩, rfl⟩⟩ | exact ⟨by simp, fun _ => ⟨[], by simp, rfl, ⟨rfl, trivial⟩, rfl, by decide⟩⟩
  ·refine exW.loan [9000] [] s2 rfl (by simp [go_sem, encS, encI]) ?_
   simp -implicitDefEqProofs (disch := omega) only [go_sem]
   obtain ⟨c3, e, i3, ge, s3⟩ := l9Draw_ex bs hb c2 i2
   obtain ⟨ek, ⟨lk, ln, lz, la⟩, ⟨rk, rn, rz, ra⟩⟩ := e
   refine exW.uv [9000] s3 (by simp [go_sem, encS, encI]) (by simp [go_sem]) ?_
   simp -implicitDefEqProofs (disch := omega) only [go_sem]
   refine exW.fin (c3, ⟨name, (.mk 2 0 ⟨#[104]⟩ [vX, vN]), (.mk 2 0 ⟨#[104]⟩ [vX, (.mk 2 0 ⟨#[109, 105, 110, 117, 115]⟩ [vN, (wordT 1)])]), [⟨3, wordT 0, vN⟩, ⟨ek, .mk lk ln lz la, .mk rk rn rz ra⟩]⟩) ⟨i3, g_rule hn (gT_mono (by decide) (g_pair _ _ _ (by decide) g_vX g_vN)) (gT_mono (by decide) (g_pair _ _ _ (by decide) g_vX (g_pair _ _ _ (by decide) g_vN (g_word 1 (by decide) (by decide))))) (by simp) (by simp only [List.forall_mem_cons]; exact ⟨gG_mono (by decide) (g_guard (lit_small _ (by decide) (by decide)) (g_word 0 (by decide) (by decide)) g_vN), ge, by simp⟩)⟩ ?_
   first | exact ⟨[], by simp, rfl, ⟨rfl, trivial⟩, rfl⟩ | exact ⟨[], by simp, rfl, ⟨rfl, trivial⟩, rfl, by decide⟩ | exact ⟨by simp, fun _ => ⟨[], by simp, rfl, ⟨rfl, trivial⟩, rfl⟩⟩ | exact ⟨by simp, fun _ => ⟨[], by simp, rfl, ⟨rfl, trivial⟩, rfl, by decide⟩⟩
 ·refine exW.loan [9000] [] s1 rfl (by simp [go_sem, encS, encI]) ?_
  simp -implicitDefEqProofs (disch := omega) only [go_sem]
  refine exW.call (l3Word_sat 0) ?_
  simp -implicitDefEqProofs (disch := omega) only [go_sem]
  refine exW.call (l3Pair_sat ⟨#[104]⟩ vX (wordT 0)) ?_
  simp -implicitDefEqProofs (disch := omega) only [go_sem]
  obtain ⟨c2, b2, i2, s2⟩ := once_ex bs hb c1 i1 8 (by omega)
  rcases b2 with _ | _
  ·refine exW.loan [9000] [] s2 rfl (by simp [go_sem, encS, encI]) ?_
   simp -implicitDefEqProofs (disch := omega) only [go_sem]
   refine exW.fin (c2, ⟨name, (.mk 2 0 ⟨#[104]⟩ [vX, (wordT 0)]), vX, []⟩) ⟨i2, g_rule hn (gT_mono (by decide) (g_pair _ _ _ (by decide) g_vX (g_word 0 (by decide) (by decide)))) (gT_mono (by decide) g_vX) (by simp) (by simp)⟩ ?_
   first | exact ⟨[], by simp, rfl, ⟨rfl, trivial⟩, rfl⟩ | exact ⟨[], by simp, rfl, ⟨rfl, trivial⟩, rfl, by decide⟩ | exact ⟨by simp, fun _ => ⟨[], by simp, rfl, ⟨rfl, trivial⟩, rfl⟩⟩ | exact ⟨by simp, fun _ => ⟨[], by simp, rfl, ⟨rfl, trivial⟩, rfl, by decide⟩⟩
  ·refine exW.loan [9000] [] s2 rfl (by simp [go_sem, encS, encI]) ?_
   simp -implicitDefEqProofs (disch := omega) only [go_sem]
   obtain ⟨c3, e, i3, ge, s3⟩ := l9Draw_ex bs hb c2 i2
   obtain ⟨ek, ⟨lk, ln, lz, la⟩, ⟨rk, rn, rz, ra⟩⟩ := e
   refine exW.uv [9000] s3 (by simp [go_sem, encS, encI]) (by simp [go_sem]) ?_
   simp -implicitDefEqProofs (disch := omega) only [go_sem]
   refine exW.fin (c3, ⟨name, (.mk 2 0 ⟨#[104]⟩ [vX, (wordT 0)]), vX, [⟨ek, .mk lk ln lz la, .mk rk rn rz ra⟩]⟩) ⟨i3, g_rule hn (gT_mono (by decide) (g_pair _ _ _ (by decide) g_vX (g_word 0 (by decide) (by decide)))) (gT_mono (by decide) g_vX) (by simp) (by simp only [List.forall_mem_cons]; exact ⟨ge, by simp⟩)⟩ ?_
   first | exact ⟨[], by simp, rfl, ⟨rfl, trivial⟩, rfl⟩ | exact ⟨[], by simp, rfl, ⟨rfl, trivial⟩, rfl, by decide⟩ | exact ⟨by simp, fun _ => ⟨[], by simp, rfl, ⟨rfl, trivial⟩, rfl⟩⟩ | exact ⟨by simp, fun _ => ⟨[], by simp, rfl, ⟨rfl, trivial⟩, rfl, by decide⟩⟩
 ·refine exW.loan [9000] [] s1 rfl (by simp [go_sem, encS, encI]) ?_
  simp -implicitDefEqProofs (disch := omega) only [go_sem]
  refine exW.call (l3One_sat ⟨#[110, 117, 109]⟩ vN) ?_
  simp -implicitDefEqProofs (disch := omega) only [go_sem]
  refine exW.call (l3Var_sat ⟨#[77]⟩) ?_
  simp -implicitDefEqProofs (disch := omega) only [go_sem]
  refine exW.call (l3One_sat ⟨#[110, 117, 109]⟩ vM) ?_
  simp -implicitDefEqProofs (disch := omega) only [go_sem]
  refine exW.call (l3Pair_sat ⟨#[102]⟩ (.mk 2 0 ⟨#[110, 117, 109]⟩ [vN]) (.mk 2 0 ⟨#[110, 117, 109]⟩ [vM])) ?_
  simp -implicitDefEqProofs (disch := omega) only [go_sem]
  obtain ⟨c2, y2, i2, z2, s2⟩ := pick8_ex bs hb c1 i1 [⟨#[112, 108, 117, 115]⟩, ⟨#[116, 105, 109, 101, 115]⟩, ⟨#[109, 105, 110, 117, 115]⟩] (by simp) (by decide) (by decide)
  refine exW.uv [9000] s2 (by simp [go_sem, encS, encI]) (by simp [go_sem]) ?_
  simp -implicitDefEqProofs (disch := omega) only [go_sem]
  refine exW.call (l3Var_sat ⟨#[77]⟩) ?_
  simp -implicitDefEqProofs (disch := omega) only [go_sem]
  refine exW.call (l3Pair_sat y2 vN vM) ?_
  simp -implicitDefEqProofs (disch := omega) only [go_sem]
  refine exW.call (l3One_sat ⟨#[110, 117, 109]⟩ (.mk 2 0 y2 [vN, vM])) ?_
  simp -implicitDefEqProofs (disch := omega) only [go_sem]
  obtain ⟨c3, b3, i3, s3⟩ := once_ex bs hb c2 i2 8 (by omega)
  rcases b3 with _ | _
  ·refine exW.loan [9000] [] s3 rfl (by simp [go_sem, encS, encI]) ?_
   simp -implicitDefEqProofs (disch := omega) only [go_sem]
   refine exW.fin (c3, ⟨name, (.mk 2 0 ⟨#[102]⟩ [(.mk 2 0 ⟨#[110, 117, 109]⟩ [vN]), (.mk 2 0 ⟨#[110, 117, 109]⟩ [vM])]), (.mk 2 0 ⟨#[110, 117, 109]⟩ [(.mk 2 0 y2 [vN, vM])]), []⟩) ⟨i3, g_rule hn (gT_mono (by decide) (g_pair _ _ _ (by decide) (g_one _ _ (by decide) g_vN) (g_one _ _ (by decide) g_vM))) (gT_mono (by decide) (g_one _ _ (by decide) (g_pair _ _ _ z2 g_vN g_vM))) (by simp) (by simp)⟩ ?_
   first | exact ⟨[], by simp, rfl, ⟨rfl, trivial⟩, rfl⟩ | exact ⟨[], by simp, rfl, ⟨rfl, trivial⟩, rfl, by decide⟩ | exact ⟨by simp, fun _ => ⟨[], by simp, rfl, ⟨rfl, trivial⟩, rfl⟩⟩ | exact ⟨by simp, fun _ => ⟨[], by simp, rfl, ⟨rfl, trivial⟩, rfl, by decide⟩⟩
  ·refine exW.loan [9000] [] s3 rfl (by simp [go_sem, encS, encI]) ?_
   simp -implicitDefEqProofs (disch := omega) only [go_sem]
   obtain ⟨c4, e, i4, ge, s4⟩ := l9Draw_ex bs hb c3 i3
   obtain ⟨ek, ⟨lk, ln, lz, la⟩, ⟨rk, rn, rz, ra⟩⟩ := e
   refine exW.uv [9000] s4 (by simp [go_sem, encS, encI]) (by simp [go_sem]) ?_
   simp -implicitDefEqProofs (disch := omega) only [go_sem]
   refine exW.fin (c4, ⟨name, (.mk 2 0 ⟨#[102]⟩ [(.mk 2 0 ⟨#[110, 117, 109]⟩ [vN]), (.mk 2 0 ⟨#[110, 117, 109]⟩ [vM])]), (.mk 2 0 ⟨#[110, 117, 109]⟩ [(.mk 2 0 y2 [vN, vM])]), [⟨ek, .mk lk ln lz la, .mk rk rn rz ra⟩]⟩) ⟨i4, g_rule hn (gT_mono (by decide) (g_pair _ _ _ (by decide) (g_one _ _ (by decide) g_vN) (g_one _ _ (by decide) g_vM))) (gT_mono (by decide) (g_one _ _ (by decide) (g_pair _ _ _ z2 g_vN g_vM))) (by simp) (by simp only [List.forall_mem_cons]; exact ⟨ge, by simp⟩)⟩ ?_
   first | exact ⟨[], by simp, rfl, ⟨rfl, trivial⟩, rfl⟩ | exact ⟨[], by simp, rfl, ⟨rfl, trivial⟩, rfl, by decide⟩ | exact ⟨by simp, fun _ => ⟨[], by simp, rfl, ⟨rfl, trivial⟩, rfl⟩⟩ | exact ⟨by simp, fun _ => ⟨[], by simp, rfl, ⟨rfl, trivial⟩, rfl, by decide⟩⟩
 ·refine exW.loan [9000] [] s1 rfl (by simp [go_sem, encS, encI]) ?_
  simp -implicitDefEqProofs (disch := omega) only [go_sem]
  refine exW.call (l3One_sat ⟨#[110, 117, 109]⟩ vN) ?_
  simp -implicitDefEqProofs (disch := omega) only [go_sem]
  refine exW.call (l3One_sat ⟨#[103]⟩ (.mk 2 0 ⟨#[110, 117, 109]⟩ [vN])) ?_
  simp -implicitDefEqProofs (disch := omega) only [go_sem]
  refine exW.call (l3App_sat ⟨#[98]⟩ []) ?_
  simp -implicitDefEqProofs (disch := omega) only [go_sem]
  refine exW.call (l3Pair_sat ⟨#[104]⟩ (.mk 2 0 ⟨#[98]⟩ []) vN) ?_
  simp -implicitDefEqProofs (disch := omega) only [go_sem]
  obtain ⟨c2, b2, i2, s2⟩ := once_ex bs hb c1 i1 8 (by omega)
  rcases b2 with _ | _
  ·refine exW.loan [9000] [] s2 rfl (by simp [go_sem, encS, encI]) ?_
   simp -implicitDefEqProofs (disch := omega) only [go_sem]
   refine exW.fin (c2, ⟨name, (.mk 2 0 ⟨#[103]⟩ [(.mk 2 0 ⟨#[110, 117, 109]⟩ [vN])]), (.mk 2 0 ⟨#[104]⟩ [(.mk 2 0 ⟨#[98]⟩ []), vN]), []⟩) ⟨i2, g_rule hn (gT_mono (by decide) (g_one _ _ (by decide) (g_one _ _ (by decide) g_vN))) (gT_mono (by decide) (g_pair _ _ _ (by decide) (g_app _ (by decide)) g_vN)) (by simp) (by simp)⟩ ?_
   first | exact ⟨[], by simp, rfl, ⟨rfl, trivial⟩, rfl⟩ | exact ⟨[], by simp, rfl, ⟨rfl, trivial⟩, rfl, by decide⟩ | exact ⟨by simp, fun _ => ⟨[], by simp, rfl, ⟨rfl, trivial⟩, rfl⟩⟩ | exact ⟨by simp, fun _ => ⟨[], by simp, rfl, ⟨rfl, trivial⟩, rfl, by decide⟩⟩
  ·refine exW.loan [9000] [] s2 rfl (by simp [go_sem, encS, encI]) ?_
   simp -implicitDefEqProofs (disch := omega) only [go_sem]
   obtain ⟨c3, e, i3, ge, s3⟩ := l9Draw_ex bs hb c2 i2
   obtain ⟨ek, ⟨lk, ln, lz, la⟩, ⟨rk, rn, rz, ra⟩⟩ := e
   refine exW.uv [9000] s3 (by simp [go_sem, encS, encI]) (by simp [go_sem]) ?_
   simp -implicitDefEqProofs (disch := omega) only [go_sem]
   refine exW.fin (c3, ⟨name, (.mk 2 0 ⟨#[103]⟩ [(.mk 2 0 ⟨#[110, 117, 109]⟩ [vN])]), (.mk 2 0 ⟨#[104]⟩ [(.mk 2 0 ⟨#[98]⟩ []), vN]), [⟨ek, .mk lk ln lz la, .mk rk rn rz ra⟩]⟩) ⟨i3, g_rule hn (gT_mono (by decide) (g_one _ _ (by decide) (g_one _ _ (by decide) g_vN))) (gT_mono (by decide) (g_pair _ _ _ (by decide) (g_app _ (by decide)) g_vN)) (by simp) (by simp only [List.forall_mem_cons]; exact ⟨ge, by simp⟩)⟩ ?_
   first | exact ⟨[], by simp, rfl, ⟨rfl, trivial⟩, rfl⟩ | exact ⟨[], by simp, rfl, ⟨rfl, trivial⟩, rfl, by decide⟩ | exact ⟨by simp, fun _ => ⟨[], by simp, rfl, ⟨rfl, trivial⟩, rfl⟩⟩ | exact ⟨by simp, fun _ => ⟨[], by simp, rfl, ⟨rfl, trivial⟩, rfl, by decide⟩⟩
 ·refine exW.loan [9000] [] s1 rfl (by simp [go_sem, encS, encI]) ?_
  simp -implicitDefEqProofs (disch := omega) only [go_sem]
  refine exW.call (l3App_sat ⟨#[97]⟩ []) ?_
  simp -implicitDefEqProofs (disch := omega) only [go_sem]
  refine exW.call (l3App_sat ⟨#[98]⟩ []) ?_
  simp -implicitDefEqProofs (disch := omega) only [go_sem]
  refine exW.call (l3Word_sat 2) ?_
  simp -implicitDefEqProofs (disch := omega) only [go_sem]
  refine exW.call (l3One_sat ⟨#[110, 117, 109]⟩ (wordT 2)) ?_
  simp -implicitDefEqProofs (disch := omega) only [go_sem]
  obtain ⟨c2, t2, i2, m2, s2⟩ := pickTerm_ex bs hb c1 i1 [(.mk 2 0 ⟨#[98]⟩ []), (.mk 2 0 ⟨#[110, 117, 109]⟩ [(wordT 2)])] (by simp) (by decide)
  have g2 : gT 20 t2 := g_of m2 (by simp only [List.forall_mem_cons]; exact ⟨gT_mono (by decide) (g_app _ (by decide)), gT_mono (by decide) (g_one _ _ (by decide) (g_word 2 (by decide) (by decide))), by simp⟩)
  obtain ⟨t2k, t2n, t2s, t2a⟩ := t2
  refine exW.loan [9000] [] s2 rfl (by simp [go_sem, encS, encI, Tm.enc, wordT]) ?_
  simp -implicitDefEqProofs (disch := omega) only [go_sem]
  obtain ⟨c3, b3, i3, s3⟩ := once_ex bs hb c2 i2 8 (by omega)
  rcases b3 with _ | _
  ·refine exW.loan [9000] [] s3 rfl (by simp [go_sem, encS, encI]) ?_
   simp -implicitDefEqProofs (disch := omega) only [go_sem]
   refine exW.fin (c3, ⟨name, (.mk 2 0 ⟨#[97]⟩ []), (.mk t2k t2n t2s t2a), []⟩) ⟨i3, g_rule hn (gT_mono (by decide) (g_app _ (by decide))) (gT_mono (by decide) g2) (by simp) (by simp)⟩ ?_
   first | exact ⟨[], by simp, rfl, ⟨rfl, trivial⟩, rfl⟩ | exact ⟨[], by simp, rfl, ⟨rfl, trivial⟩, rfl, by decide⟩ | exact ⟨by simp, fun _ => ⟨[], by simp, rfl, ⟨rfl, trivial⟩, rfl⟩⟩ | exact ⟨by simp, fun _ => ⟨[], by simp, rfl, ⟨rfl, trivial⟩, rfl, by decide⟩⟩
  ·refine exW.loan [9000] [] s3 rfl (by simp [go_sem, encS, encI]) ?_
   simp -implicitDefEqProofs (disch := omega) only [go_sem]
   obtain ⟨c4, e, i4, ge, s4⟩ := l9Draw_ex bs hb c3 i3
   obtain ⟨ek, ⟨lk, ln, lz, la⟩, ⟨rk, rn, rz, ra⟩⟩ := e
   refine exW.uv [9000] s4 (by simp [go_sem, encS, encI]) (by simp [go_sem]) ?_
   simp -implicitDefEqProofs (disch := omega) only [go_sem]
   refine exW.fin (c4, ⟨name, (.mk 2 0 ⟨#[97]⟩ []), (.mk t2k t2n t2s t2a), [⟨ek, .mk lk ln lz la, .mk rk rn rz ra⟩]⟩) ⟨i4, g_rule hn (gT_mono (by decide) (g_app _ (by decide))) (gT_mono (by decide) g2) (by simp) (by simp only [List.forall_mem_cons]; exact ⟨ge, by simp⟩)⟩ ?_
   first | exact ⟨[], by simp, rfl, ⟨rfl, trivial⟩, rfl⟩ | exact ⟨[], by simp, rfl, ⟨rfl, trivial⟩, rfl, by decide⟩ | exact ⟨by simp, fun _ => ⟨[], by simp, rfl, ⟨rfl, trivial⟩, rfl⟩⟩ | exact ⟨by simp, fun _ => ⟨[], by simp, rfl, ⟨rfl, trivial⟩, rfl, by decide⟩⟩
 ·refine exW.loan [9000] [] s1 rfl (by simp [go_sem, encS, encI]) ?_
  simp -implicitDefEqProofs (disch := omega) only [go_sem]
  refine exW.call (l3Pair_sat ⟨#[102]⟩ vX vX) ?_
  simp -implicitDefEqProofs (disch := omega) only [go_sem]
  refine exW.call (l3One_sat ⟨#[103]⟩ vX) ?_
  simp -implicitDefEqProofs (disch := omega) only [go_sem]
  obtain ⟨c2, b2, i2, s2⟩ := once_ex bs hb c1 i1 8 (by omega)
  rcases b2 with _ | _
  ·refine exW.loan [9000] [] s2 rfl (by simp [go_sem, encS, encI]) ?_
   simp -implicitDefEqProofs (disch := omega) only [go_sem]
   refine exW.fin (c2, ⟨name, (.mk 2 0 ⟨#[102]⟩ [vX, vX]), (.mk 2 0 ⟨#[103]⟩ [vX]), []⟩) ⟨i2, g_rule hn (gT_mono (by decide) (g_pair _ _ _ (by decide) g_vX g_vX)) (gT_mono (by decide) (g_one _ _ (by decide) g_vX)) (by simp) (by simp)⟩ ?_
   first | exact ⟨[], by simp, rfl, ⟨rfl, trivial⟩, rfl⟩ | exact ⟨[], by simp, rfl, ⟨rfl, trivial⟩, rfl, by decide⟩ | exact ⟨by simp, fun _ => ⟨[], by simp, rfl, ⟨rfl, trivial⟩, rfl⟩⟩ | exact ⟨by simp, fun _ => ⟨[], by simp, rfl, ⟨rfl, trivial⟩, rfl, by decide⟩⟩
  ·refine exW.loan [9000] [] s2 rfl (by simp [go_sem, encS, encI]) ?_
   simp -implicitDefEqProofs (disch := omega) only [go_sem]
   obtain ⟨c3, e, i3, ge, s3⟩ := l9Draw_ex bs hb c2 i2
   obtain ⟨ek, ⟨lk, ln, lz, la⟩, ⟨rk, rn, rz, ra⟩⟩ := e
   refine exW.uv [9000] s3 (by simp [go_sem, encS, encI]) (by simp [go_sem]) ?_
   simp -implicitDefEqProofs (disch := omega) only [go_sem]
   refine exW.fin (c3, ⟨name, (.mk 2 0 ⟨#[102]⟩ [vX, vX]), (.mk 2 0 ⟨#[103]⟩ [vX]), [⟨ek, .mk lk ln lz la, .mk rk rn rz ra⟩]⟩) ⟨i3, g_rule hn (gT_mono (by decide) (g_pair _ _ _ (by decide) g_vX g_vX)) (gT_mono (by decide) (g_one _ _ (by decide) g_vX)) (by simp) (by simp only [List.forall_mem_cons]; exact ⟨ge, by simp⟩)⟩ ?_
   first | exact ⟨[], by simp, rfl, ⟨rfl, trivial⟩, rfl⟩ | exact ⟨[], by simp, rfl, ⟨rfl, trivial⟩, rfl, by decide⟩ | exact ⟨by simp, fun _ => ⟨[], by simp, rfl, ⟨rfl, trivial⟩, rfl⟩⟩ | exact ⟨by simp, fun _ => ⟨[], by simp, rfl, ⟨rfl, trivial⟩, rfl, by decide⟩⟩
 ·have nex10 : (x1 == 0) = false := by simp only [beq_eq_false_iff_ne, ne_eq]; omega
  have nex11 : (x1 == 1) = false := by simp only [beq_eq_false_iff_ne, ne_eq]; omega
  have nex12 : (x1 == 2) = false := by simp only [beq_eq_false_iff_ne, ne_eq]; omega
  have nex13 : (x1 == 3) = false := by simp only [beq_eq_false_iff_ne, ne_eq]; omega
  have nex14 : (x1 == 4) = false := by simp only [beq_eq_false_iff_ne, ne_eq]; omega
  have nex15 : (x1 == 5) = false := by simp only [beq_eq_false_iff_ne, ne_eq]; omega
  have nex16 : (x1 == 6) = false := by simp only [beq_eq_false_iff_ne, ne_eq]; omega
  have nex17 : (x1 == 7) = false := by simp only [beq_eq_false_iff_ne, ne_eq]; omega
  refine exW.loan [9000] [] s1 rfl (by simp [go_sem, encS, encI]) ?_
  simp -implicitDefEqProofs (disch := omega) only [go_sem, nex10, nex11, nex12, nex13, nex14, nex15, nex16, nex17]
  obtain ⟨c2, t2, i2, g2, s2⟩ := l6E_ex bs hb 3 (by omega) c1 i1 false
  obtain ⟨t2k, t2n, t2s, t2a⟩ := t2
  refine exW.loan [9000] [] s2 rfl (by simp [go_sem, encS, encI]) ?_
  simp -implicitDefEqProofs (disch := omega) only [go_sem, nex10, nex11, nex12, nex13, nex14, nex15, nex16, nex17]
  obtain ⟨c3, t3, i3, g3, s3⟩ := l6E_ex bs hb 2 (by omega) c2 i2 true
  obtain ⟨t3k, t3n, t3s, t3a⟩ := t3
  refine exW.loan [9000] [] s3 rfl (by simp [go_sem, encS, encI]) ?_
  simp -implicitDefEqProofs (disch := omega) only [go_sem, nex10, nex11, nex12, nex13, nex14, nex15, nex16, nex17]
  obtain ⟨c4, b4, i4, s4⟩ := once_ex bs hb c3 i3 8 (by omega)
  rcases b4 with _ | _
  ·refine exW.loan [9000] [] s4 rfl (by simp [go_sem, encS, encI]) ?_
   simp -implicitDefEqProofs (disch := omega) only [go_sem, nex10, nex11, nex12, nex13, nex14, nex15, nex16, nex17]
   refine exW.fin (c4, ⟨name, (.mk t2k t2n t2s t2a), (.mk t3k t3n t3s t3a), []⟩) ⟨i4, g_rule hn (gT_mono (by decide) g2) (gT_mono (by decide) g3) (by simp) (by simp)⟩ ?_
   first | exact ⟨[], by simp, rfl, ⟨rfl, trivial⟩, rfl⟩ | exact ⟨[], by simp, rfl, ⟨rfl, trivial⟩, rfl, by decide⟩ | exact ⟨by simp, fun _ => ⟨[], by simp, rfl, ⟨rfl, trivial⟩, rfl⟩⟩ | exact ⟨by simp, fun _ => ⟨[], by simp, rfl, ⟨rfl, trivial⟩, rfl, by decide⟩⟩
  ·refine exW.loan [9000] [] s4 rfl (by simp [go_sem, encS, encI]) ?_
   simp -implicitDefEqProofs (disch := omega) only [go_sem, nex10, nex11, nex12, nex13, nex14, nex15, nex16, nex17]
   obtain ⟨c5, e, i5, ge, s5⟩ := l9Draw_ex bs hb c4 i4
   obtain ⟨ek, ⟨lk, ln, lz, la⟩, ⟨rk, rn, rz, ra⟩⟩ := e
   refine exW.uv [9000] s5 (by simp [go_sem, encS, encI]) (by simp [go_sem]) ?_
   simp -implicitDefEqProofs (disch := omega) only [go_sem, nex10, nex11, nex12, nex13, nex14, nex15, nex16, nex17]
   refine exW.fin (c5, ⟨name, (.mk t2k t2n t2s t2a), (.mk t3k t3n t3s t3a), [⟨ek, .mk lk ln lz la, .mk rk rn rz ra⟩]⟩) ⟨i5, g_rule hn (gT_mono (by decide) g2) (gT_mono (by decide) g3) (by simp) (by simp only [List.forall_mem_cons]; exact ⟨ge, by simp⟩)⟩ ?_
   first | exact ⟨[], by simp, rfl, ⟨rfl, trivial⟩, rfl⟩ | exact ⟨[], by simp, rfl, ⟨rfl, trivial⟩, rfl, by decide⟩ | exact ⟨by simp, fun _ => ⟨[], by simp, rfl, ⟨rfl, trivial⟩, rfl⟩⟩ | exact ⟨by simp, fun _ => ⟨[], by simp, rfl, ⟨rfl, trivial⟩, rfl, by decide⟩⟩
end Go.Ai
