/- Draws: definitions. -/
import Derived.Test.YtphclghkljeaeaaGreatAiDw8
import Derived.Test.YtphclghkljeaeaaGreatAiU9
import Derived.Test.YtphclghkljeaeaaGreatAiDynE
import Derived.Test.YtphclghkljeaeaaGreatAiCon2
import Derived.Test.YtphclghkljeaeaaGreatAiI2
import Derived.Test.YtphclghkljeaeaaGreatAiI5
set_option linter.unusedVariables false
set_option linter.unusedSimpArgs false
namespace Go.Ai
open Go.Proofs
set_option maxRecDepth 100000
theorem wS1 {σ : Type} (P : σ → Prop) (R : Nat → σ → σ → Prop) (s0 : σ) (h0 : P s0) (hs : ∀ k s, P s → ∃ s', P s' ∧ R k s s') : ∃ f : Nat → σ, f 0 = s0 ∧ ∀ k, P (f k) ∧ R k (f k) (f (k + 1)) := by
 classical
 have hs' : ∀ k s, ∃ s', P s → P s' ∧ R k s s' := fun k s => by
  by_cases h : P s
  ·obtain ⟨s', h1⟩ := hs k s h; exact ⟨s', fun _ => h1⟩
  ·exact ⟨s, fun h' => absurd h' h⟩
 let f : Nat → σ := fun n => Nat.rec s0 (fun k s => Classical.choose (hs' k s)) n
 have hf : ∀ k, f (k + 1) = Classical.choose (hs' k (f k)) := fun _ => rfl
 have hp : ∀ k, P (f k) := fun k => by
  induction k with
  | zero => exact h0
  | succ k ih => rw [hf]; exact (Classical.choose_spec (hs' k (f k)) ih).1
 exact ⟨f, rfl, fun k => ⟨hp k, by rw [hf]; exact (Classical.choose_spec (hs' k (f k)) (hp k)).2⟩⟩
theorem rz1 {α : Type} (x : α) : List.replicate 5 x = [x, x, x, x, x] := rfl
theorem pb1 (k : Nat) (h : k < 5) : ∃ s : ByteArray, s.size ≤ 8 ∧ Sat Tryz.prog 182 [zH0 k] (qg0 s) := by
 rcases Nat.eq_zero_or_pos k with rfl | h0
 ·refine ⟨⟨#[48]⟩, by decide, ?_⟩
  refine soc zE0 zA0 Tryz.func182 ?_
  simp -implicitDefEqProofs only [go_sem, Int.reduceBEq]
  simp
 ·obtain ⟨b, hb⟩ : ∃ b : UInt8, b = UInt8.ofNat (48 + k) := ⟨_, rfl⟩
  refine ⟨⟨#[b]⟩, (by decide : (1 : Nat) ≤ 8), ?_⟩
  have e1 : ((k : Int) == 0) = false := by simp only [beq_eq_false_iff_ne, ne_eq]; omega
  refine soc zE0 zA0 Tryz.func182 ?_
  simp -implicitDefEqProofs only [go_sem, e1]
  refine zB0 (ι := Nat) (fun i => mk 31 [(0, zH0 (if i = 0 then k else 0)), (3, boolV false), (4, qg0 (if i = 0 then ⟨#[]⟩ else ⟨#[b]⟩))] []) (fun i => i ≤ 1) (fun i => 1 - i) 0 (by decide) ?_ zE0 zA0 (by decide +kernel) ?_
  ·exact lek
  ·intro i hi
   rcases Nat.lt_or_ge i 1 with hlt | hge
   ·have : i = 0 := by omega
    subst this
    rcases (by omega : k = 1 ∨ k = 2 ∨ k = 3 ∨ k = 4) with rfl | rfl | rfl | rfl
    all_goals
     simp -implicitDefEqProofs only [go_sem, Int.reduceBEq]
     refine ⟨fun _ => ⟨fun h => absurd h (by decide), fun _ => ⟨by simp [ro0], fun _ => ⟨by decide +kernel, fun _ => ⟨1, by decide, by decide, le_mk ?_ (by simp [go_sem])⟩⟩⟩⟩, fun h => absurd h (by decide)⟩
     simp [go_sem]
     rw [hb]
     first | rfl | decide +kernel
   ·have : i = 1 := by omega
    subst this
    simp -implicitDefEqProofs only [go_sem, Int.reduceBEq]
def baseS : GSignature := ⟨qQ1, vZ1⟩
theorem jj1 : cw0 baseS := ⟨by decide, by decide⟩
abbrev fq1 (rs : List GRule) : LB := .arr 164 10 (rowsOf GRule.enc rs) false
abbrev bb1 (st : List GStrict) : LB := .arr 204 2 (rowsOf GStrict.enc st) false
theorem xd1 (sa : List GStrict) (y : ByteArray) (x : Int) : rowsOf GStrict.enc sa ++ [[sC y, iC x]] = rowsOf GStrict.enc (sa ++ [⟨y, x⟩]) := by simp [rowsOf, GStrict.enc, encS, encI]
theorem xh0 {α : Type} {ec : α → List C} (xs : List α) : jb1 (rowsOf ec xs) := by
 intro r hr a ha
 obtain ⟨x, _, rfl⟩ := List.mem_map.1 hr
 obtain ⟨y, _, rfl⟩ := List.mem_map.1 ha
 rfl
theorem take_snoc {α : Type} {ec : α → List C} (xs : List α) (z : α) : (rowsOf ec (xs ++ [z])).take xs.length = rowsOf ec xs := by
 rw [← rowsOf_app, List.take_left' rowsOf_len]
def gSt (s : GStrict) : Prop := s.op.size ≤ 8 ∧ 0 ≤ s.ar ∧ s.ar ≤ 4
theorem wU1 (bs : List Int) (hb : wr0 bs) (c : Cur) (hc : c.i ≤ bs.length) : ∃ c' rs st, c'.i ≤ bs.length ∧ (∀ r, r ∈ rs → gR 4000 r) ∧ rs.length ≤ 5 ∧ (∀ s, s ∈ st → gSt s) ∧ st.length ≤ 3 ∧ qy0 Tryz.prog 114 [.one (.ptr 0 0)] [qq0 bs c] [qq0 bs c', zg1, tm0, fq1 rs, bb1 st] (.agg [.own 1 2, .own 2 7, .own 3 rs.length, .own 4 st.length]) := by
 obtain ⟨c1, x1, i1, x1a, x1b, s1⟩ := zP0 bs hb c hc 5 (by omega)
 obtain ⟨n, rfl⟩ : ∃ n : Nat, x1 = (n : Int) := ⟨x1.toNat, by omega⟩
 have hR := wS1 (σ := Cur × List GRule) (fun s => s.1.i ≤ bs.length ∧ (∀ r, r ∈ s.2 → gR 4000 r))
  (fun k s s' => k < 5 → ∃ nm r, gR 4000 r ∧ nm.size ≤ 8 ∧ Sat Tryz.prog 182 [zH0 k] (qg0 nm) ∧ qy0 Tryz.prog 181 [.one (.ptr 0 0), qg0 (⟨#[114]⟩ ++ nm)] [qq0 bs s.1] [qq0 bs s'.1] (zn0 r.enc) ∧ s'.2 = if yb0 baseS r then s.2 ++ [r] else s.2)
  (c1, []) ⟨i1, by simp⟩ (fun k s hs => by
   by_cases hk : k < 5
   ·obtain ⟨nm, h1, h2⟩ := pb1 k hk
    obtain ⟨c', r, h3, h4, h5⟩ := tZ0 bs hb s.1 hs.1 (⟨#[114]⟩ ++ nm) (by rw [ByteArray.size_append]; have : (⟨#[114]⟩ : ByteArray).size = 1 := rfl; omega)
    refine ⟨(c', if yb0 baseS r then s.2 ++ [r] else s.2), ⟨h3, ?_⟩, fun _ => ⟨nm, r, h4, h1, h2, h5, rfl⟩⟩
    simp only
    intro q hq
    split at hq
    ·rcases List.mem_append.1 hq with hq | hq
     ·exact hs.2 q hq
     ·rw [List.mem_singleton.1 hq]; exact h4
    ·exact hs.2 q hq
   ·exact ⟨s, hs, fun h => absurd h hk⟩)
 obtain ⟨f, f0, hf⟩ := hR
 have fl : ∀ k, k ≤ 5 → (f k).2.length ≤ k := fun k => by
  induction k with
  | zero => intro _; rw [f0]; exact Nat.le_refl _
  | succ k ih =>
   intro hk
   obtain ⟨nm, r, _, _, _, _, h⟩ := (hf k).2 (by omega)
   have := ih (by omega)
   rw [h]
   split
   ·rw [List.length_append, List.length_singleton]; omega
   ·omega
 obtain ⟨c2, hc2⟩ : ∃ c2, c2 = (f (n + 1)).1 := ⟨_, rfl⟩
 obtain ⟨rs, hrs⟩ : ∃ rs, rs = (f (n + 1)).2 := ⟨_, rfl⟩
 have i2 : c2.i ≤ bs.length := hc2 ▸ (hf (n + 1)).1.1
 have grs : ∀ r, r ∈ rs → gR 4000 r := hrs ▸ (hf (n + 1)).1.2
 have lrs : rs.length ≤ 5 := by have := fl (n + 1) (by omega); rw [← hrs] at this; omega
 obtain ⟨c3, x3, i3, x3a, x3b, s3⟩ := zP0 bs hb c2 i2 4 (by omega)
 obtain ⟨m, rfl⟩ : ∃ m : Nat, x3 = (m : Int) := ⟨x3.toNat, by omega⟩
 have hR := wS1 (σ := Cur × List GStrict) (fun s => s.1.i ≤ bs.length ∧ (∀ r, r ∈ s.2 → gSt r))
  (fun k s s' => ∃ y x ca, y.size ≤ 8 ∧ 0 ≤ x ∧ x < 2 ∧ qy0 Tryz.prog 155 [.one (.ptr 0 0), slV ([⟨#[102]⟩, ⟨#[102]⟩, ⟨#[103]⟩, ⟨#[104]⟩, ⟨#[116, 111, 112]⟩].map encS)] [qq0 bs s.1] [qq0 bs ca] (qg0 y) ∧ qy0 Tryz.prog 92 [.one (.ptr 0 0), zH0 2] [qq0 bs ca] [qq0 bs s'.1] (zH0 x) ∧ s'.2 = if ra0 ⟨baseS, rs, s.2 ++ [⟨y, x⟩]⟩ then s.2 ++ [⟨y, x⟩] else s.2)
  (c3, []) ⟨i3, by simp⟩ (fun k s hs => by
   obtain ⟨ca, y, h1, h2, h3⟩ := zS0 bs hb s.1 hs.1 [⟨#[102]⟩, ⟨#[102]⟩, ⟨#[103]⟩, ⟨#[104]⟩, ⟨#[116, 111, 112]⟩] (by simp) (by decide) (by decide)
   obtain ⟨c', x, h4, h5, h6, h7⟩ := zP0 bs hb ca h1 2 (by omega)
   refine ⟨(c', if ra0 ⟨baseS, rs, s.2 ++ [⟨y, x⟩]⟩ then s.2 ++ [⟨y, x⟩] else s.2), ⟨h4, ?_⟩, y, x, ca, h2, h5, h6, h3, h7, rfl⟩
   simp only
   intro q hq
   split at hq
   ·rcases List.mem_append.1 hq with hq | hq
    ·exact hs.2 q hq
    ·rw [List.mem_singleton.1 hq]; exact ⟨h2, h5, by simp only; omega⟩
   ·exact hs.2 q hq)
 obtain ⟨g, g0, hg⟩ := hR
 have gl : ∀ k, (g k).2.length ≤ k := fun k => by
  induction k with
  | zero => rw [g0]; exact Nat.le_refl _
  | succ k ih =>
   obtain ⟨y, x, ca, _, _, _, _, _, h⟩ := (hg k).2
   rw [h]
   split
   ·rw [List.length_append, List.length_singleton]; omega
   ·omega
 refine ⟨(g m).1, rs, (g m).2, (hg m).1.1, grs, lrs, (hg m).1.2, by have := gl m; omega, ?_⟩
 have hmaxL : (200000 : Nat) ≤ maxLen := by decide
 refine je0 [(16, ([], [6]))] zE0 zA0 Tryz.func114 rfl rfl rfl (by decide +kernel) (by decide +kernel) (Nat.le_of_ble_eq_true rfl) (by simp [go_sem]) (by simp [go_sem]) (by simp [go_sem, noD, isD]) (by simp [go_sem]) (by simp [go_sem]) rfl ?_
 refine qI0 ?_
 refine CallK.con [] [9101, 9102] rfl kH1 (by simp [go_sem]) ?_
 refine qI0 ?_
 refine LoanK.con [9000] [] s1 rfl (by simp [go_sem, encS, encI]) ?_
 refine qI0 ?_
 refine yL0 [(16, ([], [6]))] (ι := Nat) (fun k => mk 66 [(5, zH0 k), (4, zH0 (1 + n)), (3, .one (.ptr 3 0)), (2, .one (.ptr 2 0)), (0, .one (.ptr 9000 0))] [(9000, qq0 bs (f k).1), (3, .var [.own 9101 2, .own 9102 7, .own 9103 (f k).2.length, .nil]), (9103, fq1 (f k).2), (9102, tm0), (9101, zg1), (2, .var [.nil, .nil, .nil, .nil])] [.one (.ptr 9000 0)]) (fun k => k ≤ n + 1) (fun k => n + 1 - k) 0 (Nat.zero_le _) ?_ zE0 zA0 (by decide +kernel) ?_
 ·exact (fp0 3 2 9103 164 10 (by simp [zJ0]; rfl) (by simp) (by simp [zJ0]) (by decide)).trans (le_mk (by simp [go_sem]) (by simp [go_sem, f0, rowsOf]))
 ·intro k hk
  rcases Nat.lt_or_ge k (n + 1) with hlt | hge
  ·obtain ⟨nm, r, gr, hnm, sf, sr, he⟩ := (hf k).2 (by omega)
   have hv := xr0 baseS jj1 r (by have := gr.2; omega)
   have hlk : ((k : Int) < 1 + (n : Int)) := by omega
   have hkl := fl k (by omega)
   have hb1 : (ByteArray.mk #[114] ++ nm).size ≤ 100 := by rw [ByteArray.size_append]; have : (⟨#[114]⟩ : ByteArray).size = 1 := rfl; omega
   generalize hq1 : f k = p1 at sr he hkl ⊢
   generalize hq2 : f (k + 1) = p2 at sr he
   generalize yb0 baseS r = bb at hv he
   obtain ⟨ca, ra⟩ := p1
   obtain ⟨cb, rb⟩ := p2
   simp only at sr he hkl
   obtain ⟨na, ⟨lk, ln, lz, la⟩, ⟨rk, rn, rz, rt⟩, gu⟩ := r
   simp -implicitDefEqProofs (disch := omega) only [go_sem, hlk]
   refine c0' sf ?_
   refine ⟨by have : (#[114] : Array UInt8).size = 1 := rfl; omega, fun _ => LoanK.con [9000] [] sr rfl (by simp [go_sem, encS, encI]) ?_⟩
   refine gG1 ?_
   refine CallK.bor hv rfl ?_
   refine gG1 ?_
   refine ⟨fun hbb => ⟨⟨by simp, by omega, by omega⟩, fun _ => ⟨k + 1, by omega, by omega, ?_⟩⟩, fun hbb => ⟨k + 1, by omega, by omega, ?_⟩⟩
   ·rw [hbb, if_pos rfl] at he
    subst he
    rw [hq2]
    exact le_mk (by simp [go_sem]) (by simp [go_sem, rowsOf, GRule.enc, Tm.enc, encS, encL])
   ·rw [hbb, if_neg (by decide)] at he
    subst he
    rw [hq2]
    exact lek
  ·have : k = n + 1 := by omega
   subst this
   have hlk : ¬ (((n + 1 : Nat) : Int) < 1 + (n : Int)) := by omega
   rw [← hc2, ← hrs]
   simp -implicitDefEqProofs (disch := omega) only [go_sem, hlk]
   refine LoanK.con [9000] [] s3 rfl (by simp [go_sem, encS, encI]) ?_
   refine qI0 ?_
   refine yL0 [(16, ([], [6]))] (ι := Nat) (fun k => mk 66 [(8, zH0 k), (7, zH0 m), (3, .one (.ptr 3 0)), (2, .one (.ptr 2 0)), (0, .one (.ptr 9000 0))] [(9000, qq0 bs (g k).1), (3, .var [.own 9101 2, .own 9102 7, .own 9103 rs.length, .own 9104 (g k).2.length]), (9104, bb1 (g k).2), (9103, fq1 rs), (9102, tm0), (9101, zg1), (2, .var [.nil, .nil, .nil, .nil])] [.one (.ptr 9000 0)]) (fun k => k ≤ m) (fun k => m - k) 0 (Nat.zero_le _) ?_ zE0 zA0 (by decide +kernel) ?_
   ·exact (fp0 3 3 9104 204 2 (by simp [zJ0]; rfl) (by simp) (by simp [zJ0]) (by decide)).trans (le_mk (by simp [go_sem]) (by simp [go_sem, g0, rowsOf]))
   ·intro k hk
    rcases Nat.lt_or_ge k m with hlt | hge
    ·obtain ⟨y, x, cy, hy, hx0, hx1, sy, sx, he⟩ := (hg k).2
     have hkl := gl k
     have hgk := (hg k).1.2
     generalize hq1 : g k = p1 at sy he hkl hgk ⊢
     generalize hq2 : g (k + 1) = p2 at sx he
     obtain ⟨ca, sa⟩ := p1
     obtain ⟨cb, sb⟩ := p2
     simp only at sy sx he hkl hgk
     have hd := fc0 ⟨baseS, rs, sa ++ [⟨y, x⟩]⟩ (by
      have h5 := vS1 (sz := GRule.size) (m := 4000) fun x hx => (grs x hx).2
      have h6 := vS1 (sz := GStrict.size) (m := 8) (xs := sa ++ [⟨y, x⟩]) fun z hz => by
       rcases List.mem_append.1 hz with hz | hz
       ·exact (hgk z hz).1
       ·rw [List.mem_singleton.1 hz]; exact hy
      have : rs.length * 4001 ≤ 5 * 4001 := Nat.mul_le_mul_right _ lrs
      have h7 : (sa ++ [(⟨y, x⟩ : GStrict)]).length ≤ 4 := by rw [List.length_append, List.length_singleton]; omega
      have := Nat.mul_le_mul_right 9 h7
      have : baseS.size ≤ 1000 := gS_base.2
      simp only [GDefinition.size] at *
      omega)
     generalize ra0 ⟨baseS, rs, sa ++ [⟨y, x⟩]⟩ = bb at hd he
     have hlk : ((k : Int) < (m : Int)) := by omega
     simp -implicitDefEqProofs (disch := omega) only [go_sem, hlk, rz1]
     refine LoanK.con [9000] [] sy rfl (by simp [go_sem, encS, encI]) ?_
     refine qI0 ?_
     refine LoanK.con [9000] [] sx rfl (by simp [go_sem, encS, encI]) ?_
     simp -implicitDefEqProofs (disch := omega) only [go_sem, xd1]
     refine ⟨⟨by simp, by omega, by omega⟩, fun _ => ?_⟩
     refine CallK.bor hd rfl ?_
     simp -implicitDefEqProofs (disch := omega) only [go_sem, List.length_append, List.length_singleton]
     have ht : (((sa.length + 1 : Nat) : Int) - 1).toNat = sa.length := by omega
     refine ⟨fun hbb => ⟨by omega, by omega, xh0 _, k + 1, by omega, by omega, ?_⟩, fun hbb => ⟨k + 1, by omega, by omega, ?_⟩⟩
     ·rw [hbb, if_neg (by decide)] at he
      subst he
      rw [hq2]
      rw [ht]
      refine (le_mk (L' := [(8, zH0 (k + 1 : Nat)), (7, zH0 m), (3, .one (.ptr 3 0)), (2, .one (.ptr 2 0)), (0, .one (.ptr 9000 0))]) (B' := [(9000, qq0 bs cb), (3, .var [.own 9101 2, .own 9102 7, .own 9103 rs.length, .own 63 sb.length]), (63, bb1 sb), (9103, fq1 rs), (9102, tm0), (9101, zg1), (2, .var [.nil, .nil, .nil, .nil])]) (by simp [go_sem]) (by simp [go_sem, take_snoc])).trans ((lw0 (e := 204) (sz := 2) (rows := rowsOf GStrict.enc sb) 3 63 9104 (by simp [zJ0]; rfl) (by simp [zJ0]) (by simp [zJ0]) zk0 zd0).trans (le_mk (by simp [go_sem]) (by simp [go_sem, xX1, rowsOf_len])))
     ·rw [hbb, if_pos rfl] at he
      subst he
      rw [hq2]
      exact lek
    ·have : k = m := by omega
     subst this
     have hlk : ¬ ((k : Int) < (k : Int)) := by omega
     simp -implicitDefEqProofs (disch := omega) only [go_sem, hlk]
     exact ⟨[9101, 9102, 9103, 9104], by simp, rfl, by simp [go_sem], by simp [go_sem]⟩
attribute [go_sem] GSignature.enc GDefinition.enc encL encS kw0 List.cons_append List.nil_append
def gD (B : Nat) (d : GDefinition) : Prop := d.wf ∧ d.size ≤ B
theorem pc1 {s : GStrict} (h : gSt s) : s.wf := ⟨kK0 h.1, qb0 _ (by have := h.2.1; omega) (by have := h.2.2; omega)⟩
theorem bd1 {s : GSignature} {rs : List GRule} {st : List GStrict} (h1 : gS 1000 s) (h2 : ∀ r, r ∈ rs → gR 4000 r) (h3 : rs.length ≤ 6) (h4 : ∀ z, z ∈ st → gSt z) (h5 : st.length ≤ 4) : gD 30000 ⟨s, rs, st⟩ := by
 refine ⟨⟨h1.1, jO0 (Nat.le_trans h3 (by decide)) fun r hr => (h2 r hr).1, jO0 (Nat.le_trans h5 (by decide)) fun z hz => pc1 (h4 z hz)⟩, ?_⟩
 have k1 := vS1 (sz := GRule.size) (m := 4000) fun x hx => (h2 x hx).2
 have k2 := vS1 (sz := GStrict.size) (m := 8) fun x hx => (h4 x hx).1
 have : rs.length * 4001 ≤ 6 * 4001 := Nat.mul_le_mul_right _ h3
 have : st.length * 9 ≤ 4 * 9 := Nat.mul_le_mul_right _ h5
 have := h1.2
 simp only [GDefinition.size] at *
 omega
end Go.Ai
namespace Go.Ai
open Go.Proofs
set_option maxRecDepth 100000
theorem jc1 (a m : Int) (h0 : 0 ≤ m) (h1 : m < 1073741824) : 0 ≤ jH1 a m ∧ jH1 a m ≤ m := by
 unfold jH1
 have e : (BitVec.ofInt IntKind.i64.bits m).toNat ≤ m.toNat := by
  rw [BitVec.toNat_ofInt]
  have : (m % ((2 ^ IntKind.i64.bits : Nat) : Int)) = m := Int.emod_eq_of_lt h0 (by have : ((2 ^ IntKind.i64.bits : Nat) : Int) = 18446744073709551616 := by decide
                                                                                    omega)
  rw [this]; exact Nat.le_refl _
 have h : (BitVec.ofInt IntKind.i64.bits a &&& BitVec.ofInt IntKind.i64.bits m).toNat ≤ m.toNat := by
  rw [BitVec.toNat_and]
  exact Nat.le_trans Nat.and_le_right e
 generalize (BitVec.ofInt IntKind.i64.bits a &&& BitVec.ofInt IntKind.i64.bits m).toNat = n at h
 have h0 : -9223372036854775808 ≤ (n : Int) := by omega
 have h1 : (n : Int) ≤ 9223372036854775807 := by omega
 rw [IntWalk.i64_in _ ⟨h0, h1⟩]; omega
def hS (bs : List Int) : Nat → Int
 | 0 => 26583 + bs.length
 | i + 1 => jH1 (hS bs i * 131 + bs.getD i 0 + 7) 1073741823
theorem bg1 (bs : List Int) (hb : wr0 bs) : ∀ i, 0 ≤ hS bs i ∧ hS bs i ≤ 1073741823
 | 0 => by have := hb.1; simp only [hS]; omega
 | i + 1 => jc1 _ _ (by decide) (by decide)
theorem wV1 (bs : List Int) (hb : wr0 bs) : ∃ c : Cur, c.i ≤ bs.length ∧ kv1 Tryz.prog 73 [slV (bs.map mC0)] [.c (.sl (bs.map mC0)), iC c.i, iC c.h] := by
 obtain ⟨N, hN⟩ : ∃ N, N = min bs.length 4000 := ⟨_, rfl⟩
 refine ⟨⟨0, hS bs N⟩, Nat.zero_le _, ?_⟩
 have hbl := hb.1
 refine lX0 zE0 zA0 Tryz.func73 rfl rfl rfl (by decide +kernel) (by decide +kernel) (Nat.le_of_ble_eq_true rfl) (by simp [clA]) ?_
 refine da0 ?_
 refine zB0 (ι := Nat) (fun i => mk 32 [(4, zH0 i), (3, zH0 (hS bs i)), (0, slV (bs.map mC0))] []) (fun i => i ≤ N) (fun i => N - i) 0 (Nat.zero_le _) ?_ zE0 zA0 (by decide +kernel) ?_
 ·exact le_mk (by simp [go_sem, hS]) (by simp [go_sem])
 ·intro i hi
  have hs := bg1 bs hb i
  rcases Nat.lt_or_ge i N with hlt | hge
  ·have hil : i < bs.length := by omega
   have hg := zD0 (ec := mC0) hil
   have hx := hb.2 _ (List.getElem_mem hil)
   have hst : hS bs (i + 1) = jH1 (hS bs i * 131 + bs[i] + 7) 1073741823 := by
    rw [hS, List.getD_eq_getElem?_getD, List.getElem?_eq_getElem hil, Option.getD_some]
   generalize bs[i] = x at hg hx hst
   have h1 : (i : Int) < bs.length := by omega
   have h2 : (i : Int) < 4000 := by omega
   generalize hS bs i = hh at hs hst ⊢
   simp -implicitDefEqProofs (disch := omega) only [go_sem, hg, h1, h2, hil, mC0]
   exact ⟨i + 1, by omega, by omega, le_mk (by simp [go_sem]; exact hst.symm) (by simp [go_sem])⟩
  ·have : i = N := by omega
   subst this
   by_cases h1 : (i : Int) < bs.length
   ·have h2 : ¬ (i : Int) < 4000 := by omega
    simp -implicitDefEqProofs (disch := omega) only [go_sem, h1, h2]
    rfl
   ·simp -implicitDefEqProofs (disch := omega) only [go_sem, h1]
    rfl
theorem rN0 (m : Nat) (h : m < 3) : bE (m + 2) ≤ 950 := by
 have : m = 0 ∨ m = 1 ∨ m = 2 := by omega
 rcases this with rfl | rfl | rfl <;> decide
theorem xc0 (bs : List Int) (hb : wr0 bs) (c : Cur) (hc : c.i ≤ bs.length) : ∃ c' t, c'.i ≤ bs.length ∧ gT 1000 t ∧ qy0 Tryz.prog 115 [.one (.ptr 0 0)] [qq0 bs c] [qq0 bs c'] (tmV t) := by
 obtain ⟨c1, x1, i1, x1a, x1b, s1⟩ := zP0 bs hb c hc 3 (by omega)
 obtain ⟨m1, rfl⟩ : ∃ m1 : Nat, x1 = (m1 : Int) := ⟨x1.toNat, by omega⟩
 have hd : (2 + (m1 : Int)) = ((m1 + 2 : Nat) : Int) := by omega
 refine ex2 (sxe [] zE0 zA0 Tryz.func115 ?_)
 refine jJ1 ?_
 refine exl [9000] [] s1 ?_
 refine jJ1 ?_
 obtain ⟨c2, t, i2, gt, s2⟩ := gp0 bs hb (m1 + 2) (by omega) c1 i1 true
 have gB : gT 950 t.red := ⟨red_wf t gt.1, Nat.le_trans (jZ0 t) (zC0 (rN0 m1 (by omega)) gt).2⟩
 have hr := wn0 t (by have := (zC0 (rN0 m1 (by omega)) gt).2; omega)
 generalize t.red = q at gB hr
 obtain ⟨qk, qn, qz, qa⟩ := q
 refine exl [9000] [] s2 ?_
 refine jJ1 ?_
 refine exW.call (hr) ?_
 refine jJ1 ?_
 obtain ⟨c3, b3, i3, s3⟩ := zL0 bs hb c2 i2 6 (by omega)
 rcases b3 with _ | _
 ·refine exl [9000] [] s3 ?_
  refine jJ1 ?_
  obtain ⟨c4, b4, i4, s4⟩ := zL0 bs hb c3 i3 20 (by omega)
  rcases b4 with _ | _
  ·refine exl [9000] [] s4 ?_
   refine jJ1 ?_
   refine exW.fin (c4, (.mk qk qn qz qa)) ⟨i4, zC0 (by decide) gB⟩ ?_
   first | done | exact t7'
  ·refine exl [9000] [] s4 ?_
   refine jJ1 ?_
   obtain ⟨c5, u, i5, gu, s5⟩ := pt0 bs hb c4 i4
   obtain ⟨uk, un, uz, ua⟩ := u
   refine exl [9000] [] s5 ?_
   refine jJ1 ?_
   refine exW.fin (c5, (.mk uk un uz ua)) ⟨i5, gu⟩ ?_
   first | done | exact t7'
 ·refine exl [9000] [] s3 ?_
  refine jJ1 ?_
  refine exW.call (zi0 ⟨#[116, 111, 112]⟩ (.mk qk qn qz qa)) ?_
  refine jJ1 ?_
  refine exW.fin (c3, .mk 2 0 ⟨#[116, 111, 112]⟩ [(.mk qk qn qz qa)]) ⟨i3, zC0 (by decide) (wf0 _ _ (by decide) gB)⟩ ?_
  first | done | exact t7'
end Go.Ai
namespace Go.Ai
open Go.Proofs
set_option maxRecDepth 100000
end Go.Ai
