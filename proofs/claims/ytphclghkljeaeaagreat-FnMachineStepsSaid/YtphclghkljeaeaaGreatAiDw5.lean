/- Draws: bent terms. Written by mkdw4.py. -/
import Derived.Test.YtphclghkljeaeaaGreatAiDw3
import Derived.Test.YtphclghkljeaeaaGreatAiU2
set_option linter.unusedVariables false
set_option linter.unusedSimpArgs false
namespace Go.Ai
open Go.Proofs
set_option maxRecDepth 100000
def kU0 : Nat → Tm → Tm
 | 0, t => t
 | i + 1, t => .mk 2 0 ⟨#[103]⟩ [kU0 i t]
theorem wG1 {B : Nat} {t : Tm} (h : gT B t) : ∀ i, gT (B + 10 * i) (kU0 i t)
 | 0 => h
 | i + 1 => zC0 (by omega) (wf0 _ _ (by decide) (wG1 h i))
theorem zh1 (xs ys : List Tm) : Tm.sizes (xs ++ ys) = Tm.sizes xs + Tm.sizes ys := by
 induction xs with
 | nil => simp [Tm.sizes]
 | cons a xs ih => simp only [List.cons_append, Tm.sizes, ih]; omega
theorem vI1 {B : Nat} {k n : Int} {s : ByteArray} {ts : List Tm} {a : Tm} (hB : B ≤ 100000) (h : gT B (.mk k n s ts)) (ha : gT 10 a) : gT (B + 11) (.mk k n s (ts ++ [a])) := by
 obtain ⟨h1, h2⟩ := h
 simp only [Tm.wf, Tm.size] at h1 h2
 have hl := zI0 ts
 refine ⟨?_, ?_⟩
 ·simp only [Tm.wf]
  refine ⟨h1.1, h1.2.1, h1.2.2.1, ?_, (yf0 _).2 fun t ht => ?_⟩
  ·have : (200000 : Nat) ≤ maxLen := by decide
   rw [List.length_append, List.length_singleton]; omega
  ·rcases List.mem_append.1 ht with ht | ht
   ·exact (yf0 ts).1 h1.2.2.2.2 t ht
   ·rw [List.mem_singleton.1 ht]; exact ha.1
 ·simp only [Tm.size, zh1, Tm.sizes]
  have := ha.2; omega
theorem vG1 {B : Nat} {k n k' : Int} {s : ByteArray} {ts : List Tm} (h : gT B (.mk k n s ts)) (hk : (Lit.int .i64 k').wf = true) : gT B (.mk k' n s ts) := by
 obtain ⟨h1, h2⟩ := h
 simp only [Tm.wf, Tm.size] at h1 h2
 refine ⟨?_, ?_⟩
 ·simp only [Tm.wf]; exact ⟨hk, h1.2⟩
 ·simp only [Tm.size]; exact h2
theorem pd1 {B : Nat} {k n n' : Int} {s : ByteArray} {ts : List Tm} (h : gT B (.mk k n s ts)) (hk : (Lit.int .i64 n').wf = true) : gT B (.mk k n' s ts) := by
 obtain ⟨h1, h2⟩ := h
 simp only [Tm.wf, Tm.size] at h1 h2
 refine ⟨?_, ?_⟩
 ·simp only [Tm.wf]; exact ⟨h1.1, hk, h1.2.2⟩
 ·simp only [Tm.size]; exact h2
theorem vH1 {B : Nat} {k n : Int} {s s' : ByteArray} {ts : List Tm} (h : gT B (.mk k n s ts)) (hs : s'.size ≤ 8) : gT (B + 8) (.mk k n s' ts) := by
 obtain ⟨h1, h2⟩ := h
 simp only [Tm.wf, Tm.size] at h1 h2
 refine ⟨?_, ?_⟩
 ·simp only [Tm.wf]
  exact ⟨h1.1, h1.2.1, by have : (8 : Nat) ≤ maxLen := by decide
                          omega, h1.2.2.2⟩
 ·simp only [Tm.size]; omega
theorem be1 {B : Nat} {k n : Int} {s : ByteArray} {ts : List Tm} (h : gT B (.mk k n s ts)) : ts.length ≤ B := by
 have := h.2; have := zI0 ts; simp only [Tm.size] at *; omega
theorem jg1 (m : Nat) (h : m ≤ 3) : bT (m + 1) ≤ 310 := by
 have : m = 0 ∨ m = 1 ∨ m = 2 ∨ m = 3 := by omega
 rcases this with rfl | rfl | rfl | rfl <;> decide
theorem qb0 (n : Int) (h0 : -100 ≤ n) (h1 : n ≤ 100) : (Lit.int .i64 n).wf = true := by
 have e0 : IntKind.i64.min = -9223372036854775808 := by decide
 have e1 : IntKind.i64.max = 9223372036854775807 := by decide
 simp only [Lit.wf, Bool.and_eq_true, decide_eq_true_eq, e0, e1]
 omega
theorem pt0 (bs : List Int) (hb : wr0 bs) (c : Cur) (hc : c.i ≤ bs.length) : ∃ c' t, c'.i ≤ bs.length ∧ gT 1000 t ∧ qy0 Tryz.prog 81 [.one (.ptr 0 0)] [qq0 bs c] [qq0 bs c'] (tmV t) := by
 obtain ⟨c1, x1, i1, x1a, x1b, s1⟩ := zP0 bs hb c hc 4 (by omega)
 obtain ⟨m, rfl⟩ : ∃ m : Nat, x1 = (m : Int) := ⟨x1.toNat, by omega⟩
 have h1m : (1 + (m : Int)) = ((m + 1 : Nat) : Int) := by omega
 refine ex2 (sxe [] zE0 zA0 Tryz.func81 ?_)
 refine pp1 ?_
 refine x4' [9000] [] s1 ?_
 obtain ⟨c2, b2, i2, s2⟩ := zL0 bs hb c1 i1 2 (by omega)
 refine x4' [9000] [] s2 ?_
 obtain ⟨c3, k, nn, z, ts, i3, gt, h3⟩ := kF1 bs hb m (by omega) c2 i2 b2
 have gB : gT 310 (.mk k nn z ts) := zC0 (jg1 m (by omega)) gt
 rcases h3 with ⟨rfl, s3⟩ | s3
 ·refine exW.loan [9000] [] s3 rfl (by simp [go_sem, encS]) ?_
  refine pp1 ?_
  obtain ⟨c4, x4, i4, x4a, x4b, s4⟩ := zP0 bs hb c3 i3 12 (by omega)
  rcases (by omega : x4 = 0 ∨ x4 = 1 ∨ x4 = 2 ∨ x4 = 3 ∨ x4 = 4 ∨ 5 ≤ x4) with rfl | rfl | rfl | rfl | rfl | x4r
  ·refine x4' [9000] [] s4 ?_
   obtain ⟨c5, x5, i5, x5a, x5b, s5⟩ := zP0 bs hb c4 i4 5 (by omega)
   refine x4' [9000] [] s5 ?_
   refine exW.fin (c5, .mk x5 nn z []) ⟨i5, zC0 (by decide : 310 ≤ 1000) (vG1 gB (qb0 _ (by omega) (by omega)))⟩ ?_
   exact xh1
  ·refine x4' [9000] [] s4 ?_
   obtain ⟨c5, v, i5, hv, s5⟩ := xG0 bs hb c4 i4 [4, -1, 1] (by simp) (by decide)
   refine x4' [9000] [] s5 ?_
   refine exW.fin (c5, .mk k v z []) ⟨i5, zC0 (by decide : 310 ≤ 1000) (pd1 gB (qb0 _ (by simp at hv; omega) (by simp at hv; omega)))⟩ ?_
   exact xh1
  ·refine x4' [9000] [] s4 ?_
   obtain ⟨c5, y5, i5, z5, s5⟩ := zS0 bs hb c4 i4 [⟨#[]⟩, ⟨#[88]⟩, ⟨#[102]⟩, ⟨#[97, 66]⟩] (by simp) (by decide) (by decide)
   refine x4' [9000] [] s5 ?_
   refine exW.fin (c5, .mk k nn y5 []) ⟨i5, zC0 (by decide : 318 ≤ 1000) (vH1 gB z5)⟩ ?_
   exact xh1
  ·refine x4' [9000] [] s4 ?_
   refine exW.call (l3Word_sat 1) ?_
   refine pp1 ?_
   refine exW.fin (c4, .mk k nn z ([] ++ [wordT 1])) ⟨i4, zC0 (by decide : 321 ≤ 1000) (vI1 (by decide) gB (qs0 1 (by decide) (by decide)))⟩ ?_
   exact ⟨by simp [enc_len], fun _ => ⟨[], by simp, rfl, ⟨rfl, trivial⟩, by simp [Tm.enc, Tm.encs, toC, wordT], rfl⟩⟩
  ·refine x4' [9000] [] s4 ?_
   refine exW.fin (c4, kU0 16 (.mk k nn z [])) ⟨i4, zC0 (by decide : 470 ≤ 1000) (wG1 gB 16)⟩ ?_
   generalize hT : (Tm.mk k nn z []) = T0
   refine yL0 [] (ι := Nat) (fun i => mk 48 [(4, zH0 i), (3, .one (.ptr 3 0)), (2, .one (.ptr 2 0))] [(9000, qq0 bs c4), (3, .var ((kU0 i T0).enc.map .c)), (2, .var [iC 0, iC 0, sC ⟨⟨[]⟩⟩, .nil])] [.one (.ptr 9000 0)]) (fun i => i ≤ 16) (fun i => 16 - i) 0 (by decide) ?_ zE0 zA0 (by decide +kernel) ?_
   ·exact (fo0 3 3 (by simp [zJ0]; rfl) (by simp)).trans (le_mk (by simp [go_sem]) (by simp [go_sem, kU0, ← hT, Tm.enc, Tm.encs]))
   ·intro i hi
    rcases Nat.lt_or_ge i 16 with hlt | hge
    ·have h1 := zi0 ⟨#[103]⟩ (kU0 i T0)
     have hst : kU0 (i + 1) T0 = .mk 2 0 ⟨#[103]⟩ [kU0 i T0] := rfl
     have hl2 : ((i : Int) < 16) := by omega
     generalize kU0 i T0 = a at h1 hst ⊢
     obtain ⟨ka, na, za, ta⟩ := a
     simp -implicitDefEqProofs (disch := omega) only [go_sem, hl2, Tm.enc]
     refine c0' h1 ?_
     refine ⟨i + 1, by omega, by omega, ?_⟩
     rw [hst]
     exact lek
    ·have : i = 16 := by omega
     subst this
     have hl2 : ¬ (((16 : Nat) : Int) < 16) := by omega
     simp -implicitDefEqProofs (disch := omega) only [go_sem, hl2]
     exact t8'
  ·have nex40 : (x4 == 0) = false := by simp only [beq_eq_false_iff_ne, ne_eq]; omega
   have nex41 : (x4 == 1) = false := by simp only [beq_eq_false_iff_ne, ne_eq]; omega
   have nex42 : (x4 == 2) = false := by simp only [beq_eq_false_iff_ne, ne_eq]; omega
   have nex43 : (x4 == 3) = false := by simp only [beq_eq_false_iff_ne, ne_eq]; omega
   have nex44 : (x4 == 4) = false := by simp only [beq_eq_false_iff_ne, ne_eq]; omega
   refine exl [9000] [] s4 ?_
   refine nV1 ?_
   refine exW.fin (c4, .mk k nn z []) ⟨i4, zC0 (by decide : 310 ≤ 1000) gB⟩ ?_
   exact xh1
 ·refine exW.loan [9000] [9101] s3 rfl (by simp [go_sem, encS]) ?_
  refine pp1 ?_
  obtain ⟨c4, x4, i4, x4a, x4b, s4⟩ := zP0 bs hb c3 i3 12 (by omega)
  rcases (by omega : x4 = 0 ∨ x4 = 1 ∨ x4 = 2 ∨ x4 = 3 ∨ x4 = 4 ∨ 5 ≤ x4) with rfl | rfl | rfl | rfl | rfl | x4r
  ·refine x4' [9000] [] s4 ?_
   obtain ⟨c5, x5, i5, x5a, x5b, s5⟩ := zP0 bs hb c4 i4 5 (by omega)
   refine x4' [9000] [] s5 ?_
   refine exW.fin (c5, .mk x5 nn z ts) ⟨i5, zC0 (by decide : 310 ≤ 1000) (vG1 gB (qb0 _ (by omega) (by omega)))⟩ ?_
   exact fw1
  ·refine x4' [9000] [] s4 ?_
   obtain ⟨c5, v, i5, hv, s5⟩ := xG0 bs hb c4 i4 [4, -1, 1] (by simp) (by decide)
   refine x4' [9000] [] s5 ?_
   refine exW.fin (c5, .mk k v z ts) ⟨i5, zC0 (by decide : 310 ≤ 1000) (pd1 gB (qb0 _ (by simp at hv; omega) (by simp at hv; omega)))⟩ ?_
   exact fw1
  ·refine x4' [9000] [] s4 ?_
   obtain ⟨c5, y5, i5, z5, s5⟩ := zS0 bs hb c4 i4 [⟨#[]⟩, ⟨#[88]⟩, ⟨#[102]⟩, ⟨#[97, 66]⟩] (by simp) (by decide) (by decide)
   refine x4' [9000] [] s5 ?_
   refine exW.fin (c5, .mk k nn y5 ts) ⟨i5, zC0 (by decide : 318 ≤ 1000) (vH1 gB z5)⟩ ?_
   exact fw1
  ·refine x4' [9000] [] s4 ?_
   refine exW.call (l3Word_sat 1) ?_
   refine pp1 ?_
   refine exW.fin (c4, .mk k nn z (ts ++ [wordT 1])) ⟨i4, zC0 (by decide : 321 ≤ 1000) (vI1 (by decide) gB (qs0 1 (by decide) (by decide)))⟩ ?_
   have hlen := be1 gB
   rw [rowsOf_snoc]
   exact ⟨⟨by simp [enc_len], by omega, by omega⟩, fun _ => ⟨[], by simp, rfl, ⟨rfl, trivial⟩, ⟨by simp [vy0], by simp [rowsOf, Function.comp_def, toC, Tm.enc, encs_map]⟩, rfl⟩⟩
  ·refine x4' [9000] [] s4 ?_
   refine exW.fin (c4, kU0 16 (.mk k nn z ts)) ⟨i4, zC0 (by decide : 470 ≤ 1000) (wG1 gB 16)⟩ ?_
   generalize hT : (Tm.mk k nn z ts) = T0
   refine yL0 [] (ι := Nat) (fun i => mk 48 [(4, zH0 i), (3, .one (.ptr 3 0)), (2, .one (.ptr 2 0))] [(9000, qq0 bs c4), (3, .var ((kU0 i T0).enc.map .c)), (2, .var [iC 0, iC 0, sC ⟨⟨[]⟩⟩, .nil])] [.one (.ptr 9000 0)]) (fun i => i ≤ 16) (fun i => 16 - i) 0 (by decide) ?_ zE0 zA0 (by decide +kernel) ?_
   ·exact (wu0 (k := ts.length) (e := 34) (sz := 4) (rows := rowsOf Tm.enc ts) (fz := false) (rows' := ts.map Tm.enc) 3 3 9101 (by simp [zJ0]; rfl) (by simp) (by simp [zJ0]) (by simp [rowsOf]) (by simp [rowsOf, Function.comp_def, unN])).trans (le_mk (by simp [go_sem]) (by simp [go_sem, jo0, kU0, ← hT, Tm.enc, encs_map]))
   ·intro i hi
    rcases Nat.lt_or_ge i 16 with hlt | hge
    ·have h1 := zi0 ⟨#[103]⟩ (kU0 i T0)
     have hst : kU0 (i + 1) T0 = .mk 2 0 ⟨#[103]⟩ [kU0 i T0] := rfl
     have hl2 : ((i : Int) < 16) := by omega
     generalize kU0 i T0 = a at h1 hst ⊢
     obtain ⟨ka, na, za, ta⟩ := a
     simp -implicitDefEqProofs (disch := omega) only [go_sem, hl2, Tm.enc]
     refine c0' h1 ?_
     refine ⟨i + 1, by omega, by omega, ?_⟩
     rw [hst]
     exact lek
    ·have : i = 16 := by omega
     subst this
     have hl2 : ¬ (((16 : Nat) : Int) < 16) := by omega
     simp -implicitDefEqProofs (disch := omega) only [go_sem, hl2]
     exact t8'
  ·have nex40 : (x4 == 0) = false := by simp only [beq_eq_false_iff_ne, ne_eq]; omega
   have nex41 : (x4 == 1) = false := by simp only [beq_eq_false_iff_ne, ne_eq]; omega
   have nex42 : (x4 == 2) = false := by simp only [beq_eq_false_iff_ne, ne_eq]; omega
   have nex43 : (x4 == 3) = false := by simp only [beq_eq_false_iff_ne, ne_eq]; omega
   have nex44 : (x4 == 4) = false := by simp only [beq_eq_false_iff_ne, ne_eq]; omega
   refine exl [9000] [] s4 ?_
   refine nV1 ?_
   refine exW.fin (c4, .mk k nn z ts) ⟨i4, zC0 (by decide : 310 ≤ 1000) gB⟩ ?_
   exact fw1
theorem we_ne : ((⟨#[101]⟩ : ByteArray).toList == (⟨#[119, 111, 114, 100]⟩ : ByteArray).toList) = false := (eqS_ne _ _).2 (by decide)
def bE : Nat → Nat
 | 0 => 50
 | n + 1 => 10 + (bE n + bE n)
theorem fw0 (n : Nat) : 50 ≤ bE n := by
 induction n with
 | zero => simp [bE]
 | succ n ih => simp only [bE]; omega
theorem pS1 (n : Nat) : bT n ≤ bE n := by
 induction n with
 | zero => simp [bT, bE]
 | succ n ih => simp only [bT, bE]; omega
theorem bf0 (bs : List Int) (hb : wr0 bs) (n : Nat) (hn : decide ((n : Int) > 1) = false) (c : Cur) (hc : c.i ≤ bs.length) (g : Bool) : ∃ c' t, c'.i ≤ bs.length ∧ gT (bT n) t ∧ qy0 Tryz.prog 183 [.one (.ptr 0 0), qg0 ⟨#[119, 111, 114, 100]⟩, zH0 (n : Nat), boolV g] [qq0 bs c] [qq0 bs c'] (tmV t) := by
 rcases g with _ | _
 ·obtain ⟨c1, b1, i1, s1⟩ := zL0 bs hb c hc 2 (by omega)
  rcases b1 with _ | _
  ·refine ex2 (sxe [(6, ([⟨2, 3, [34, 35], [9]⟩, ⟨3, 8, [9], [38, 40, 41]⟩], [2, 8])), (19, ([⟨0, 5, [10], [88, 90, 91]⟩], [5])), (20, ([⟨0, 5, [10], [95, 97, 98]⟩], [5]))] zE0 zA0 Tryz.func183 ?_)
   refine na0 ?_
   refine x6' [9000] [] s1 ?_
   obtain ⟨c2, x2, i2, x2a, x2b, s2⟩ := zP0 bs hb c1 i1 4 (by omega)
   refine x6' [9000] [] s2 ?_
   refine exW.call (l3Word_sat x2) ?_
   refine na0 ?_
   refine exW.fin (c2, wordT x2) ⟨i2, zC0 (wo0 _) (qs0 x2 x2a x2b)⟩ ?_
   first | done | exact t1'
  ·refine ex2 (sxe [(6, ([⟨2, 3, [34, 35], [9]⟩, ⟨3, 8, [9], [38, 40, 41]⟩], [2, 8])), (19, ([⟨0, 5, [10], [88, 90, 91]⟩], [5])), (20, ([⟨0, 5, [10], [95, 97, 98]⟩], [5]))] zE0 zA0 Tryz.func183 ?_)
   refine na0 ?_
   refine x6' [9000] [] s1 ?_
   obtain ⟨c2, y2, i2, z2, s2⟩ := zS0 bs hb c1 i1 [⟨#[78]⟩, ⟨#[77]⟩] (by simp) (by decide) (by decide)
   refine x6' [9000] [] s2 ?_
   refine exW.call (qR0 y2) ?_
   refine na0 ?_
   refine exW.fin (c2, .mk 1 0 y2 []) ⟨i2, zC0 (wo0 _) (yl0 _ _ _ (by decide) (by decide) z2)⟩ ?_
   first | done | exact t1'
 ·obtain ⟨c1, x1, i1, x1a, x1b, s1⟩ := zP0 bs hb c hc 4 (by omega)
  refine ex2 (sxe [(6, ([⟨2, 3, [34, 35], [9]⟩, ⟨3, 8, [9], [38, 40, 41]⟩], [2, 8])), (19, ([⟨0, 5, [10], [88, 90, 91]⟩], [5])), (20, ([⟨0, 5, [10], [95, 97, 98]⟩], [5]))] zE0 zA0 Tryz.func183 ?_)
  refine na0 ?_
  refine x6' [9000] [] s1 ?_
  refine exW.call (l3Word_sat x1) ?_
  refine na0 ?_
  refine exW.fin (c1, wordT x1) ⟨i1, zC0 (wo0 _) (qs0 x1 x1a x1b)⟩ ?_
  first | done | exact t1'
theorem wq0 (bs : List Int) (hb : wr0 bs) (n : Nat) : n ≤ 20 → ∀ (c : Cur) (hc : c.i ≤ bs.length) (g : Bool), ∃ c' t, c'.i ≤ bs.length ∧ gT (bT n) t ∧ qy0 Tryz.prog 183 [.one (.ptr 0 0), qg0 ⟨#[119, 111, 114, 100]⟩, zH0 (n : Nat), boolV g] [qq0 bs c] [qq0 bs c'] (tmV t) := by
 induction n with
 | zero => exact fun _ c hc g => bf0 bs hb 0 (by decide) c hc g
 | succ m ih =>
  intro hm c hc g
  rcases hn : decide (((m + 1 : Nat) : Int) > 1) with _ | _
  ·exact bf0 bs hb _ hn c hc g
  have hm1 : ((m + 1 : Nat) : Int) - 1 = (m : Int) := by omega
  rcases g with _ | _
  ·obtain ⟨c1, b1, i1, s1⟩ := zL0 bs hb c hc 2 (by omega)
   rcases b1 with _ | _
   ·refine ex2 (sxe [(6, ([⟨2, 3, [34, 35], [9]⟩, ⟨3, 8, [9], [38, 40, 41]⟩], [2, 8])), (19, ([⟨0, 5, [10], [88, 90, 91]⟩], [5])), (20, ([⟨0, 5, [10], [95, 97, 98]⟩], [5]))] zE0 zA0 Tryz.func183 ?_)
    refine qK0 ?_
    refine x1' [9000] [] s1 ?_
    obtain ⟨c2, b2, i2, s2⟩ := zL0 bs hb c1 i1 3 (by omega)
    rcases b2 with _ | _
    ·refine x1' [9000] [] s2 ?_
     obtain ⟨c3, x3, i3, x3a, x3b, s3⟩ := zP0 bs hb c2 i2 4 (by omega)
     refine x1' [9000] [] s3 ?_
     refine exW.call (l3Word_sat x3) ?_
     refine qK0 ?_
     refine exW.fin (c3, wordT x3) ⟨i3, zC0 (wo0 _) (qs0 x3 x3a x3b)⟩ ?_
     first | done | exact t1'
    ·refine x1' [9000] [] s2 ?_
     obtain ⟨c3, a, i3, ga, s3⟩ := ih (by omega) c2 i2 false
     refine x1' [9000] [] s3 ?_
     obtain ⟨c4, y4, i4, z4, s4⟩ := zS0 bs hb c3 i3 [⟨#[112, 108, 117, 115]⟩, ⟨#[109, 105, 110, 117, 115]⟩, ⟨#[116, 105, 109, 101, 115]⟩] (by simp) (by decide) (by decide)
     refine exv [9000] s4 ?_
     refine qK0 ?_
     obtain ⟨c5, b, i5, gb, s5⟩ := ih (by omega) c4 i4 false
     refine exv [9000] s5 ?_
     refine qK0 ?_
     refine exW.call (zc0 y4 a b) ?_
     refine qK0 ?_
     refine exW.fin (c5, .mk 2 0 y4 [a, b]) ⟨i5, qF0 _ _ _ z4 ga gb⟩ ?_
     first | done | exact t1'
   ·refine ex2 (sxe [(6, ([⟨2, 3, [34, 35], [9]⟩, ⟨3, 8, [9], [38, 40, 41]⟩], [2, 8])), (19, ([⟨0, 5, [10], [88, 90, 91]⟩], [5])), (20, ([⟨0, 5, [10], [95, 97, 98]⟩], [5]))] zE0 zA0 Tryz.func183 ?_)
    refine qK0 ?_
    refine x1' [9000] [] s1 ?_
    obtain ⟨c2, y2, i2, z2, s2⟩ := zS0 bs hb c1 i1 [⟨#[78]⟩, ⟨#[77]⟩] (by simp) (by decide) (by decide)
    refine x1' [9000] [] s2 ?_
    refine exW.call (qR0 y2) ?_
    refine qK0 ?_
    refine exW.fin (c2, .mk 1 0 y2 []) ⟨i2, zC0 (wo0 _) (yl0 _ _ _ (by decide) (by decide) z2)⟩ ?_
    first | done | exact t1'
  ·obtain ⟨c1, b1, i1, s1⟩ := zL0 bs hb c hc 3 (by omega)
   rcases b1 with _ | _
   ·refine ex2 (sxe [(6, ([⟨2, 3, [34, 35], [9]⟩, ⟨3, 8, [9], [38, 40, 41]⟩], [2, 8])), (19, ([⟨0, 5, [10], [88, 90, 91]⟩], [5])), (20, ([⟨0, 5, [10], [95, 97, 98]⟩], [5]))] zE0 zA0 Tryz.func183 ?_)
    refine qK0 ?_
    refine x1' [9000] [] s1 ?_
    obtain ⟨c2, x2, i2, x2a, x2b, s2⟩ := zP0 bs hb c1 i1 4 (by omega)
    refine x1' [9000] [] s2 ?_
    refine exW.call (l3Word_sat x2) ?_
    refine qK0 ?_
    refine exW.fin (c2, wordT x2) ⟨i2, zC0 (wo0 _) (qs0 x2 x2a x2b)⟩ ?_
    first | done | exact t1'
   ·refine ex2 (sxe [(6, ([⟨2, 3, [34, 35], [9]⟩, ⟨3, 8, [9], [38, 40, 41]⟩], [2, 8])), (19, ([⟨0, 5, [10], [88, 90, 91]⟩], [5])), (20, ([⟨0, 5, [10], [95, 97, 98]⟩], [5]))] zE0 zA0 Tryz.func183 ?_)
    refine qK0 ?_
    refine x1' [9000] [] s1 ?_
    obtain ⟨c2, a, i2, ga, s2⟩ := ih (by omega) c1 i1 true
    refine x1' [9000] [] s2 ?_
    obtain ⟨c3, y3, i3, z3, s3⟩ := zS0 bs hb c2 i2 [⟨#[112, 108, 117, 115]⟩, ⟨#[109, 105, 110, 117, 115]⟩, ⟨#[116, 105, 109, 101, 115]⟩] (by simp) (by decide) (by decide)
    refine exv [9000] s3 ?_
    refine qK0 ?_
    obtain ⟨c4, b, i4, gb, s4⟩ := ih (by omega) c3 i3 true
    refine exv [9000] s4 ?_
    refine qK0 ?_
    refine exW.call (zc0 y3 a b) ?_
    refine qK0 ?_
    refine exW.fin (c4, .mk 2 0 y3 [a, b]) ⟨i4, qF0 _ _ _ z3 ga gb⟩ ?_
    first | done | exact t1'
theorem wa1 (bs : List Int) (hb : wr0 bs) (n : Nat) (hn : (n : Int) < 2) (c : Cur) (hc : c.i ≤ bs.length) (g : Bool) : ∃ c' t, c'.i ≤ bs.length ∧ gT (bE n) t ∧ qy0 Tryz.prog 183 [.one (.ptr 0 0), qg0 ⟨#[101]⟩, zH0 (n : Nat), boolV g] [qq0 bs c] [qq0 bs c'] (tmV t) := by
 rcases g with _ | _
 ·obtain ⟨c1, b1, i1, s1⟩ := zL0 bs hb c hc 2 (by omega)
  rcases b1 with _ | _
  ·refine ex2 (sxe [(6, ([⟨2, 3, [34, 35], [9]⟩, ⟨3, 8, [9], [38, 40, 41]⟩], [2, 8])), (19, ([⟨0, 5, [10], [88, 90, 91]⟩], [5])), (20, ([⟨0, 5, [10], [95, 97, 98]⟩], [5]))] zE0 zA0 Tryz.func183 ?_)
   refine kM1 ?_
   refine x9' [9000] [] s1 ?_
   obtain ⟨c2, b2, i2, s2⟩ := zL0 bs hb c1 i1 2 (by omega)
   rcases b2 with _ | _
   ·refine x9' [9000] [] s2 ?_
    obtain ⟨c3, y3, i3, z3, s3⟩ := zS0 bs hb c2 i2 [⟨#[97]⟩, ⟨#[98]⟩] (by simp) (by decide) (by decide)
    refine x9' [9000] [] s3 ?_
    refine exW.call (qB0 y3 []) ?_
    refine kM1 ?_
    refine exW.fin (c3, .mk 2 0 y3 []) ⟨i3, zC0 (Nat.le_trans (by decide : 10 ≤ 50) (fw0 _)) (jl0 y3 z3)⟩ ?_
    first | done | exact t1'
   ·refine x9' [9000] [] s2 ?_
    obtain ⟨c3, a, i3, ga, s3⟩ := wq0 bs hb 1 (by omega) c2 i2 false
    refine x9' [9000] [] s3 ?_
    refine exW.call (zi0 ⟨#[110, 117, 109]⟩ a) ?_
    refine kM1 ?_
    refine exW.fin (c3, .mk 2 0 ⟨#[110, 117, 109]⟩ [a]) ⟨i3, zC0 (Nat.le_trans (by decide : 10 + bT 1 ≤ 50) (fw0 _)) (wf0 _ _ (by decide) ga)⟩ ?_
    first | done | exact t1'
  ·refine ex2 (sxe [(6, ([⟨2, 3, [34, 35], [9]⟩, ⟨3, 8, [9], [38, 40, 41]⟩], [2, 8])), (19, ([⟨0, 5, [10], [88, 90, 91]⟩], [5])), (20, ([⟨0, 5, [10], [95, 97, 98]⟩], [5]))] zE0 zA0 Tryz.func183 ?_)
   refine kM1 ?_
   refine x9' [9000] [] s1 ?_
   obtain ⟨c2, y2, i2, z2, s2⟩ := zS0 bs hb c1 i1 [⟨#[88]⟩, ⟨#[89]⟩] (by simp) (by decide) (by decide)
   refine x9' [9000] [] s2 ?_
   refine exW.call (qR0 y2) ?_
   refine kM1 ?_
   refine exW.fin (c2, .mk 1 0 y2 []) ⟨i2, zC0 (Nat.le_trans (by decide : 10 ≤ 50) (fw0 _)) (yl0 _ _ _ (by decide) (by decide) z2)⟩ ?_
   first | done | exact t1'
 ·obtain ⟨c1, b1, i1, s1⟩ := zL0 bs hb c hc 2 (by omega)
  rcases b1 with _ | _
  ·refine ex2 (sxe [(6, ([⟨2, 3, [34, 35], [9]⟩, ⟨3, 8, [9], [38, 40, 41]⟩], [2, 8])), (19, ([⟨0, 5, [10], [88, 90, 91]⟩], [5])), (20, ([⟨0, 5, [10], [95, 97, 98]⟩], [5]))] zE0 zA0 Tryz.func183 ?_)
   refine kM1 ?_
   refine x9' [9000] [] s1 ?_
   obtain ⟨c2, y2, i2, z2, s2⟩ := zS0 bs hb c1 i1 [⟨#[97]⟩, ⟨#[98]⟩] (by simp) (by decide) (by decide)
   refine x9' [9000] [] s2 ?_
   refine exW.call (qB0 y2 []) ?_
   refine kM1 ?_
   refine exW.fin (c2, .mk 2 0 y2 []) ⟨i2, zC0 (Nat.le_trans (by decide : 10 ≤ 50) (fw0 _)) (jl0 y2 z2)⟩ ?_
   first | done | exact t1'
  ·refine ex2 (sxe [(6, ([⟨2, 3, [34, 35], [9]⟩, ⟨3, 8, [9], [38, 40, 41]⟩], [2, 8])), (19, ([⟨0, 5, [10], [88, 90, 91]⟩], [5])), (20, ([⟨0, 5, [10], [95, 97, 98]⟩], [5]))] zE0 zA0 Tryz.func183 ?_)
   refine kM1 ?_
   refine x9' [9000] [] s1 ?_
   obtain ⟨c2, a, i2, ga, s2⟩ := wq0 bs hb 1 (by omega) c1 i1 true
   refine x9' [9000] [] s2 ?_
   refine exW.call (zi0 ⟨#[110, 117, 109]⟩ a) ?_
   refine kM1 ?_
   refine exW.fin (c2, .mk 2 0 ⟨#[110, 117, 109]⟩ [a]) ⟨i2, zC0 (Nat.le_trans (by decide : 10 + bT 1 ≤ 50) (fw0 _)) (wf0 _ _ (by decide) ga)⟩ ?_
   first | done | exact t1'
theorem gp0 (bs : List Int) (hb : wr0 bs) (n : Nat) : n ≤ 20 → ∀ (c : Cur) (hc : c.i ≤ bs.length) (g : Bool), ∃ c' t, c'.i ≤ bs.length ∧ gT (bE n) t ∧ qy0 Tryz.prog 183 [.one (.ptr 0 0), qg0 ⟨#[101]⟩, zH0 (n : Nat), boolV g] [qq0 bs c] [qq0 bs c'] (tmV t) := by
 induction n with
 | zero => exact fun _ c hc g => wa1 bs hb 0 (by decide) c hc g
 | succ m ih =>
  intro hm c hc g
  by_cases hn : ((m + 1 : Nat) : Int) < 2
  ·exact wa1 bs hb _ hn c hc g
  have hm1 : ((m + 1 : Nat) : Int) - 1 = (m : Int) := by omega
  rcases g with _ | _
  ·obtain ⟨c1, b1, i1, s1⟩ := zL0 bs hb c hc 5 (by omega)
   rcases b1 with _ | _
   ·refine ex2 (sxe [(6, ([⟨2, 3, [34, 35], [9]⟩, ⟨3, 8, [9], [38, 40, 41]⟩], [2, 8])), (19, ([⟨0, 5, [10], [88, 90, 91]⟩], [5])), (20, ([⟨0, 5, [10], [95, 97, 98]⟩], [5]))] zE0 zA0 Tryz.func183 ?_)
    refine nZ0 ?_
    refine x3' [9000] [] s1 ?_
    obtain ⟨c2, a, i2, ga, s2⟩ := ih (by omega) c1 i1 false
    refine x3' [9000] [] s2 ?_
    obtain ⟨c3, x3, i3, x3a, x3b, s3⟩ := zP0 bs hb c2 i2 3 (by omega)
    rcases (by omega : x3 = 0 ∨ x3 = 1 ∨ 2 ≤ x3) with rfl | rfl | x3r
    ·refine x3' [9000] [] s3 ?_
     refine exW.call (zi0 ⟨#[103]⟩ a) ?_
     refine nZ0 ?_
     refine exW.fin (c3, .mk 2 0 ⟨#[103]⟩ [a]) ⟨i3, zC0 (by simp only [bE]; omega) (wf0 _ _ (by decide) ga)⟩ ?_
     first | done | exact t1'
    ·refine x3' [9000] [] s3 ?_
     obtain ⟨c4, b, i4, gb, s4⟩ := wq0 bs hb m (by omega) c3 i3 false
     refine exv [9000] s4 ?_
     refine nZ0 ?_
     refine exW.call (zc0 ⟨#[104]⟩ a b) ?_
     refine nZ0 ?_
     refine exW.fin (c4, .mk 2 0 ⟨#[104]⟩ [a, b]) ⟨i4, qF0 _ _ _ (by decide) ga (zC0 (pS1 m) gb)⟩ ?_
     first | done | exact t1'
    ·have nex30 : (x3 == 0) = false := by simp only [beq_eq_false_iff_ne, ne_eq]; omega
     have nex31 : (x3 == 1) = false := by simp only [beq_eq_false_iff_ne, ne_eq]; omega
     refine exl [9000] [] s3 ?_
     refine pA1 ?_
     obtain ⟨c4, b, i4, gb, s4⟩ := ih (by omega) c3 i3 false
     refine exv [9000] s4 ?_
     refine pA1 ?_
     refine exW.call (zc0 ⟨#[102]⟩ a b) ?_
     refine pA1 ?_
     refine exW.fin (c4, .mk 2 0 ⟨#[102]⟩ [a, b]) ⟨i4, qF0 _ _ _ (by decide) ga gb⟩ ?_
     first | done | exact t1'
   ·refine ex2 (sxe [(6, ([⟨2, 3, [34, 35], [9]⟩, ⟨3, 8, [9], [38, 40, 41]⟩], [2, 8])), (19, ([⟨0, 5, [10], [88, 90, 91]⟩], [5])), (20, ([⟨0, 5, [10], [95, 97, 98]⟩], [5]))] zE0 zA0 Tryz.func183 ?_)
    refine nZ0 ?_
    refine x3' [9000] [] s1 ?_
    obtain ⟨c2, b2, i2, s2⟩ := zL0 bs hb c1 i1 2 (by omega)
    rcases b2 with _ | _
    ·refine x3' [9000] [] s2 ?_
     obtain ⟨c3, b3, i3, s3⟩ := zL0 bs hb c2 i2 2 (by omega)
     rcases b3 with _ | _
     ·refine x3' [9000] [] s3 ?_
      obtain ⟨c4, y4, i4, z4, s4⟩ := zS0 bs hb c3 i3 [⟨#[97]⟩, ⟨#[98]⟩] (by simp) (by decide) (by decide)
      refine x3' [9000] [] s4 ?_
      refine exW.call (qB0 y4 []) ?_
      refine nZ0 ?_
      refine exW.fin (c4, .mk 2 0 y4 []) ⟨i4, zC0 (Nat.le_trans (by decide : 10 ≤ 50) (fw0 _)) (jl0 y4 z4)⟩ ?_
      first | done | exact t1'
     ·refine x3' [9000] [] s3 ?_
      obtain ⟨c4, a, i4, ga, s4⟩ := wq0 bs hb 1 (by omega) c3 i3 false
      refine x3' [9000] [] s4 ?_
      refine exW.call (zi0 ⟨#[110, 117, 109]⟩ a) ?_
      refine nZ0 ?_
      refine exW.fin (c4, .mk 2 0 ⟨#[110, 117, 109]⟩ [a]) ⟨i4, zC0 (Nat.le_trans (by decide : 10 + bT 1 ≤ 50) (fw0 _)) (wf0 _ _ (by decide) ga)⟩ ?_
      first | done | exact t1'
    ·refine x3' [9000] [] s2 ?_
     obtain ⟨c3, y3, i3, z3, s3⟩ := zS0 bs hb c2 i2 [⟨#[88]⟩, ⟨#[89]⟩] (by simp) (by decide) (by decide)
     refine x3' [9000] [] s3 ?_
     refine exW.call (qR0 y3) ?_
     refine nZ0 ?_
     refine exW.fin (c3, .mk 1 0 y3 []) ⟨i3, zC0 (Nat.le_trans (by decide : 10 ≤ 50) (fw0 _)) (yl0 _ _ _ (by decide) (by decide) z3)⟩ ?_
     first | done | exact t1'
  ·obtain ⟨c1, b1, i1, s1⟩ := zL0 bs hb c hc 5 (by omega)
   rcases b1 with _ | _
   ·refine ex2 (sxe [(6, ([⟨2, 3, [34, 35], [9]⟩, ⟨3, 8, [9], [38, 40, 41]⟩], [2, 8])), (19, ([⟨0, 5, [10], [88, 90, 91]⟩], [5])), (20, ([⟨0, 5, [10], [95, 97, 98]⟩], [5]))] zE0 zA0 Tryz.func183 ?_)
    refine nZ0 ?_
    refine x3' [9000] [] s1 ?_
    obtain ⟨c2, a, i2, ga, s2⟩ := ih (by omega) c1 i1 true
    refine x3' [9000] [] s2 ?_
    obtain ⟨c3, x3, i3, x3a, x3b, s3⟩ := zP0 bs hb c2 i2 3 (by omega)
    rcases (by omega : x3 = 0 ∨ x3 = 1 ∨ 2 ≤ x3) with rfl | rfl | x3r
    ·refine x3' [9000] [] s3 ?_
     refine exW.call (zi0 ⟨#[103]⟩ a) ?_
     refine nZ0 ?_
     refine exW.fin (c3, .mk 2 0 ⟨#[103]⟩ [a]) ⟨i3, zC0 (by simp only [bE]; omega) (wf0 _ _ (by decide) ga)⟩ ?_
     first | done | exact t1'
    ·refine x3' [9000] [] s3 ?_
     obtain ⟨c4, b, i4, gb, s4⟩ := wq0 bs hb m (by omega) c3 i3 true
     refine exv [9000] s4 ?_
     refine nZ0 ?_
     refine exW.call (zc0 ⟨#[104]⟩ a b) ?_
     refine nZ0 ?_
     refine exW.fin (c4, .mk 2 0 ⟨#[104]⟩ [a, b]) ⟨i4, qF0 _ _ _ (by decide) ga (zC0 (pS1 m) gb)⟩ ?_
     first | done | exact t1'
    ·have nex30 : (x3 == 0) = false := by simp only [beq_eq_false_iff_ne, ne_eq]; omega
     have nex31 : (x3 == 1) = false := by simp only [beq_eq_false_iff_ne, ne_eq]; omega
     refine exl [9000] [] s3 ?_
     refine pA1 ?_
     obtain ⟨c4, b, i4, gb, s4⟩ := ih (by omega) c3 i3 true
     refine exv [9000] s4 ?_
     refine pA1 ?_
     refine exW.call (zc0 ⟨#[102]⟩ a b) ?_
     refine pA1 ?_
     refine exW.fin (c4, .mk 2 0 ⟨#[102]⟩ [a, b]) ⟨i4, qF0 _ _ _ (by decide) ga gb⟩ ?_
     first | done | exact t1'
   ·refine ex2 (sxe [(6, ([⟨2, 3, [34, 35], [9]⟩, ⟨3, 8, [9], [38, 40, 41]⟩], [2, 8])), (19, ([⟨0, 5, [10], [88, 90, 91]⟩], [5])), (20, ([⟨0, 5, [10], [95, 97, 98]⟩], [5]))] zE0 zA0 Tryz.func183 ?_)
    refine nZ0 ?_
    refine x3' [9000] [] s1 ?_
    obtain ⟨c2, b2, i2, s2⟩ := zL0 bs hb c1 i1 2 (by omega)
    rcases b2 with _ | _
    ·refine x3' [9000] [] s2 ?_
     obtain ⟨c3, y3, i3, z3, s3⟩ := zS0 bs hb c2 i2 [⟨#[97]⟩, ⟨#[98]⟩] (by simp) (by decide) (by decide)
     refine x3' [9000] [] s3 ?_
     refine exW.call (qB0 y3 []) ?_
     refine nZ0 ?_
     refine exW.fin (c3, .mk 2 0 y3 []) ⟨i3, zC0 (Nat.le_trans (by decide : 10 ≤ 50) (fw0 _)) (jl0 y3 z3)⟩ ?_
     first | done | exact t1'
    ·refine x3' [9000] [] s2 ?_
     obtain ⟨c3, a, i3, ga, s3⟩ := wq0 bs hb 1 (by omega) c2 i2 true
     refine x3' [9000] [] s3 ?_
     refine exW.call (zi0 ⟨#[110, 117, 109]⟩ a) ?_
     refine nZ0 ?_
     refine exW.fin (c3, .mk 2 0 ⟨#[110, 117, 109]⟩ [a]) ⟨i3, zC0 (Nat.le_trans (by decide : 10 + bT 1 ≤ 50) (fw0 _)) (wf0 _ _ (by decide) ga)⟩ ?_
     first | done | exact t1'
end Go.Ai
