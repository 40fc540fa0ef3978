/- Draws: the cursor, bytes, numbers below a bound, picks. -/
import Derived.Test.YtphclghkljeaeaaGreatAiRows
import Derived.Test.YtphclghkljeaeaaGreatAiSeat
import Derived.Test.YtphclghkljeaeaaGreatAiMarks
import Derived.Test.YtphclghkljeaeaaGreatAiDynE
import Derived.Test.YtphclghkljeaeaaGreatAiRow2
import Derived.Test.YtphclghkljeaeaaGreatAiV2
set_option linter.unusedVariables false
set_option linter.unusedSimpArgs false
namespace Go.Ai
open Go.Proofs
set_option maxRecDepth 100000
def mC0 (x : Int) : List C := [.v (.int .u8 x)]
structure Cur where
 i : Nat
 h : Int
abbrev qq0 (bs : List Int) (c : Cur) : LB := .var [.c (.sl (bs.map mC0)), iC c.i, iC c.h]
def wr0 (bs : List Int) : Prop := bs.length ≤ 1048576 ∧ ∀ x, x ∈ bs → 0 ≤ x ∧ x ≤ 255
def jH1 (a b : Int) : Int := IntKind.i64.wrap ((BitVec.ofInt IntKind.i64.bits a &&& BitVec.ofInt IntKind.i64.bits b).toNat : Nat)
def sx1 (a b : Int) : Int := IntKind.i64.wrap ((BitVec.ofInt IntKind.i64.bits a ^^^ BitVec.ofInt IntKind.i64.bits b).toNat : Nat)
theorem rL0 (a : Int) : 0 ≤ jH1 a 255 ∧ jH1 a 255 ≤ 255 := by
 unfold jH1
 have h : (BitVec.ofInt IntKind.i64.bits a &&& BitVec.ofInt IntKind.i64.bits 255).toNat ≤ 255 := by
  rw [BitVec.toNat_and]
  exact Nat.le_trans Nat.and_le_right (by decide)
 generalize (BitVec.ofInt IntKind.i64.bits a &&& BitVec.ofInt IntKind.i64.bits 255).toNat = n at h
 have h0 : -9223372036854775808 ≤ (n : Int) := by omega
 have h1 : (n : Int) ≤ 9223372036854775807 := by omega
 rw [IntWalk.i64_in _ ⟨h0, h1⟩]; omega
def hN (h : Int) : Int := IntKind.i64.wrap (IntKind.i64.wrap (h * 6364136223846793005) + 1442695040888963407)
def xN (h : Int) : Int := jH1 (sx1 (h.fdiv (2 ^ 33)) (h.fdiv (2 ^ 45))) 255
def qY0 (bs : List Int) (c : Cur) : Int × Cur :=
 if h : c.i < bs.length then (jH1 (IntKind.i64.wrap (xN (hN c.h) + bs[c.i])) 255, ⟨c.i + 1, hN c.h⟩) else (xN (hN c.h), ⟨c.i, hN c.h⟩)
theorem yi0 (bs : List Int) (c : Cur) : 0 ≤ (qY0 bs c).1 ∧ (qY0 bs c).1 ≤ 255 := by
 unfold qY0
 split
 ·exact rL0 _
 ·exact rL0 _
theorem pM0 (bs : List Int) (hb : wr0 bs) (c : Cur) (hc : c.i ≤ bs.length) : qy0 Tryz.prog 160 [.one (.ptr 0 0)] [qq0 bs c] [qq0 bs (qY0 bs c).2] (zH0 (qY0 bs c).1) := by
 obtain ⟨i, h⟩ := c
 simp only at hc
 have hb1 := hb.1
 obtain ⟨r, hr⟩ : ∃ r, r = qY0 bs ⟨i, h⟩ := ⟨_, rfl⟩
 rw [← hr]
 unfold qY0 at hr
 refine zq0 zE0 zA0 Tryz.func160 rfl rfl rfl (by decide +kernel) (by decide +kernel) (Nat.le_of_ble_eq_true rfl) (by simp [go_sem]) (by simp [go_sem]) (by simp [go_sem]) (by simp [go_sem]) (by simp [go_sem]) rfl ?_
 rcases Nat.lt_or_ge i bs.length with hlt | hge
 ·have hg := zD0 (ec := mC0) hlt
  have hx := hb.2 _ (List.getElem_mem hlt)
  rw [dif_pos hlt] at hr
  simp only at hr
  generalize bs[i] = x at hg hx hr
  simp -implicitDefEqProofs (disch := omega) only [go_sem, hg, hlt, mC0]
  refine ⟨by decide, fun _ => ⟨by decide, fun _ => ⟨[], by simp, rfl, ⟨?_, trivial⟩, ?_⟩⟩⟩
  ·rw [hr]; rfl
  ·rw [hr]; rfl
 ·rw [dif_neg (by simpa using hge)] at hr
  have hnl : ¬ i < bs.length := by omega
  simp -implicitDefEqProofs (disch := omega) only [go_sem, hnl]
  refine ⟨by decide, fun _ => ⟨by decide, fun _ => ⟨[], by simp, rfl, ⟨?_, trivial⟩, ?_⟩⟩⟩
  ·rw [hr]; rfl
  ·rw [hr]; rfl
theorem kj0 (bs : List Int) (c : Cur) (hc : c.i ≤ bs.length) : (qY0 bs c).2.i ≤ bs.length := by
 unfold qY0
 split
 ·simp only; omega
 ·exact hc
def vI0 (bs : List Int) (c : Cur) (n : Int) : Int × Cur :=
 if n ≤ 0 then (0, c) else
 let a := qY0 bs c
 if n ≤ 256 then (a.1.tmod n, a.2) else
 let b := qY0 bs a.2
 let d := qY0 bs b.2
 let e := qY0 bs d.2
 ((a.1 * 16777216 + b.1 * 65536 + d.1 * 256 + e.1).tmod n, e.2)
theorem jk1 (bs : List Int) (c : Cur) (n : Int) (hc : c.i ≤ bs.length) : (vI0 bs c n).2.i ≤ bs.length := by
 have h1 := kj0 bs c hc
 have h2 := kj0 bs _ h1
 have h3 := kj0 bs _ h2
 have h4 := kj0 bs _ h3
 unfold vI0
 split
 ·exact hc
 ·split
  ·exact h1
  ·exact h4
theorem do0 (bs : List Int) (c : Cur) (n : Int) (hn : 0 < n) : 0 ≤ (vI0 bs c n).1 ∧ (vI0 bs c n).1 < n := by
 have h1 := yi0 bs c
 have h2 := yi0 bs (qY0 bs c).2
 have h3 := yi0 bs (qY0 bs (qY0 bs c).2).2
 have h4 := yi0 bs (qY0 bs (qY0 bs (qY0 bs c).2).2).2
 unfold vI0
 rw [if_neg (by omega)]
 split
 ·exact ⟨Int.tmod_nonneg _ h1.1, Int.tmod_lt_of_pos _ hn⟩
 ·exact ⟨Int.tmod_nonneg _ (by omega), Int.tmod_lt_of_pos _ hn⟩
theorem qT1 (bs : List Int) (hb : wr0 bs) (c : Cur) (hc : c.i ≤ bs.length) (n : Int) : qy0 Tryz.prog 92 [.one (.ptr 0 0), zH0 n] [qq0 bs c] [qq0 bs (vI0 bs c n).2] (zH0 (vI0 bs c n).1) := by
 have i1 := kj0 bs c hc
 have i2 := kj0 bs _ i1
 have i3 := kj0 bs _ i2
 have s1 := pM0 bs hb c hc
 have s2 := pM0 bs hb _ i1
 have s3 := pM0 bs hb _ i2
 have s4 := pM0 bs hb _ i3
 have o1 := yi0 bs c
 have o2 := yi0 bs (qY0 bs c).2
 have o3 := yi0 bs (qY0 bs (qY0 bs c).2).2
 have o4 := yi0 bs (qY0 bs (qY0 bs (qY0 bs c).2).2).2
 obtain ⟨r, hr⟩ : ∃ r, r = vI0 bs c n := ⟨_, rfl⟩
 rw [← hr]
 unfold vI0 at hr
 simp only at hr
 generalize (qY0 bs (qY0 bs (qY0 bs (qY0 bs c).2).2).2) = p4 at *
 generalize (qY0 bs (qY0 bs (qY0 bs c).2).2) = p3 at *
 generalize (qY0 bs (qY0 bs c).2) = p2 at *
 generalize (qY0 bs c) = p1 at *
 obtain ⟨x1, c1⟩ := p1
 obtain ⟨x2, c2⟩ := p2
 obtain ⟨x3, c3⟩ := p3
 obtain ⟨x4, c4⟩ := p4
 simp only at *
 refine zq0 zE0 zA0 Tryz.func92 rfl rfl rfl (by decide +kernel) (by decide +kernel) (Nat.le_of_ble_eq_true rfl) (by simp [go_sem]) (by simp [go_sem]) (by simp [go_sem]) (by simp [go_sem]) (by simp [go_sem]) rfl ?_
 refine qI0 ?_
 refine ⟨fun h1 => ?_, fun h1 => ⟨fun h2 => ?_, fun h2 => ?_⟩⟩
 ·rw [hr, if_pos h1]
  exact xh1
 ·rw [if_neg h1, if_pos h2] at hr
  refine LoanK.con [9000] [] (s1) rfl (by simp [go_sem]) ?_
  refine qI0 ?_
  refine ⟨by omega, fun _ => ⟨[], by simp, rfl, ⟨?_, trivial⟩, ?_⟩⟩ <;> rw [hr]
 ·rw [if_neg h1, if_neg h2] at hr
  refine LoanK.con [9000] [] (s1) rfl (by simp [go_sem]) ?_
  refine qI0 ?_
  refine LoanK.con [9000] [] (s2) rfl (by simp [go_sem]) ?_
  refine qI0 ?_
  refine LoanK.con [9000] [] (s3) rfl (by simp [go_sem]) ?_
  refine qI0 ?_
  refine LoanK.con [9000] [] (s4) rfl (by simp [go_sem]) ?_
  refine qI0 ?_
  refine ⟨by omega, fun _ => ⟨[], by simp, rfl, ⟨?_, trivial⟩, ?_⟩⟩ <;> rw [hr]
theorem zP0 (bs : List Int) (hb : wr0 bs) (c : Cur) (hc : c.i ≤ bs.length) (n : Int) (hn : 0 < n) : ∃ c' x, c'.i ≤ bs.length ∧ 0 ≤ x ∧ x < n ∧ qy0 Tryz.prog 92 [.one (.ptr 0 0), zH0 n] [qq0 bs c] [qq0 bs c'] (zH0 x) :=
 ⟨_, _, jk1 bs c n hc, (do0 bs c n hn).1, (do0 bs c n hn).2, qT1 bs hb c hc n⟩
theorem zL0 (bs : List Int) (hb : wr0 bs) (c : Cur) (hc : c.i ≤ bs.length) (n : Int) (hn : 0 < n) : ∃ c' b, c'.i ≤ bs.length ∧ qy0 Tryz.prog 116 [.one (.ptr 0 0), zH0 n] [qq0 bs c] [qq0 bs c'] (boolV b) := by
 obtain ⟨c1, x, i1, _, _, s1⟩ := zP0 bs hb c hc n hn
 refine ⟨c1, (x == 0), i1, ?_⟩
 refine zq0 zE0 zA0 Tryz.func116 rfl rfl rfl (by decide +kernel) (by decide +kernel) (Nat.le_of_ble_eq_true rfl) (by simp [go_sem]) (by simp [go_sem]) (by simp [go_sem]) (by simp [go_sem]) (by simp [go_sem]) rfl ?_
 refine zr0 ?_
 refine LoanK.con [9000] [] (s1) rfl (by simp [go_sem]) ?_
 refine zr0 ?_
 exact t8'
theorem xV1 (bs : List Int) (hb : wr0 bs) (c : Cur) (hc : c.i ≤ bs.length) (xs : List ByteArray) (hx : xs ≠ []) (hl : xs.length ≤ 1000000) : ∃ c' s, c'.i ≤ bs.length ∧ s ∈ xs ∧ qy0 Tryz.prog 155 [.one (.ptr 0 0), slV (xs.map encS)] [qq0 bs c] [qq0 bs c'] (qg0 s) := by
 have hlp : 0 < xs.length := List.length_pos_iff.2 hx
 obtain ⟨c1, x, i1, x0, x1, s1⟩ := zP0 bs hb c hc xs.length (by omega)
 have hxl : x.toNat < xs.length := by omega
 refine ⟨c1, xs[x.toNat], i1, List.getElem_mem hxl, ?_⟩
 have hg := zD0 (ec := encS) hxl
 generalize xs[x.toNat] = y at hg
 refine zq0 zE0 zA0 Tryz.func155 rfl rfl rfl (by decide +kernel) (by decide +kernel) (Nat.le_of_ble_eq_true rfl) (by simp [go_sem]) (by simp [go_sem]) (by simp [go_sem]) (by simp [go_sem]) (by simp [go_sem]) rfl ?_
 refine zr0 ?_
 refine LoanK.con [9000] [] (s1) rfl (by simp [go_sem]) ?_
 simp -implicitDefEqProofs only [go_sem, hg]
 refine ⟨⟨x0, x1, rfl⟩, fun _ => ⟨by simp [encS], fun _ => ⟨[], by simp, rfl, trivial, rfl⟩⟩⟩
theorem xG0 (bs : List Int) (hb : wr0 bs) (c : Cur) (hc : c.i ≤ bs.length) (xs : List Int) (hx : xs ≠ []) (hl : xs.length ≤ 1000000) : ∃ c' s, c'.i ≤ bs.length ∧ s ∈ xs ∧ qy0 Tryz.prog 146 [.one (.ptr 0 0), slV (xs.map encI)] [qq0 bs c] [qq0 bs c'] (zH0 s) := by
 have hlp : 0 < xs.length := List.length_pos_iff.2 hx
 obtain ⟨c1, x, i1, x0, x1, s1⟩ := zP0 bs hb c hc xs.length (by omega)
 have hxl : x.toNat < xs.length := by omega
 refine ⟨c1, xs[x.toNat], i1, List.getElem_mem hxl, ?_⟩
 have hg := zD0 (ec := encI) hxl
 generalize xs[x.toNat] = y at hg
 refine zq0 zE0 zA0 Tryz.func146 rfl rfl rfl (by decide +kernel) (by decide +kernel) (Nat.le_of_ble_eq_true rfl) (by simp [go_sem]) (by simp [go_sem]) (by simp [go_sem]) (by simp [go_sem]) (by simp [go_sem]) rfl ?_
 refine zr0 ?_
 refine LoanK.con [9000] [] (s1) rfl (by simp [go_sem]) ?_
 simp -implicitDefEqProofs only [go_sem, hg]
 refine ⟨⟨x0, x1, rfl⟩, fun _ => ⟨by simp [encI], fun _ => ⟨[], by simp, rfl, trivial, rfl⟩⟩⟩
theorem fH0 (bs : List Int) (hb : wr0 bs) (c : Cur) (hc : c.i ≤ bs.length) (xs : List Tm) (hx : xs ≠ []) (hl : xs.length ≤ 1000000) : ∃ c' s, c'.i ≤ bs.length ∧ s ∈ xs ∧ qy0 Tryz.prog 229 [.one (.ptr 0 0), slV (xs.map Tm.enc)] [qq0 bs c] [qq0 bs c'] (tmV s) := by
 have hlp : 0 < xs.length := List.length_pos_iff.2 hx
 obtain ⟨c1, x, i1, x0, x1, s1⟩ := zP0 bs hb c hc xs.length (by omega)
 have hxl : x.toNat < xs.length := by omega
 refine ⟨c1, xs[x.toNat], i1, List.getElem_mem hxl, ?_⟩
 have hg := zD0 (ec := Tm.enc) hxl
 generalize xs[x.toNat] = y at hg
 obtain ⟨k, n, s, ts⟩ := y
 simp only [Tm.enc] at hg
 refine zq0 zE0 zA0 Tryz.func229 rfl rfl rfl (by decide +kernel) (by decide +kernel) (Nat.le_of_ble_eq_true rfl) (by simp [go_sem]) (by simp [go_sem]) (by simp [go_sem]) (by simp [go_sem]) (by simp [go_sem]) rfl ?_
 refine zr0 ?_
 refine LoanK.con [9000] [] (s1) rfl (by simp [go_sem]) ?_
 simp -implicitDefEqProofs only [go_sem, hg]
 exact ⟨⟨x0, x1⟩, fun _ => ⟨[], by simp, rfl, trivial, rfl⟩⟩
theorem zS0 (bs : List Int) (hb : wr0 bs) (c : Cur) (hc : c.i ≤ bs.length) (xs : List ByteArray) (hx : xs ≠ []) (hl : xs.length ≤ 1000000) (h8 : xs.all (fun x => decide (x.size ≤ 8)) = true) : ∃ c' s, c'.i ≤ bs.length ∧ s.size ≤ 8 ∧ qy0 Tryz.prog 155 [.one (.ptr 0 0), slV (xs.map encS)] [qq0 bs c] [qq0 bs c'] (qg0 s) := by
 obtain ⟨c', s, h1, h2, h3⟩ := xV1 bs hb c hc xs hx hl
 exact ⟨c', s, h1, by simpa using List.all_eq_true.1 h8 s h2, h3⟩
theorem qR0 (s : ByteArray) : Sat Tryz.prog 219 [qg0 s] (tmV (.mk 1 0 s [])) := by
 refine soc zE0 zA0 Tryz.func219 ?_
 refine zr0 ?_
 rfl
theorem qB0 (s : ByteArray) (ts : List Tm) : Sat Tryz.prog 220 [qg0 s, xU0 ts] (tmV (.mk 2 0 s ts)) := by
 refine soc zE0 zA0 Tryz.func220 ?_
 refine zr0 ?_
 rfl
theorem zi0 (s : ByteArray) (a : Tm) : Sat Tryz.prog 157 [qg0 s, tmV a] (tmV (.mk 2 0 s [a])) := by
 have h := qB0 s [a]
 refine soc zE0 zA0 Tryz.func157 ?_
 obtain ⟨k, n, z, ts⟩ := a
 refine fC0 ?_
 refine CallK.mk h ?_
 simp -implicitDefEqProofs only [go_sem]
theorem zc0 (s : ByteArray) (a b : Tm) : Sat Tryz.prog 221 [qg0 s, tmV a, tmV b] (tmV (.mk 2 0 s [a, b])) := by
 have h := qB0 s [a, b]
 refine soc zE0 zA0 Tryz.func221 ?_
 obtain ⟨k, n, z, ts⟩ := a
 obtain ⟨k', n', z', ts'⟩ := b
 refine fC0 ?_
 refine CallK.mk h ?_
 simp -implicitDefEqProofs only [go_sem]
def gT (B : Nat) (t : Tm) : Prop := t.wf ∧ t.size ≤ B
theorem zC0 {B B' : Nat} {t : Tm} (h : B ≤ B') (g : gT B t) : gT B' t := ⟨g.1, Nat.le_trans g.2 h⟩
theorem yl0 (k n : Int) (s : ByteArray) (hk : (Lit.int .i64 k).wf = true) (hn : (Lit.int .i64 n).wf = true) (hs : s.size ≤ 8) : gT 10 (.mk k n s []) := by
 refine ⟨?_, ?_⟩
 ·simp only [Tm.wf]
  exact ⟨hk, hn, by have : (8:Nat) ≤ maxLen := by decide
                    omega, Nat.zero_le _, trivial⟩
 ·simp only [Tm.size, Tm.sizes]; omega
theorem qs0 (n : Int) (h0 : 0 ≤ n) (h1 : n < 4) : gT 10 (wordT n) := by
 have : n = 0 ∨ n = 1 ∨ n = 2 ∨ n = 3 := by omega
 rcases this with rfl | rfl | rfl | rfl <;> exact yl0 _ _ _ (by decide) (by decide) (by decide)
theorem jl0 (s : ByteArray) (hs : s.size ≤ 8) : gT 10 (.mk 2 0 s []) := yl0 _ _ _ (by decide) (by decide) hs
theorem wf0 {B : Nat} (s : ByteArray) (a : Tm) (hs : s.size ≤ 8) (ha : gT B a) : gT (10 + B) (.mk 2 0 s [a]) := by
 refine ⟨?_, ?_⟩
 ·simp only [Tm.wf, Tm.wfs]
  exact ⟨by decide, by decide, by have : (8:Nat) ≤ maxLen := by decide
                                  omega, (by decide : 1 ≤ maxLen), ha.1, trivial⟩
 ·have := ha.2; simp only [Tm.size, Tm.sizes]; omega
theorem qF0 {B B' : Nat} (s : ByteArray) (a b : Tm) (hs : s.size ≤ 8) (ha : gT B a) (hb : gT B' b) : gT (10 + (B + B')) (.mk 2 0 s [a, b]) := by
 refine ⟨?_, ?_⟩
 ·simp only [Tm.wf, Tm.wfs]
  exact ⟨by decide, by decide, by have : (8:Nat) ≤ maxLen := by decide
                                  omega, (by decide : 2 ≤ maxLen), ha.1, hb.1, trivial⟩
 ·have := ha.2; have := hb.2; simp only [Tm.size, Tm.sizes]; omega
def bT : Nat → Nat
 | 0 => 10
 | n + 1 => 10 + (bT n + bT n)
theorem wo0 (n : Nat) : 10 ≤ bT n := by cases n <;> simp [bT]
abbrev fR1 (ts : List Tm) : LB := .arr 34 4 (rowsOf Tm.enc ts) false
abbrev tmO (k n : Int) (s : ByteArray) (j m : Nat) : AV := .agg [iC k, iC n, sC s, .own j m]
theorem vz0 (s : ByteArray) (ts : List Tm) : qy0 Tryz.prog 220 [qg0 s, .one (.own 0 ts.length)] [fR1 ts] [fR1 ts] (tmO 2 0 s 0 ts.length) := by
 refine zq0 zE0 zA0 Tryz.func220 rfl rfl rfl (by decide +kernel) (by decide +kernel) (Nat.le_of_ble_eq_true rfl) (by simp [go_sem]) (by simp [go_sem]) (by simp [go_sem]) (by simp [go_sem]) (by simp [go_sem]) rfl ?_
 refine zr0 ?_
 exact t8'
theorem go0 (bs : List Int) (hb : wr0 bs) (n : Nat) (hn : (n : Int) < 2) (c : Cur) (hc : c.i ≤ bs.length) (g : Bool) : ∃ c' t, c'.i ≤ bs.length ∧ gT (bT n) t ∧ qy0 Tryz.prog 154 [.one (.ptr 0 0), zH0 (n : Nat), boolV g] [qq0 bs c] [qq0 bs c'] (tmV t) := by
 rcases g with _ | _
 ·obtain ⟨c1, b1, i1, s1⟩ := zL0 bs hb c hc 2 (by omega)
  rcases b1 with _ | _
  ·refine ex2 (sxe [(10, ([⟨2, 3, [47, 48], [7]⟩, ⟨3, 8, [7], [51, 53, 54]⟩], [2, 8]))] zE0 zA0 Tryz.func154 ?_)
   refine na0 ?_
   refine x6' [9000] [] s1 ?_
   obtain ⟨c2, b2, i2, s2⟩ := zL0 bs hb c1 i1 2 (by omega)
   rcases b2 with _ | _
   ·refine x6' [9000] [] s2 ?_
    obtain ⟨c3, y3, i3, z3, s3⟩ := zS0 bs hb c2 i2 [⟨#[97]⟩, ⟨#[98]⟩] (by simp) (by decide) (by decide)
    refine x6' [9000] [] s3 ?_
    refine exW.call (qB0 y3 []) ?_
    refine na0 ?_
    refine exW.fin (c3, .mk 2 0 y3 []) ⟨i3, zC0 (wo0 _) (jl0 y3 z3)⟩ ?_
    first | done | exact t1'
   ·refine x6' [9000] [] s2 ?_
    obtain ⟨c3, x3, i3, x3a, x3b, s3⟩ := zP0 bs hb c2 i2 4 (by omega)
    refine x6' [9000] [] s3 ?_
    refine exW.call (l3Word_sat x3) ?_
    refine na0 ?_
    refine exW.fin (c3, wordT x3) ⟨i3, zC0 (wo0 _) (qs0 x3 x3a x3b)⟩ ?_
    first | done | exact t1'
  ·refine ex2 (sxe [(10, ([⟨2, 3, [47, 48], [7]⟩, ⟨3, 8, [7], [51, 53, 54]⟩], [2, 8]))] zE0 zA0 Tryz.func154 ?_)
   refine na0 ?_
   refine x6' [9000] [] s1 ?_
   obtain ⟨c2, y2, i2, z2, s2⟩ := zS0 bs hb c1 i1 [⟨#[88]⟩, ⟨#[89]⟩, ⟨#[90]⟩] (by simp) (by decide) (by decide)
   refine x6' [9000] [] s2 ?_
   refine exW.call (qR0 y2) ?_
   refine na0 ?_
   refine exW.fin (c2, .mk 1 0 y2 []) ⟨i2, zC0 (wo0 _) (yl0 _ _ _ (by decide) (by decide) z2)⟩ ?_
   first | done | exact t1'
 ·obtain ⟨c1, b1, i1, s1⟩ := zL0 bs hb c hc 2 (by omega)
  rcases b1 with _ | _
  ·refine ex2 (sxe [(10, ([⟨2, 3, [47, 48], [7]⟩, ⟨3, 8, [7], [51, 53, 54]⟩], [2, 8]))] zE0 zA0 Tryz.func154 ?_)
   refine na0 ?_
   refine x6' [9000] [] s1 ?_
   obtain ⟨c2, y2, i2, z2, s2⟩ := zS0 bs hb c1 i1 [⟨#[97]⟩, ⟨#[98]⟩] (by simp) (by decide) (by decide)
   refine x6' [9000] [] s2 ?_
   refine exW.call (qB0 y2 []) ?_
   refine na0 ?_
   refine exW.fin (c2, .mk 2 0 y2 []) ⟨i2, zC0 (wo0 _) (jl0 y2 z2)⟩ ?_
   first | done | exact t1'
  ·refine ex2 (sxe [(10, ([⟨2, 3, [47, 48], [7]⟩, ⟨3, 8, [7], [51, 53, 54]⟩], [2, 8]))] zE0 zA0 Tryz.func154 ?_)
   refine na0 ?_
   refine x6' [9000] [] s1 ?_
   obtain ⟨c2, x2, i2, x2a, x2b, s2⟩ := zP0 bs hb c1 i1 4 (by omega)
   refine x6' [9000] [] s2 ?_
   refine exW.call (l3Word_sat x2) ?_
   refine na0 ?_
   refine exW.fin (c2, wordT x2) ⟨i2, zC0 (wo0 _) (qs0 x2 x2a x2b)⟩ ?_
   first | done | exact t1'
theorem jF0 (bs : List Int) (hb : wr0 bs) (n : Nat) : n ≤ 20 → ∀ (c : Cur) (hc : c.i ≤ bs.length) (g : Bool), ∃ c' t, c'.i ≤ bs.length ∧ gT (bT n) t ∧ qy0 Tryz.prog 154 [.one (.ptr 0 0), zH0 (n : Nat), boolV g] [qq0 bs c] [qq0 bs c'] (tmV t) := by
 induction n with
 | zero => exact fun _ c hc g => go0 bs hb 0 (by decide) c hc g
 | succ m ih =>
  intro hm c hc g
  by_cases hn : ((m + 1 : Nat) : Int) < 2
  ·exact go0 bs hb _ hn c hc g
  have hm1 : ((m + 1 : Nat) : Int) - 1 = (m : Int) := by omega
  rcases g with _ | _
  ·obtain ⟨c1, b1, i1, s1⟩ := zL0 bs hb c hc 4 (by omega)
   rcases b1 with _ | _
   ·refine ex2 (sxe [(10, ([⟨2, 3, [47, 48], [7]⟩, ⟨3, 8, [7], [51, 53, 54]⟩], [2, 8]))] zE0 zA0 Tryz.func154 ?_)
    refine qK0 ?_
    refine x1' [9000] [] s1 ?_
    obtain ⟨c2, b2, i2, s2⟩ := zL0 bs hb c1 i1 3 (by omega)
    rcases b2 with _ | _
    ·refine x1' [9000] [] s2 ?_
     obtain ⟨c3, a, i3, ga, s3⟩ := ih (by omega) c2 i2 false
     refine x1' [9000] [] s3 ?_
     obtain ⟨c4, y4, i4, z4, s4⟩ := zS0 bs hb c3 i3 [⟨#[102]⟩, ⟨#[102]⟩, ⟨#[104]⟩] (by simp) (by decide) (by decide)
     refine exv [9000] s4 ?_
     refine qK0 ?_
     obtain ⟨c5, b, i5, gb, s5⟩ := ih (by omega) c4 i4 false
     refine exv [9000] s5 ?_
     refine qK0 ?_
     refine exW.call (zc0 y4 a b) ?_
     refine qK0 ?_
     refine exW.fin (c5, .mk 2 0 y4 [a, b]) ⟨i5, qF0 _ _ _ z4 ga gb⟩ ?_
     first | done | exact t1'
    ·refine x1' [9000] [] s2 ?_
     obtain ⟨c3, a, i3, ga, s3⟩ := ih (by omega) c2 i2 false
     refine x1' [9000] [] s3 ?_
     refine exW.call (zi0 ⟨#[103]⟩ a) ?_
     refine qK0 ?_
     refine exW.fin (c3, .mk 2 0 ⟨#[103]⟩ [a]) ⟨i3, zC0 (by simp only [bT]; omega) (wf0 _ _ (by decide) ga)⟩ ?_
     first | done | exact t1'
   ·refine ex2 (sxe [(10, ([⟨2, 3, [47, 48], [7]⟩, ⟨3, 8, [7], [51, 53, 54]⟩], [2, 8]))] zE0 zA0 Tryz.func154 ?_)
    refine qK0 ?_
    refine x1' [9000] [] s1 ?_
    obtain ⟨c2, b2, i2, s2⟩ := zL0 bs hb c1 i1 2 (by omega)
    rcases b2 with _ | _
    ·refine x1' [9000] [] s2 ?_
     obtain ⟨c3, b3, i3, s3⟩ := zL0 bs hb c2 i2 2 (by omega)
     rcases b3 with _ | _
     ·refine x1' [9000] [] s3 ?_
      obtain ⟨c4, y4, i4, z4, s4⟩ := zS0 bs hb c3 i3 [⟨#[97]⟩, ⟨#[98]⟩] (by simp) (by decide) (by decide)
      refine x1' [9000] [] s4 ?_
      refine exW.call (qB0 y4 []) ?_
      refine qK0 ?_
      refine exW.fin (c4, .mk 2 0 y4 []) ⟨i4, zC0 (wo0 _) (jl0 y4 z4)⟩ ?_
      first | done | exact t1'
     ·refine x1' [9000] [] s3 ?_
      obtain ⟨c4, x4, i4, x4a, x4b, s4⟩ := zP0 bs hb c3 i3 4 (by omega)
      refine x1' [9000] [] s4 ?_
      refine exW.call (l3Word_sat x4) ?_
      refine qK0 ?_
      refine exW.fin (c4, wordT x4) ⟨i4, zC0 (wo0 _) (qs0 x4 x4a x4b)⟩ ?_
      first | done | exact t1'
    ·refine x1' [9000] [] s2 ?_
     obtain ⟨c3, y3, i3, z3, s3⟩ := zS0 bs hb c2 i2 [⟨#[88]⟩, ⟨#[89]⟩, ⟨#[90]⟩] (by simp) (by decide) (by decide)
     refine x1' [9000] [] s3 ?_
     refine exW.call (qR0 y3) ?_
     refine qK0 ?_
     refine exW.fin (c3, .mk 1 0 y3 []) ⟨i3, zC0 (wo0 _) (yl0 _ _ _ (by decide) (by decide) z3)⟩ ?_
     first | done | exact t1'
  ·obtain ⟨c1, b1, i1, s1⟩ := zL0 bs hb c hc 4 (by omega)
   rcases b1 with _ | _
   ·refine ex2 (sxe [(10, ([⟨2, 3, [47, 48], [7]⟩, ⟨3, 8, [7], [51, 53, 54]⟩], [2, 8]))] zE0 zA0 Tryz.func154 ?_)
    refine qK0 ?_
    refine x1' [9000] [] s1 ?_
    obtain ⟨c2, b2, i2, s2⟩ := zL0 bs hb c1 i1 3 (by omega)
    rcases b2 with _ | _
    ·refine x1' [9000] [] s2 ?_
     obtain ⟨c3, a, i3, ga, s3⟩ := ih (by omega) c2 i2 true
     refine x1' [9000] [] s3 ?_
     obtain ⟨c4, y4, i4, z4, s4⟩ := zS0 bs hb c3 i3 [⟨#[102]⟩, ⟨#[102]⟩, ⟨#[104]⟩] (by simp) (by decide) (by decide)
     refine exv [9000] s4 ?_
     refine qK0 ?_
     obtain ⟨c5, b, i5, gb, s5⟩ := ih (by omega) c4 i4 true
     refine exv [9000] s5 ?_
     refine qK0 ?_
     refine exW.call (zc0 y4 a b) ?_
     refine qK0 ?_
     refine exW.fin (c5, .mk 2 0 y4 [a, b]) ⟨i5, qF0 _ _ _ z4 ga gb⟩ ?_
     first | done | exact t1'
    ·refine x1' [9000] [] s2 ?_
     obtain ⟨c3, a, i3, ga, s3⟩ := ih (by omega) c2 i2 true
     refine x1' [9000] [] s3 ?_
     refine exW.call (zi0 ⟨#[103]⟩ a) ?_
     refine qK0 ?_
     refine exW.fin (c3, .mk 2 0 ⟨#[103]⟩ [a]) ⟨i3, zC0 (by simp only [bT]; omega) (wf0 _ _ (by decide) ga)⟩ ?_
     first | done | exact t1'
   ·refine ex2 (sxe [(10, ([⟨2, 3, [47, 48], [7]⟩, ⟨3, 8, [7], [51, 53, 54]⟩], [2, 8]))] zE0 zA0 Tryz.func154 ?_)
    refine qK0 ?_
    refine x1' [9000] [] s1 ?_
    obtain ⟨c2, b2, i2, s2⟩ := zL0 bs hb c1 i1 2 (by omega)
    rcases b2 with _ | _
    ·refine x1' [9000] [] s2 ?_
     obtain ⟨c3, y3, i3, z3, s3⟩ := zS0 bs hb c2 i2 [⟨#[97]⟩, ⟨#[98]⟩] (by simp) (by decide) (by decide)
     refine x1' [9000] [] s3 ?_
     refine exW.call (qB0 y3 []) ?_
     refine qK0 ?_
     refine exW.fin (c3, .mk 2 0 y3 []) ⟨i3, zC0 (wo0 _) (jl0 y3 z3)⟩ ?_
     first | done | exact t1'
    ·refine x1' [9000] [] s2 ?_
     obtain ⟨c3, x3, i3, x3a, x3b, s3⟩ := zP0 bs hb c2 i2 4 (by omega)
     refine x1' [9000] [] s3 ?_
     refine exW.call (l3Word_sat x3) ?_
     refine qK0 ?_
     refine exW.fin (c3, wordT x3) ⟨i3, zC0 (wo0 _) (qs0 x3 x3a x3b)⟩ ?_
     first | done | exact t1'
end Go.Ai
namespace Go.Ai
open Go.Proofs
set_option maxRecDepth 100000
theorem wY1 (s : ByteArray) (a : Tm) : qy0 Tryz.prog 157 [qg0 s, tmV a] [] [fR1 [a]] (tmO 2 0 s 0 1) := by
 have h := vz0 s [a]
 refine zq0 zE0 zA0 Tryz.func157 rfl rfl rfl (by decide +kernel) (by decide +kernel) (Nat.le_of_ble_eq_true rfl) (by simp [go_sem]) (by simp [go_sem]) (by simp [go_sem]) (by simp [go_sem]) (by simp [go_sem]) rfl ?_
 obtain ⟨k, n, z, ts⟩ := a
 refine fC0 ?_
 refine CallK.con [7] [] rfl h (by simp [go_sem, rowsOf, Tm.enc]) ?_
 refine zr0 ?_
 exact ⟨[7], by simp, rfl, by simp [go_sem, rowsOf, Tm.enc], by simp [go_sem]⟩
theorem rr0 (s : ByteArray) (a b : Tm) : qy0 Tryz.prog 221 [qg0 s, tmV a, tmV b] [] [fR1 [a, b]] (tmO 2 0 s 0 2) := by
 have h := vz0 s [a, b]
 refine zq0 zE0 zA0 Tryz.func221 rfl rfl rfl (by decide +kernel) (by decide +kernel) (Nat.le_of_ble_eq_true rfl) (by simp [go_sem]) (by simp [go_sem]) (by simp [go_sem]) (by simp [go_sem]) (by simp [go_sem]) rfl ?_
 obtain ⟨k, n, z, ts⟩ := a
 obtain ⟨k', n', z', ts'⟩ := b
 refine fC0 ?_
 refine CallK.con [10] [] rfl h (by simp [go_sem, rowsOf, Tm.enc]) ?_
 refine zr0 ?_
 exact ⟨[10], by simp, rfl, by simp [go_sem, rowsOf, Tm.enc], by simp [go_sem]⟩
abbrev tmN (k n : Int) (s : ByteArray) : AV := .agg [iC k, iC n, sC s, .nil]
theorem wZ1 (s : ByteArray) : qy0 Tryz.prog 219 [qg0 s] [] [] (tmN 1 0 s) := by
 refine zq0 zE0 zA0 Tryz.func219 rfl rfl rfl (by decide +kernel) (by decide +kernel) (Nat.le_of_ble_eq_true rfl) (by simp [go_sem]) (by simp [go_sem]) (by simp [go_sem]) (by simp [go_sem]) (by simp [go_sem]) rfl ?_
 refine zr0 ?_
 exact t8'
theorem pQ0 (n : Int) : qy0 Tryz.prog 156 [zH0 n] [] [] (tmN 3 n ⟨#[]⟩) := by
 refine zq0 zE0 zA0 Tryz.func156 rfl rfl rfl (by decide +kernel) (by decide +kernel) (Nat.le_of_ble_eq_true rfl) (by simp [go_sem]) (by simp [go_sem]) (by simp [go_sem]) (by simp [go_sem]) (by simp [go_sem]) rfl ?_
 refine zr0 ?_
 exact t8'
theorem kF1 (bs : List Int) (hb : wr0 bs) (m : Nat) (hm : m + 1 ≤ 20) (c : Cur) (hc : c.i ≤ bs.length) (g : Bool) : ∃ c' k nn s ts, c'.i ≤ bs.length ∧ gT (bT (m + 1)) (.mk k nn s ts) ∧ ((ts = [] ∧ qy0 Tryz.prog 154 [.one (.ptr 0 0), zH0 (m + 1 : Nat), boolV g] [qq0 bs c] [qq0 bs c'] (tmN k nn s)) ∨ qy0 Tryz.prog 154 [.one (.ptr 0 0), zH0 (m + 1 : Nat), boolV g] [qq0 bs c] [qq0 bs c', fR1 ts] (tmO k nn s 1 ts.length)) := by
 have hm1 : ((m + 1 : Nat) : Int) - 1 = (m : Int) := by omega
 by_cases hn : ((m + 1 : Nat) : Int) < 2
 ·rcases g with _ | _
  ·obtain ⟨c1, b1, i1, s1⟩ := zL0 bs hb c hc 2 (by omega)
   rcases b1 with _ | _
   ·obtain ⟨c2, b2, i2, s2⟩ := zL0 bs hb c1 i1 2 (by omega)
    rcases b2 with _ | _
    ·obtain ⟨c3, y3, i3, z3, s3⟩ := zS0 bs hb c2 i2 [⟨#[97]⟩, ⟨#[98]⟩] (by simp) (by decide) (by decide)
     refine ⟨c3, 2, 0, y3, [], i3, zC0 (wo0 _) (jl0 y3 z3), .inr ?_⟩
     refine sxv [(10, ([⟨2, 3, [47, 48], [7]⟩, ⟨3, 8, [7], [51, 53, 54]⟩], [2, 8]))] zE0 zA0 Tryz.func154 ?_
     refine fr0 ?_
     refine LoanK.con [9000] [] s1 rfl (by simp [go_sem, encS]) ?_
     refine fr0 ?_
     refine LoanK.con [9000] [] s2 rfl (by simp [go_sem, encS]) ?_
     refine fr0 ?_
     refine LoanK.con [9000] [] s3 rfl (by simp [go_sem, encS]) ?_
     refine fr0 ?_
     refine CallK.con [32] [] rfl (vz0 y3 []) (by simp [go_sem, rowsOf]) ?_
     refine fr0 ?_
     exact fy1
    ·obtain ⟨c3, x3, i3, x3a, x3b, s3⟩ := zP0 bs hb c2 i2 4 (by omega)
     refine ⟨c3, 3, x3, ⟨#[]⟩, [], i3, zC0 (wo0 _) (qs0 x3 x3a x3b), .inl ⟨rfl, ?_⟩⟩
     refine sxv [(10, ([⟨2, 3, [47, 48], [7]⟩, ⟨3, 8, [7], [51, 53, 54]⟩], [2, 8]))] zE0 zA0 Tryz.func154 ?_
     refine fr0 ?_
     refine LoanK.con [9000] [] s1 rfl (by simp [go_sem, encS]) ?_
     refine fr0 ?_
     refine LoanK.con [9000] [] s2 rfl (by simp [go_sem, encS]) ?_
     refine fr0 ?_
     refine LoanK.con [9000] [] s3 rfl (by simp [go_sem, encS]) ?_
     refine fr0 ?_
     refine CallK.con [] [] rfl (pQ0 x3) (by simp [go_sem]) ?_
     refine fr0 ?_
     exact t8'
   ·obtain ⟨c2, y2, i2, z2, s2⟩ := zS0 bs hb c1 i1 [⟨#[88]⟩, ⟨#[89]⟩, ⟨#[90]⟩] (by simp) (by decide) (by decide)
    refine ⟨c2, 1, 0, y2, [], i2, zC0 (wo0 _) (yl0 _ _ _ (by decide) (by decide) z2), .inl ⟨rfl, ?_⟩⟩
    refine sxv [(10, ([⟨2, 3, [47, 48], [7]⟩, ⟨3, 8, [7], [51, 53, 54]⟩], [2, 8]))] zE0 zA0 Tryz.func154 ?_
    refine fr0 ?_
    refine LoanK.con [9000] [] s1 rfl (by simp [go_sem, encS]) ?_
    refine fr0 ?_
    refine LoanK.con [9000] [] s2 rfl (by simp [go_sem, encS]) ?_
    refine fr0 ?_
    refine CallK.con [] [] rfl (wZ1 y2) (by simp [go_sem]) ?_
    refine fr0 ?_
    exact t8'
  ·obtain ⟨c1, b1, i1, s1⟩ := zL0 bs hb c hc 2 (by omega)
   rcases b1 with _ | _
   ·obtain ⟨c2, y2, i2, z2, s2⟩ := zS0 bs hb c1 i1 [⟨#[97]⟩, ⟨#[98]⟩] (by simp) (by decide) (by decide)
    refine ⟨c2, 2, 0, y2, [], i2, zC0 (wo0 _) (jl0 y2 z2), .inr ?_⟩
    refine sxv [(10, ([⟨2, 3, [47, 48], [7]⟩, ⟨3, 8, [7], [51, 53, 54]⟩], [2, 8]))] zE0 zA0 Tryz.func154 ?_
    refine fr0 ?_
    refine LoanK.con [9000] [] s1 rfl (by simp [go_sem, encS]) ?_
    refine fr0 ?_
    refine LoanK.con [9000] [] s2 rfl (by simp [go_sem, encS]) ?_
    refine fr0 ?_
    refine CallK.con [32] [] rfl (vz0 y2 []) (by simp [go_sem, rowsOf]) ?_
    refine fr0 ?_
    exact fy1
   ·obtain ⟨c2, x2, i2, x2a, x2b, s2⟩ := zP0 bs hb c1 i1 4 (by omega)
    refine ⟨c2, 3, x2, ⟨#[]⟩, [], i2, zC0 (wo0 _) (qs0 x2 x2a x2b), .inl ⟨rfl, ?_⟩⟩
    refine sxv [(10, ([⟨2, 3, [47, 48], [7]⟩, ⟨3, 8, [7], [51, 53, 54]⟩], [2, 8]))] zE0 zA0 Tryz.func154 ?_
    refine fr0 ?_
    refine LoanK.con [9000] [] s1 rfl (by simp [go_sem, encS]) ?_
    refine fr0 ?_
    refine LoanK.con [9000] [] s2 rfl (by simp [go_sem, encS]) ?_
    refine fr0 ?_
    refine CallK.con [] [] rfl (pQ0 x2) (by simp [go_sem]) ?_
    refine fr0 ?_
    exact t8'
 ·rcases g with _ | _
  ·obtain ⟨c1, b1, i1, s1⟩ := zL0 bs hb c hc 4 (by omega)
   rcases b1 with _ | _
   ·obtain ⟨c2, b2, i2, s2⟩ := zL0 bs hb c1 i1 3 (by omega)
    rcases b2 with _ | _
    ·obtain ⟨c3, a, i3, ga, s3⟩ := jF0 bs hb m (by omega) c2 i2 false
     obtain ⟨c4, y4, i4, z4, s4⟩ := zS0 bs hb c3 i3 [⟨#[102]⟩, ⟨#[102]⟩, ⟨#[104]⟩] (by simp) (by decide) (by decide)
     obtain ⟨c5, b, i5, gb, s5⟩ := jF0 bs hb m (by omega) c4 i4 false
     refine ⟨c5, 2, 0, y4, [a, b], i5, qF0 _ _ _ z4 ga gb, .inr ?_⟩
     refine sxv [(10, ([⟨2, 3, [47, 48], [7]⟩, ⟨3, 8, [7], [51, 53, 54]⟩], [2, 8]))] zE0 zA0 Tryz.func154 ?_
     refine qK0 ?_
     refine LoanK.con [9000] [] s1 rfl (by simp [go_sem, encS]) ?_
     refine qK0 ?_
     refine LoanK.con [9000] [] s2 rfl (by simp [go_sem, encS]) ?_
     refine qK0 ?_
     refine LoanK.con [9000] [] s3 rfl (by simp [go_sem, encS]) ?_
     refine qK0 ?_
     refine UvC.mk [9000] s4 (by simp [go_sem, encS]) (by simp [go_sem]) ?_
     refine qK0 ?_
     refine UvC.mk [9000] s5 (by simp [go_sem, encS]) (by simp [go_sem]) ?_
     refine qK0 ?_
     refine CallK.con [] [9101] (by decide +kernel) (rr0 y4 a b) (by simp [go_sem]) ?_
     refine qK0 ?_
     exact fx1
    ·obtain ⟨c3, a, i3, ga, s3⟩ := jF0 bs hb m (by omega) c2 i2 false
     refine ⟨c3, 2, 0, ⟨#[103]⟩, [a], i3, zC0 (by simp only [bT]; omega) (wf0 _ _ (by decide) ga), .inr ?_⟩
     refine sxv [(10, ([⟨2, 3, [47, 48], [7]⟩, ⟨3, 8, [7], [51, 53, 54]⟩], [2, 8]))] zE0 zA0 Tryz.func154 ?_
     refine qK0 ?_
     refine LoanK.con [9000] [] s1 rfl (by simp [go_sem, encS]) ?_
     refine qK0 ?_
     refine LoanK.con [9000] [] s2 rfl (by simp [go_sem, encS]) ?_
     refine qK0 ?_
     refine LoanK.con [9000] [] s3 rfl (by simp [go_sem, encS]) ?_
     refine qK0 ?_
     refine CallK.con [] [9101] rfl (wY1 ⟨#[103]⟩ a) (by simp [go_sem]) ?_
     refine qK0 ?_
     exact fx1
   ·obtain ⟨c2, b2, i2, s2⟩ := zL0 bs hb c1 i1 2 (by omega)
    rcases b2 with _ | _
    ·obtain ⟨c3, b3, i3, s3⟩ := zL0 bs hb c2 i2 2 (by omega)
     rcases b3 with _ | _
     ·obtain ⟨c4, y4, i4, z4, s4⟩ := zS0 bs hb c3 i3 [⟨#[97]⟩, ⟨#[98]⟩] (by simp) (by decide) (by decide)
      refine ⟨c4, 2, 0, y4, [], i4, zC0 (wo0 _) (jl0 y4 z4), .inr ?_⟩
      refine sxv [(10, ([⟨2, 3, [47, 48], [7]⟩, ⟨3, 8, [7], [51, 53, 54]⟩], [2, 8]))] zE0 zA0 Tryz.func154 ?_
      refine qK0 ?_
      refine LoanK.con [9000] [] s1 rfl (by simp [go_sem, encS]) ?_
      refine qK0 ?_
      refine LoanK.con [9000] [] s2 rfl (by simp [go_sem, encS]) ?_
      refine qK0 ?_
      refine LoanK.con [9000] [] s3 rfl (by simp [go_sem, encS]) ?_
      refine qK0 ?_
      refine LoanK.con [9000] [] s4 rfl (by simp [go_sem, encS]) ?_
      refine qK0 ?_
      refine CallK.con [32] [] rfl (vz0 y4 []) (by simp [go_sem, rowsOf]) ?_
      refine qK0 ?_
      exact fy1
     ·obtain ⟨c4, x4, i4, x4a, x4b, s4⟩ := zP0 bs hb c3 i3 4 (by omega)
      refine ⟨c4, 3, x4, ⟨#[]⟩, [], i4, zC0 (wo0 _) (qs0 x4 x4a x4b), .inl ⟨rfl, ?_⟩⟩
      refine sxv [(10, ([⟨2, 3, [47, 48], [7]⟩, ⟨3, 8, [7], [51, 53, 54]⟩], [2, 8]))] zE0 zA0 Tryz.func154 ?_
      refine qK0 ?_
      refine LoanK.con [9000] [] s1 rfl (by simp [go_sem, encS]) ?_
      refine qK0 ?_
      refine LoanK.con [9000] [] s2 rfl (by simp [go_sem, encS]) ?_
      refine qK0 ?_
      refine LoanK.con [9000] [] s3 rfl (by simp [go_sem, encS]) ?_
      refine qK0 ?_
      refine LoanK.con [9000] [] s4 rfl (by simp [go_sem, encS]) ?_
      refine qK0 ?_
      refine CallK.con [] [] rfl (pQ0 x4) (by simp [go_sem]) ?_
      refine qK0 ?_
      exact t8'
    ·obtain ⟨c3, y3, i3, z3, s3⟩ := zS0 bs hb c2 i2 [⟨#[88]⟩, ⟨#[89]⟩, ⟨#[90]⟩] (by simp) (by decide) (by decide)
     refine ⟨c3, 1, 0, y3, [], i3, zC0 (wo0 _) (yl0 _ _ _ (by decide) (by decide) z3), .inl ⟨rfl, ?_⟩⟩
     refine sxv [(10, ([⟨2, 3, [47, 48], [7]⟩, ⟨3, 8, [7], [51, 53, 54]⟩], [2, 8]))] zE0 zA0 Tryz.func154 ?_
     refine qK0 ?_
     refine LoanK.con [9000] [] s1 rfl (by simp [go_sem, encS]) ?_
     refine qK0 ?_
     refine LoanK.con [9000] [] s2 rfl (by simp [go_sem, encS]) ?_
     refine qK0 ?_
     refine LoanK.con [9000] [] s3 rfl (by simp [go_sem, encS]) ?_
     refine qK0 ?_
     refine CallK.con [] [] rfl (wZ1 y3) (by simp [go_sem]) ?_
     refine qK0 ?_
     exact t8'
  ·obtain ⟨c1, b1, i1, s1⟩ := zL0 bs hb c hc 4 (by omega)
   rcases b1 with _ | _
   ·obtain ⟨c2, b2, i2, s2⟩ := zL0 bs hb c1 i1 3 (by omega)
    rcases b2 with _ | _
    ·obtain ⟨c3, a, i3, ga, s3⟩ := jF0 bs hb m (by omega) c2 i2 true
     obtain ⟨c4, y4, i4, z4, s4⟩ := zS0 bs hb c3 i3 [⟨#[102]⟩, ⟨#[102]⟩, ⟨#[104]⟩] (by simp) (by decide) (by decide)
     obtain ⟨c5, b, i5, gb, s5⟩ := jF0 bs hb m (by omega) c4 i4 true
     refine ⟨c5, 2, 0, y4, [a, b], i5, qF0 _ _ _ z4 ga gb, .inr ?_⟩
     refine sxv [(10, ([⟨2, 3, [47, 48], [7]⟩, ⟨3, 8, [7], [51, 53, 54]⟩], [2, 8]))] zE0 zA0 Tryz.func154 ?_
     refine qK0 ?_
     refine LoanK.con [9000] [] s1 rfl (by simp [go_sem, encS]) ?_
     refine qK0 ?_
     refine LoanK.con [9000] [] s2 rfl (by simp [go_sem, encS]) ?_
     refine qK0 ?_
     refine LoanK.con [9000] [] s3 rfl (by simp [go_sem, encS]) ?_
     refine qK0 ?_
     refine UvC.mk [9000] s4 (by simp [go_sem, encS]) (by simp [go_sem]) ?_
     refine qK0 ?_
     refine UvC.mk [9000] s5 (by simp [go_sem, encS]) (by simp [go_sem]) ?_
     refine qK0 ?_
     refine CallK.con [] [9101] (by decide +kernel) (rr0 y4 a b) (by simp [go_sem]) ?_
     refine qK0 ?_
     exact fx1
    ·obtain ⟨c3, a, i3, ga, s3⟩ := jF0 bs hb m (by omega) c2 i2 true
     refine ⟨c3, 2, 0, ⟨#[103]⟩, [a], i3, zC0 (by simp only [bT]; omega) (wf0 _ _ (by decide) ga), .inr ?_⟩
     refine sxv [(10, ([⟨2, 3, [47, 48], [7]⟩, ⟨3, 8, [7], [51, 53, 54]⟩], [2, 8]))] zE0 zA0 Tryz.func154 ?_
     refine qK0 ?_
     refine LoanK.con [9000] [] s1 rfl (by simp [go_sem, encS]) ?_
     refine qK0 ?_
     refine LoanK.con [9000] [] s2 rfl (by simp [go_sem, encS]) ?_
     refine qK0 ?_
     refine LoanK.con [9000] [] s3 rfl (by simp [go_sem, encS]) ?_
     refine qK0 ?_
     refine CallK.con [] [9101] rfl (wY1 ⟨#[103]⟩ a) (by simp [go_sem]) ?_
     refine qK0 ?_
     exact fx1
   ·obtain ⟨c2, b2, i2, s2⟩ := zL0 bs hb c1 i1 2 (by omega)
    rcases b2 with _ | _
    ·obtain ⟨c3, y3, i3, z3, s3⟩ := zS0 bs hb c2 i2 [⟨#[97]⟩, ⟨#[98]⟩] (by simp) (by decide) (by decide)
     refine ⟨c3, 2, 0, y3, [], i3, zC0 (wo0 _) (jl0 y3 z3), .inr ?_⟩
     refine sxv [(10, ([⟨2, 3, [47, 48], [7]⟩, ⟨3, 8, [7], [51, 53, 54]⟩], [2, 8]))] zE0 zA0 Tryz.func154 ?_
     refine qK0 ?_
     refine LoanK.con [9000] [] s1 rfl (by simp [go_sem, encS]) ?_
     refine qK0 ?_
     refine LoanK.con [9000] [] s2 rfl (by simp [go_sem, encS]) ?_
     refine qK0 ?_
     refine LoanK.con [9000] [] s3 rfl (by simp [go_sem, encS]) ?_
     refine qK0 ?_
     refine CallK.con [32] [] rfl (vz0 y3 []) (by simp [go_sem, rowsOf]) ?_
     refine qK0 ?_
     exact fy1
    ·obtain ⟨c3, x3, i3, x3a, x3b, s3⟩ := zP0 bs hb c2 i2 4 (by omega)
     refine ⟨c3, 3, x3, ⟨#[]⟩, [], i3, zC0 (wo0 _) (qs0 x3 x3a x3b), .inl ⟨rfl, ?_⟩⟩
     refine sxv [(10, ([⟨2, 3, [47, 48], [7]⟩, ⟨3, 8, [7], [51, 53, 54]⟩], [2, 8]))] zE0 zA0 Tryz.func154 ?_
     refine qK0 ?_
     refine LoanK.con [9000] [] s1 rfl (by simp [go_sem, encS]) ?_
     refine qK0 ?_
     refine LoanK.con [9000] [] s2 rfl (by simp [go_sem, encS]) ?_
     refine qK0 ?_
     refine LoanK.con [9000] [] s3 rfl (by simp [go_sem, encS]) ?_
     refine qK0 ?_
     refine CallK.con [] [] rfl (pQ0 x3) (by simp [go_sem]) ?_
     refine qK0 ?_
     exact t8'
end Go.Ai
