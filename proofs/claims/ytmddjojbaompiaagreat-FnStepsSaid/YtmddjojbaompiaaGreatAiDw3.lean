/- Draws: the cursor, bytes, numbers below a bound, picks. -/
import Derived.Test.YtmddjojbaompiaaGreatAiRows
import Derived.Test.YtmddjojbaompiaaGreatAiSeat
import Derived.Test.YtmddjojbaompiaaGreatAiMarks
import Derived.Test.YtmddjojbaompiaaGreatAiAccX
import Derived.Test.YtmddjojbaompiaaGreatAiRow2
import Derived.Test.YtmddjojbaompiaaGreatAiV2
set_option linter.unusedVariables false
set_option linter.unusedSimpArgs false
namespace Go.Ai
open Go.Proofs
set_option maxRecDepth 100000
def encU (x : Int) : List C := [.v (.int .u8 x)]
structure Cur where
 i : Nat
 h : Int
abbrev curB (bs : List Int) (c : Cur) : LB := .var [.c (.sl (bs.map encU)), iC c.i, iC c.h]
def okBs8 (bs : List Int) : Prop := bs.length ≤ 1048576 ∧ ∀ x, x ∈ bs → 0 ≤ x ∧ x ≤ 255
def andI (a b : Int) : Int := IntKind.i64.wrap ((BitVec.ofInt IntKind.i64.bits a &&& BitVec.ofInt IntKind.i64.bits b).toNat : Nat)
def xorI (a b : Int) : Int := IntKind.i64.wrap ((BitVec.ofInt IntKind.i64.bits a ^^^ BitVec.ofInt IntKind.i64.bits b).toNat : Nat)
theorem andI_255 (a : Int) : 0 ≤ andI a 255 ∧ andI a 255 ≤ 255 := by
 unfold andI
 have h : (BitVec.ofInt IntKind.i64.bits a &&& BitVec.ofInt IntKind.i64.bits 255).toNat ≤ 255 := by
  rw [BitVec.toNat_and]
  exact Nat.le_trans Nat.and_le_right (by decide)
 generalize (BitVec.ofInt IntKind.i64.bits a &&& BitVec.ofInt IntKind.i64.bits 255).toNat = n at h
 have h0 : -9223372036854775808 ≤ (n : Int) := by omega
 have h1 : (n : Int) ≤ 9223372036854775807 := by omega
 rw [IntWalk.i64_in _ ⟨h0, h1⟩]; omega
def hN (h : Int) : Int := IntKind.i64.wrap (IntKind.i64.wrap (h * 6364136223846793005) + 1442695040888963407)
def xN (h : Int) : Int := andI (xorI (h.fdiv (2 ^ 33)) (h.fdiv (2 ^ 45))) 255
def byteF (bs : List Int) (c : Cur) : Int × Cur :=
 if h : c.i < bs.length then (andI (IntKind.i64.wrap (xN (hN c.h) + bs[c.i])) 255, ⟨c.i + 1, hN c.h⟩) else (xN (hN c.h), ⟨c.i, hN c.h⟩)
theorem byteF_ok (bs : List Int) (c : Cur) : 0 ≤ (byteF bs c).1 ∧ (byteF bs c).1 ≤ 255 := by
 unfold byteF
 split
 ·exact andI_255 _
 ·exact andI_255 _
theorem byte_sat (bs : List Int) (hb : okBs8 bs) (c : Cur) (hc : c.i ≤ bs.length) : SatX Tryz.prog 172 [.one (.ptr 0 0)] [curB bs c] [curB bs (byteF bs c).2] (intV (byteF bs c).1) := by
 obtain ⟨i, h⟩ := c
 simp only at hc
 have hb1 := hb.1
 obtain ⟨r, hr⟩ : ∃ r, r = byteF bs ⟨i, h⟩ := ⟨_, rfl⟩
 rw [← hr]
 unfold byteF at hr
 refine satX_of_code tbOk mixed Tryz.func172 rfl rfl rfl (by decide +kernel) (by decide +kernel) (Nat.le_of_ble_eq_true rfl) (by simp [go_sem]) (by simp [go_sem]) (by simp [go_sem]) (by simp [go_sem]) (by simp [go_sem]) rfl ?_
 rcases Nat.lt_or_ge i bs.length with hlt | hge
 ·have hg := map_getD (ec := encU) hlt
  have hx := hb.2 _ (List.getElem_mem hlt)
  rw [dif_pos hlt] at hr
  simp only at hr
  generalize bs[i] = x at hg hx hr
  simp -implicitDefEqProofs (disch := omega) only [go_sem, hg, hlt, encU]
  refine ⟨by decide, fun _ => ⟨by decide, fun _ => ⟨[], by simp, rfl, ⟨?_, trivial⟩, ?_⟩⟩⟩
  ·rw [hr]; rfl
  ·rw [hr]; rfl
 ·rw [dif_neg (by simpa using hge)] at hr
  have hnl : ¬ i < bs.length := by omega
  simp -implicitDefEqProofs (disch := omega) only [go_sem, hnl]
  refine ⟨by decide, fun _ => ⟨by decide, fun _ => ⟨[], by simp, rfl, ⟨?_, trivial⟩, ?_⟩⟩⟩
  ·rw [hr]; rfl
  ·rw [hr]; rfl
theorem byteF_i (bs : List Int) (c : Cur) (hc : c.i ≤ bs.length) : (byteF bs c).2.i ≤ bs.length := by
 unfold byteF
 split
 ·simp only; omega
 ·exact hc
def belowF (bs : List Int) (c : Cur) (n : Int) : Int × Cur :=
 if n ≤ 0 then (0, c) else
 let a := byteF bs c
 if n ≤ 256 then (a.1.tmod n, a.2) else
 let b := byteF bs a.2
 let d := byteF bs b.2
 let e := byteF bs d.2
 ((a.1 * 16777216 + b.1 * 65536 + d.1 * 256 + e.1).tmod n, e.2)
theorem belowF_i (bs : List Int) (c : Cur) (n : Int) (hc : c.i ≤ bs.length) : (belowF bs c n).2.i ≤ bs.length := by
 have h1 := byteF_i bs c hc
 have h2 := byteF_i bs _ h1
 have h3 := byteF_i bs _ h2
 have h4 := byteF_i bs _ h3
 unfold belowF
 split
 ·exact hc
 ·split
  ·exact h1
  ·exact h4
theorem belowF_ok (bs : List Int) (c : Cur) (n : Int) (hn : 0 < n) : 0 ≤ (belowF bs c n).1 ∧ (belowF bs c n).1 < n := by
 have h1 := byteF_ok bs c
 have h2 := byteF_ok bs (byteF bs c).2
 have h3 := byteF_ok bs (byteF bs (byteF bs c).2).2
 have h4 := byteF_ok bs (byteF bs (byteF bs (byteF bs c).2).2).2
 unfold belowF
 rw [if_neg (by omega)]
 split
 ·exact ⟨Int.tmod_nonneg _ h1.1, Int.tmod_lt_of_pos _ hn⟩
 ·exact ⟨Int.tmod_nonneg _ (by omega), Int.tmod_lt_of_pos _ hn⟩
theorem below_sat (bs : List Int) (hb : okBs8 bs) (c : Cur) (hc : c.i ≤ bs.length) (n : Int) : SatX Tryz.prog 107 [.one (.ptr 0 0), intV n] [curB bs c] [curB bs (belowF bs c n).2] (intV (belowF bs c n).1) := by
 have i1 := byteF_i bs c hc
 have i2 := byteF_i bs _ i1
 have i3 := byteF_i bs _ i2
 have s1 := byte_sat bs hb c hc
 have s2 := byte_sat bs hb _ i1
 have s3 := byte_sat bs hb _ i2
 have s4 := byte_sat bs hb _ i3
 have o1 := byteF_ok bs c
 have o2 := byteF_ok bs (byteF bs c).2
 have o3 := byteF_ok bs (byteF bs (byteF bs c).2).2
 have o4 := byteF_ok bs (byteF bs (byteF bs (byteF bs c).2).2).2
 obtain ⟨r, hr⟩ : ∃ r, r = belowF bs c n := ⟨_, rfl⟩
 rw [← hr]
 unfold belowF at hr
 simp only at hr
 generalize (byteF bs (byteF bs (byteF bs (byteF bs c).2).2).2) = p4 at *
 generalize (byteF bs (byteF bs (byteF bs c).2).2) = p3 at *
 generalize (byteF bs (byteF bs c).2) = p2 at *
 generalize (byteF bs c) = p1 at *
 obtain ⟨x1, c1⟩ := p1
 obtain ⟨x2, c2⟩ := p2
 obtain ⟨x3, c3⟩ := p3
 obtain ⟨x4, c4⟩ := p4
 simp only at *
 refine satX_of_code tbOk mixed Tryz.func107 rfl rfl rfl (by decide +kernel) (by decide +kernel) (Nat.le_of_ble_eq_true rfl) (by simp [go_sem]) (by simp [go_sem]) (by simp [go_sem]) (by simp [go_sem]) (by simp [go_sem]) rfl ?_
 simp -implicitDefEqProofs (disch := omega) only [go_sem]
 refine ⟨fun h1 => ?_, fun h1 => ⟨fun h2 => ?_, fun h2 => ?_⟩⟩
 ·rw [hr, if_pos h1]
  exact ⟨[], by simp, rfl, ⟨rfl, trivial⟩, rfl⟩
 ·rw [if_neg h1, if_pos h2] at hr
  refine LoanK.con [9000] [] (s1) rfl (by simp [go_sem]) ?_
  simp -implicitDefEqProofs (disch := omega) only [go_sem]
  refine ⟨by omega, fun _ => ⟨[], by simp, rfl, ⟨?_, trivial⟩, ?_⟩⟩ <;> rw [hr]
 ·rw [if_neg h1, if_neg h2] at hr
  refine LoanK.con [9000] [] (s1) rfl (by simp [go_sem]) ?_
  simp -implicitDefEqProofs (disch := omega) only [go_sem]
  refine LoanK.con [9000] [] (s2) rfl (by simp [go_sem]) ?_
  simp -implicitDefEqProofs (disch := omega) only [go_sem]
  refine LoanK.con [9000] [] (s3) rfl (by simp [go_sem]) ?_
  simp -implicitDefEqProofs (disch := omega) only [go_sem]
  refine LoanK.con [9000] [] (s4) rfl (by simp [go_sem]) ?_
  simp -implicitDefEqProofs (disch := omega) only [go_sem]
  refine ⟨by omega, fun _ => ⟨[], by simp, rfl, ⟨?_, trivial⟩, ?_⟩⟩ <;> rw [hr]
theorem below_ex (bs : List Int) (hb : okBs8 bs) (c : Cur) (hc : c.i ≤ bs.length) (n : Int) (hn : 0 < n) : ∃ c' x, c'.i ≤ bs.length ∧ 0 ≤ x ∧ x < n ∧ SatX Tryz.prog 107 [.one (.ptr 0 0), intV n] [curB bs c] [curB bs c'] (intV x) :=
 ⟨_, _, belowF_i bs c n hc, (belowF_ok bs c n hn).1, (belowF_ok bs c n hn).2, below_sat bs hb c hc n⟩
theorem once_ex (bs : List Int) (hb : okBs8 bs) (c : Cur) (hc : c.i ≤ bs.length) (n : Int) (hn : 0 < n) : ∃ c' b, c'.i ≤ bs.length ∧ SatX Tryz.prog 83 [.one (.ptr 0 0), intV n] [curB bs c] [curB bs c'] (boolV b) := by
 obtain ⟨c1, x, i1, _, _, s1⟩ := below_ex bs hb c hc n hn
 refine ⟨c1, (x == 0), i1, ?_⟩
 refine satX_of_code tbOk mixed Tryz.func83 rfl rfl rfl (by decide +kernel) (by decide +kernel) (Nat.le_of_ble_eq_true rfl) (by simp [go_sem]) (by simp [go_sem]) (by simp [go_sem]) (by simp [go_sem]) (by simp [go_sem]) rfl ?_
 simp -implicitDefEqProofs (disch := omega) only [go_sem]
 refine LoanK.con [9000] [] (s1) rfl (by simp [go_sem]) ?_
 simp -implicitDefEqProofs (disch := omega) only [go_sem]
 exact ⟨[], by simp, rfl, trivial⟩
theorem pick_ex (bs : List Int) (hb : okBs8 bs) (c : Cur) (hc : c.i ≤ bs.length) (xs : List ByteArray) (hx : xs ≠ []) (hl : xs.length ≤ 1000000) : ∃ c' s, c'.i ≤ bs.length ∧ s ∈ xs ∧ SatX Tryz.prog 82 [.one (.ptr 0 0), slV (xs.map encS)] [curB bs c] [curB bs c'] (strV s) := by
 have hlp : 0 < xs.length := List.length_pos_iff.2 hx
 obtain ⟨c1, x, i1, x0, x1, s1⟩ := below_ex bs hb c hc xs.length (by omega)
 have hxl : x.toNat < xs.length := by omega
 refine ⟨c1, xs[x.toNat], i1, List.getElem_mem hxl, ?_⟩
 have hg := map_getD (ec := encS) hxl
 generalize xs[x.toNat] = y at hg
 refine satX_of_code tbOk mixed Tryz.func82 rfl rfl rfl (by decide +kernel) (by decide +kernel) (Nat.le_of_ble_eq_true rfl) (by simp [go_sem]) (by simp [go_sem]) (by simp [go_sem]) (by simp [go_sem]) (by simp [go_sem]) rfl ?_
 simp -implicitDefEqProofs (disch := omega) only [go_sem]
 refine LoanK.con [9000] [] (s1) rfl (by simp [go_sem]) ?_
 simp -implicitDefEqProofs (disch := omega) only [go_sem, hg]
 refine ⟨⟨x0, x1, rfl⟩, fun _ => ⟨by simp [encS], fun _ => ⟨[], by simp, rfl, trivial, rfl⟩⟩⟩
theorem pickInt_ex (bs : List Int) (hb : okBs8 bs) (c : Cur) (hc : c.i ≤ bs.length) (xs : List Int) (hx : xs ≠ []) (hl : xs.length ≤ 1000000) : ∃ c' s, c'.i ≤ bs.length ∧ s ∈ xs ∧ SatX Tryz.prog 154 [.one (.ptr 0 0), slV (xs.map encI)] [curB bs c] [curB bs c'] (intV s) := by
 have hlp : 0 < xs.length := List.length_pos_iff.2 hx
 obtain ⟨c1, x, i1, x0, x1, s1⟩ := below_ex bs hb c hc xs.length (by omega)
 have hxl : x.toNat < xs.length := by omega
 refine ⟨c1, xs[x.toNat], i1, List.getElem_mem hxl, ?_⟩
 have hg := map_getD (ec := encI) hxl
 generalize xs[x.toNat] = y at hg
 refine satX_of_code tbOk mixed Tryz.func154 rfl rfl rfl (by decide +kernel) (by decide +kernel) (Nat.le_of_ble_eq_true rfl) (by simp [go_sem]) (by simp [go_sem]) (by simp [go_sem]) (by simp [go_sem]) (by simp [go_sem]) rfl ?_
 simp -implicitDefEqProofs (disch := omega) only [go_sem]
 refine LoanK.con [9000] [] (s1) rfl (by simp [go_sem]) ?_
 simp -implicitDefEqProofs (disch := omega) only [go_sem, hg]
 refine ⟨⟨x0, x1, rfl⟩, fun _ => ⟨by simp [encI], fun _ => ⟨[], by simp, rfl, trivial, rfl⟩⟩⟩
theorem pickTerm_ex (bs : List Int) (hb : okBs8 bs) (c : Cur) (hc : c.i ≤ bs.length) (xs : List Tm) (hx : xs ≠ []) (hl : xs.length ≤ 1000000) : ∃ c' s, c'.i ≤ bs.length ∧ s ∈ xs ∧ SatX Tryz.prog 148 [.one (.ptr 0 0), slV (xs.map Tm.enc)] [curB bs c] [curB bs c'] (tmV s) := by
 have hlp : 0 < xs.length := List.length_pos_iff.2 hx
 obtain ⟨c1, x, i1, x0, x1, s1⟩ := below_ex bs hb c hc xs.length (by omega)
 have hxl : x.toNat < xs.length := by omega
 refine ⟨c1, xs[x.toNat], i1, List.getElem_mem hxl, ?_⟩
 have hg := map_getD (ec := Tm.enc) hxl
 generalize xs[x.toNat] = y at hg
 obtain ⟨k, n, s, ts⟩ := y
 simp only [Tm.enc] at hg
 refine satX_of_code tbOk mixed Tryz.func148 rfl rfl rfl (by decide +kernel) (by decide +kernel) (Nat.le_of_ble_eq_true rfl) (by simp [go_sem]) (by simp [go_sem]) (by simp [go_sem]) (by simp [go_sem]) (by simp [go_sem]) rfl ?_
 simp -implicitDefEqProofs (disch := omega) only [go_sem]
 refine LoanK.con [9000] [] (s1) rfl (by simp [go_sem]) ?_
 simp -implicitDefEqProofs (disch := omega) only [go_sem, hg]
 exact ⟨⟨x0, x1⟩, fun _ => ⟨[], by simp, rfl, trivial, rfl⟩⟩
end Go.Ai
/- Draws: terms. Written by mkdw2.py. -/
namespace Go.Ai
open Go.Proofs
set_option maxRecDepth 100000
theorem pick8_ex (bs : List Int) (hb : okBs8 bs) (c : Cur) (hc : c.i ≤ bs.length) (xs : List ByteArray) (hx : xs ≠ []) (hl : xs.length ≤ 1000000) (h8 : xs.all (fun x => decide (x.size ≤ 8)) = true) : ∃ c' s, c'.i ≤ bs.length ∧ s.size ≤ 8 ∧ SatX Tryz.prog 82 [.one (.ptr 0 0), slV (xs.map encS)] [curB bs c] [curB bs c'] (strV s) := by
 obtain ⟨c', s, h1, h2, h3⟩ := pick_ex bs hb c hc xs hx hl
 exact ⟨c', s, h1, by simpa using List.all_eq_true.1 h8 s h2, h3⟩
theorem l3Var_sat (s : ByteArray) : Sat Tryz.prog 145 [strV s] (tmV (.mk 1 0 s [])) := by
 refine sat_of_code tbOk mixed Tryz.func145 rfl rfl rfl (by decide +kernel) (by decide +kernel) (Nat.le_of_ble_eq_true rfl) ?_
 simp -implicitDefEqProofs (disch := omega) only [go_sem]
 rfl
theorem l3App_sat (s : ByteArray) (ts : List Tm) : Sat Tryz.prog 149 [strV s, tmsV ts] (tmV (.mk 2 0 s ts)) := by
 refine sat_of_code tbOk mixed Tryz.func149 rfl rfl rfl (by decide +kernel) (by decide +kernel) (Nat.le_of_ble_eq_true rfl) ?_
 simp -implicitDefEqProofs (disch := omega) only [go_sem]
 rfl
theorem l3One_sat (s : ByteArray) (a : Tm) : Sat Tryz.prog 146 [strV s, tmV a] (tmV (.mk 2 0 s [a])) := by
 have h := l3App_sat s [a]
 refine sat_of_code tbOk mixed Tryz.func146 rfl rfl rfl (by decide +kernel) (by decide +kernel) (Nat.le_of_ble_eq_true rfl) ?_
 obtain ⟨k, n, z, ts⟩ := a
 simp -implicitDefEqProofs (disch := omega) only [go_sem, Tm.enc]
 refine CallK.mk h ?_
 simp -implicitDefEqProofs (disch := omega) only [go_sem]
theorem l3Pair_sat (s : ByteArray) (a b : Tm) : Sat Tryz.prog 147 [strV s, tmV a, tmV b] (tmV (.mk 2 0 s [a, b])) := by
 have h := l3App_sat s [a, b]
 refine sat_of_code tbOk mixed Tryz.func147 rfl rfl rfl (by decide +kernel) (by decide +kernel) (Nat.le_of_ble_eq_true rfl) ?_
 obtain ⟨k, n, z, ts⟩ := a
 obtain ⟨k', n', z', ts'⟩ := b
 simp -implicitDefEqProofs (disch := omega) only [go_sem, Tm.enc]
 refine CallK.mk h ?_
 simp -implicitDefEqProofs (disch := omega) only [go_sem]
def gT (B : Nat) (t : Tm) : Prop := t.wf ∧ t.size ≤ B
theorem gT_mono {B B' : Nat} {t : Tm} (h : B ≤ B') (g : gT B t) : gT B' t := ⟨g.1, Nat.le_trans g.2 h⟩
theorem g_leaf (k n : Int) (s : ByteArray) (hk : (Lit.int .i64 k).wf = true) (hn : (Lit.int .i64 n).wf = true) (hs : s.size ≤ 8) : gT 10 (.mk k n s []) := by
 refine ⟨?_, ?_⟩
 ·simp only [Tm.wf]
  exact ⟨hk, hn, by have : (8:Nat) ≤ maxLen := by decide
                    omega, Nat.zero_le _, trivial⟩
 ·simp only [Tm.size, Tm.sizes]; omega
theorem g_word (n : Int) (h0 : 0 ≤ n) (h1 : n < 4) : gT 10 (wordT n) := by
 have : n = 0 ∨ n = 1 ∨ n = 2 ∨ n = 3 := by omega
 rcases this with rfl | rfl | rfl | rfl <;> exact g_leaf _ _ _ (by decide) (by decide) (by decide)
theorem g_app (s : ByteArray) (hs : s.size ≤ 8) : gT 10 (.mk 2 0 s []) := g_leaf _ _ _ (by decide) (by decide) hs
theorem g_one {B : Nat} (s : ByteArray) (a : Tm) (hs : s.size ≤ 8) (ha : gT B a) : gT (10 + B) (.mk 2 0 s [a]) := by
 refine ⟨?_, ?_⟩
 ·simp only [Tm.wf, Tm.wfs]
  exact ⟨by decide, by decide, by have : (8:Nat) ≤ maxLen := by decide
                                  omega, (by decide : 1 ≤ maxLen), ha.1, trivial⟩
 ·have := ha.2; simp only [Tm.size, Tm.sizes]; omega
theorem g_pair {B B' : Nat} (s : ByteArray) (a b : Tm) (hs : s.size ≤ 8) (ha : gT B a) (hb : gT B' b) : gT (10 + (B + B')) (.mk 2 0 s [a, b]) := by
 refine ⟨?_, ?_⟩
 ·simp only [Tm.wf, Tm.wfs]
  exact ⟨by decide, by decide, by have : (8:Nat) ≤ maxLen := by decide
                                  omega, (by decide : 2 ≤ maxLen), ha.1, hb.1, trivial⟩
 ·have := ha.2; have := hb.2; simp only [Tm.size, Tm.sizes]; omega
def bT : Nat → Nat
 | 0 => 10
 | n + 1 => 10 + (bT n + bT n)
theorem bT_ge (n : Nat) : 10 ≤ bT n := by cases n <;> simp [bT]
abbrev tRow (ts : List Tm) : LB := .arr 37 4 (rowsOf Tm.enc ts) false
abbrev tmO (k n : Int) (s : ByteArray) (j m : Nat) : AV := .agg [iC k, iC n, sC s, .own j m]
theorem l3App_x (s : ByteArray) (ts : List Tm) : SatX Tryz.prog 149 [strV s, .one (.own 0 ts.length)] [tRow ts] [tRow ts] (tmO 2 0 s 0 ts.length) := by
 refine satX_of_code tbOk mixed Tryz.func149 rfl rfl rfl (by decide +kernel) (by decide +kernel) (Nat.le_of_ble_eq_true rfl) (by simp [go_sem]) (by simp [go_sem]) (by simp [go_sem]) (by simp [go_sem]) (by simp [go_sem]) rfl ?_
 simp -implicitDefEqProofs (disch := omega) only [go_sem]
 exact ⟨[], by simp, rfl, trivial⟩
theorem l3Leaf_ex (bs : List Int) (hb : okBs8 bs) (n : Nat) (hn : (n : Int) < 2) (c : Cur) (hc : c.i ≤ bs.length) (g : Bool) : ∃ c' t, c'.i ≤ bs.length ∧ gT (bT n) t ∧ SatX Tryz.prog 153 [.one (.ptr 0 0), intV (n : Nat), boolV g] [curB bs c] [curB bs c'] (tmV t) := by
 rcases g with _ | _
 ·obtain ⟨c1, b1, i1, s1⟩ := once_ex bs hb c hc 2 (by omega)
  rcases b1 with _ | _
  ·refine ex2 (satX_ex [(10, ([⟨2, 3, [47, 48], [7]⟩, ⟨3, 8, [7], [51, 53, 54]⟩], [2, 8]))] tbOk mixed Tryz.func153 rfl rfl rfl (by decide +kernel) (by decide +kernel) (Nat.le_of_ble_eq_true rfl) (by simp [go_sem]) (by simp [go_sem]) (fun _ => by simp [go_sem]) (fun _ => by simp [go_sem]) (fun _ => by simp [go_sem]) (fun _ => rfl) ?_)
   simp -implicitDefEqProofs (disch := omega) only [go_sem, hn]
   refine exW.loan [9000] [] s1 rfl (by simp [go_sem, encS, encI]) ?_
   simp -implicitDefEqProofs (disch := omega) only [go_sem, hn]
   obtain ⟨c2, b2, i2, s2⟩ := once_ex bs hb c1 i1 2 (by omega)
   rcases b2 with _ | _
   ·refine exW.loan [9000] [] s2 rfl (by simp [go_sem, encS, encI]) ?_
    simp -implicitDefEqProofs (disch := omega) only [go_sem, hn]
    obtain ⟨c3, y3, i3, z3, s3⟩ := pick8_ex bs hb c2 i2 [⟨#[97]⟩, ⟨#[98]⟩] (by simp) (by decide) (by decide)
    refine exW.loan [9000] [] s3 rfl (by simp [go_sem, encS, encI]) ?_
    simp -implicitDefEqProofs (disch := omega) only [go_sem, hn]
    refine exW.call (l3App_sat y3 []) ?_
    simp -implicitDefEqProofs (disch := omega) only [go_sem, hn]
    refine exW.fin (c3, .mk 2 0 y3 []) ⟨i3, gT_mono (bT_ge _) (g_app y3 z3)⟩ ?_
    first | done | exact ⟨[], by simp, rfl, trivial⟩ | exact ⟨[], by simp, rfl, ⟨rfl, trivial⟩, rfl⟩ | exact ⟨[], by simp [go_sem]⟩
   ·refine exW.loan [9000] [] s2 rfl (by simp [go_sem, encS, encI]) ?_
    simp -implicitDefEqProofs (disch := omega) only [go_sem, hn]
    obtain ⟨c3, x3, i3, x3a, x3b, s3⟩ := below_ex bs hb c2 i2 4 (by omega)
    refine exW.loan [9000] [] s3 rfl (by simp [go_sem, encS, encI]) ?_
    simp -implicitDefEqProofs (disch := omega) only [go_sem, hn]
    refine exW.call (l3Word_sat x3) ?_
    simp -implicitDefEqProofs (disch := omega) only [go_sem, hn]
    refine exW.fin (c3, wordT x3) ⟨i3, gT_mono (bT_ge _) (g_word x3 x3a x3b)⟩ ?_
    first | done | exact ⟨[], by simp, rfl, trivial⟩ | exact ⟨[], by simp, rfl, ⟨rfl, trivial⟩, rfl⟩ | exact ⟨[], by simp [go_sem]⟩
  ·refine ex2 (satX_ex [(10, ([⟨2, 3, [47, 48], [7]⟩, ⟨3, 8, [7], [51, 53, 54]⟩], [2, 8]))] tbOk mixed Tryz.func153 rfl rfl rfl (by decide +kernel) (by decide +kernel) (Nat.le_of_ble_eq_true rfl) (by simp [go_sem]) (by simp [go_sem]) (fun _ => by simp [go_sem]) (fun _ => by simp [go_sem]) (fun _ => by simp [go_sem]) (fun _ => rfl) ?_)
   simp -implicitDefEqProofs (disch := omega) only [go_sem, hn]
   refine exW.loan [9000] [] s1 rfl (by simp [go_sem, encS, encI]) ?_
   simp -implicitDefEqProofs (disch := omega) only [go_sem, hn]
   obtain ⟨c2, y2, i2, z2, s2⟩ := pick8_ex bs hb c1 i1 [⟨#[88]⟩, ⟨#[89]⟩, ⟨#[90]⟩] (by simp) (by decide) (by decide)
   refine exW.loan [9000] [] s2 rfl (by simp [go_sem, encS, encI]) ?_
   simp -implicitDefEqProofs (disch := omega) only [go_sem, hn]
   refine exW.call (l3Var_sat y2) ?_
   simp -implicitDefEqProofs (disch := omega) only [go_sem, hn]
   refine exW.fin (c2, .mk 1 0 y2 []) ⟨i2, gT_mono (bT_ge _) (g_leaf _ _ _ (by decide) (by decide) z2)⟩ ?_
   first | done | exact ⟨[], by simp, rfl, trivial⟩ | exact ⟨[], by simp, rfl, ⟨rfl, trivial⟩, rfl⟩ | exact ⟨[], by simp [go_sem]⟩
 ·obtain ⟨c1, b1, i1, s1⟩ := once_ex bs hb c hc 2 (by omega)
  rcases b1 with _ | _
  ·refine ex2 (satX_ex [(10, ([⟨2, 3, [47, 48], [7]⟩, ⟨3, 8, [7], [51, 53, 54]⟩], [2, 8]))] tbOk mixed Tryz.func153 rfl rfl rfl (by decide +kernel) (by decide +kernel) (Nat.le_of_ble_eq_true rfl) (by simp [go_sem]) (by simp [go_sem]) (fun _ => by simp [go_sem]) (fun _ => by simp [go_sem]) (fun _ => by simp [go_sem]) (fun _ => rfl) ?_)
   simp -implicitDefEqProofs (disch := omega) only [go_sem, hn]
   refine exW.loan [9000] [] s1 rfl (by simp [go_sem, encS, encI]) ?_
   simp -implicitDefEqProofs (disch := omega) only [go_sem, hn]
   obtain ⟨c2, y2, i2, z2, s2⟩ := pick8_ex bs hb c1 i1 [⟨#[97]⟩, ⟨#[98]⟩] (by simp) (by decide) (by decide)
   refine exW.loan [9000] [] s2 rfl (by simp [go_sem, encS, encI]) ?_
   simp -implicitDefEqProofs (disch := omega) only [go_sem, hn]
   refine exW.call (l3App_sat y2 []) ?_
   simp -implicitDefEqProofs (disch := omega) only [go_sem, hn]
   refine exW.fin (c2, .mk 2 0 y2 []) ⟨i2, gT_mono (bT_ge _) (g_app y2 z2)⟩ ?_
   first | done | exact ⟨[], by simp, rfl, trivial⟩ | exact ⟨[], by simp, rfl, ⟨rfl, trivial⟩, rfl⟩ | exact ⟨[], by simp [go_sem]⟩
  ·refine ex2 (satX_ex [(10, ([⟨2, 3, [47, 48], [7]⟩, ⟨3, 8, [7], [51, 53, 54]⟩], [2, 8]))] tbOk mixed Tryz.func153 rfl rfl rfl (by decide +kernel) (by decide +kernel) (Nat.le_of_ble_eq_true rfl) (by simp [go_sem]) (by simp [go_sem]) (fun _ => by simp [go_sem]) (fun _ => by simp [go_sem]) (fun _ => by simp [go_sem]) (fun _ => rfl) ?_)
   simp -implicitDefEqProofs (disch := omega) only [go_sem, hn]
   refine exW.loan [9000] [] s1 rfl (by simp [go_sem, encS, encI]) ?_
   simp -implicitDefEqProofs (disch := omega) only [go_sem, hn]
   obtain ⟨c2, x2, i2, x2a, x2b, s2⟩ := below_ex bs hb c1 i1 4 (by omega)
   refine exW.loan [9000] [] s2 rfl (by simp [go_sem, encS, encI]) ?_
   simp -implicitDefEqProofs (disch := omega) only [go_sem, hn]
   refine exW.call (l3Word_sat x2) ?_
   simp -implicitDefEqProofs (disch := omega) only [go_sem, hn]
   refine exW.fin (c2, wordT x2) ⟨i2, gT_mono (bT_ge _) (g_word x2 x2a x2b)⟩ ?_
   first | done | exact ⟨[], by simp, rfl, trivial⟩ | exact ⟨[], by simp, rfl, ⟨rfl, trivial⟩, rfl⟩ | exact ⟨[], by simp [go_sem]⟩
theorem l3Draw_ex (bs : List Int) (hb : okBs8 bs) (n : Nat) : n ≤ 20 → ∀ (c : Cur) (hc : c.i ≤ bs.length) (g : Bool), ∃ c' t, c'.i ≤ bs.length ∧ gT (bT n) t ∧ SatX Tryz.prog 153 [.one (.ptr 0 0), intV (n : Nat), boolV g] [curB bs c] [curB bs c'] (tmV t) := by
 induction n with
 | zero => exact fun _ c hc g => l3Leaf_ex bs hb 0 (by decide) c hc g
 | succ m ih =>
  intro hm c hc g
  by_cases hn : ((m + 1 : Nat) : Int) < 2
  ·exact l3Leaf_ex bs hb _ hn c hc g
  have hm1 : ((m + 1 : Nat) : Int) - 1 = (m : Int) := by omega
  rcases g with _ | _
  ·obtain ⟨c1, b1, i1, s1⟩ := once_ex bs hb c hc 4 (by omega)
   rcases b1 with _ | _
   ·refine ex2 (satX_ex [(10, ([⟨2, 3, [47, 48], [7]⟩, ⟨3, 8, [7], [51, 53, 54]⟩], [2, 8]))] tbOk mixed Tryz.func153 rfl rfl rfl (by decide +kernel) (by decide +kernel) (Nat.le_of_ble_eq_true rfl) (by simp [go_sem]) (by simp [go_sem]) (fun _ => by simp [go_sem]) (fun _ => by simp [go_sem]) (fun _ => by simp [go_sem]) (fun _ => rfl) ?_)
    simp -implicitDefEqProofs (disch := omega) only [go_sem, hn, hm1]
    refine exW.loan [9000] [] s1 rfl (by simp [go_sem, encS, encI]) ?_
    simp -implicitDefEqProofs (disch := omega) only [go_sem, hn, hm1]
    obtain ⟨c2, b2, i2, s2⟩ := once_ex bs hb c1 i1 3 (by omega)
    rcases b2 with _ | _
    ·refine exW.loan [9000] [] s2 rfl (by simp [go_sem, encS, encI]) ?_
     simp -implicitDefEqProofs (disch := omega) only [go_sem, hn, hm1]
     obtain ⟨c3, a, i3, ga, s3⟩ := ih (by omega) c2 i2 false
     refine exW.loan [9000] [] s3 rfl (by simp [go_sem, encS, encI]) ?_
     simp -implicitDefEqProofs (disch := omega) only [go_sem, hn, hm1]
     obtain ⟨c4, y4, i4, z4, s4⟩ := pick8_ex bs hb c3 i3 [⟨#[102]⟩, ⟨#[102]⟩, ⟨#[104]⟩] (by simp) (by decide) (by decide)
     refine exW.uv [9000] s4 (by simp [go_sem, encS, encI]) (by simp [go_sem]) ?_
     simp -implicitDefEqProofs (disch := omega) only [go_sem, hn, hm1]
     obtain ⟨c5, b, i5, gb, s5⟩ := ih (by omega) c4 i4 false
     refine exW.uv [9000] s5 (by simp [go_sem, encS, encI]) (by simp [go_sem]) ?_
     simp -implicitDefEqProofs (disch := omega) only [go_sem, hn, hm1]
     refine exW.call (l3Pair_sat y4 a b) ?_
     simp -implicitDefEqProofs (disch := omega) only [go_sem, hn, hm1]
     refine exW.fin (c5, .mk 2 0 y4 [a, b]) ⟨i5, g_pair _ _ _ z4 ga gb⟩ ?_
     first | done | exact ⟨[], by simp, rfl, trivial⟩ | exact ⟨[], by simp, rfl, ⟨rfl, trivial⟩, rfl⟩ | exact ⟨[], by simp [go_sem]⟩
    ·refine exW.loan [9000] [] s2 rfl (by simp [go_sem, encS, encI]) ?_
     simp -implicitDefEqProofs (disch := omega) only [go_sem, hn, hm1]
     obtain ⟨c3, a, i3, ga, s3⟩ := ih (by omega) c2 i2 false
     refine exW.loan [9000] [] s3 rfl (by simp [go_sem, encS, encI]) ?_
     simp -implicitDefEqProofs (disch := omega) only [go_sem, hn, hm1]
     refine exW.call (l3One_sat ⟨#[103]⟩ a) ?_
     simp -implicitDefEqProofs (disch := omega) only [go_sem, hn, hm1]
     refine exW.fin (c3, .mk 2 0 ⟨#[103]⟩ [a]) ⟨i3, gT_mono (by simp only [bT]; omega) (g_one _ _ (by decide) ga)⟩ ?_
     first | done | exact ⟨[], by simp, rfl, trivial⟩ | exact ⟨[], by simp, rfl, ⟨rfl, trivial⟩, rfl⟩ | exact ⟨[], by simp [go_sem]⟩
   ·refine ex2 (satX_ex [(10, ([⟨2, 3, [47, 48], [7]⟩, ⟨3, 8, [7], [51, 53, 54]⟩], [2, 8]))] tbOk mixed Tryz.func153 rfl rfl rfl (by decide +kernel) (by decide +kernel) (Nat.le_of_ble_eq_true rfl) (by simp [go_sem]) (by simp [go_sem]) (fun _ => by simp [go_sem]) (fun _ => by simp [go_sem]) (fun _ => by simp [go_sem]) (fun _ => rfl) ?_)
    simp -implicitDefEqProofs (disch := omega) only [go_sem, hn, hm1]
    refine exW.loan [9000] [] s1 rfl (by simp [go_sem, encS, encI]) ?_
    simp -implicitDefEqProofs (disch := omega) only [go_sem, hn, hm1]
    obtain ⟨c2, b2, i2, s2⟩ := once_ex bs hb c1 i1 2 (by omega)
    rcases b2 with _ | _
    ·refine exW.loan [9000] [] s2 rfl (by simp [go_sem, encS, encI]) ?_
     simp -implicitDefEqProofs (disch := omega) only [go_sem, hn, hm1]
     obtain ⟨c3, b3, i3, s3⟩ := once_ex bs hb c2 i2 2 (by omega)
     rcases b3 with _ | _
     ·refine exW.loan [9000] [] s3 rfl (by simp [go_sem, encS, encI]) ?_
      simp -implicitDefEqProofs (disch := omega) only [go_sem, hn, hm1]
      obtain ⟨c4, y4, i4, z4, s4⟩ := pick8_ex bs hb c3 i3 [⟨#[97]⟩, ⟨#[98]⟩] (by simp) (by decide) (by decide)
      refine exW.loan [9000] [] s4 rfl (by simp [go_sem, encS, encI]) ?_
      simp -implicitDefEqProofs (disch := omega) only [go_sem, hn, hm1]
      refine exW.call (l3App_sat y4 []) ?_
      simp -implicitDefEqProofs (disch := omega) only [go_sem, hn, hm1]
      refine exW.fin (c4, .mk 2 0 y4 []) ⟨i4, gT_mono (bT_ge _) (g_app y4 z4)⟩ ?_
      first | done | exact ⟨[], by simp, rfl, trivial⟩ | exact ⟨[], by simp, rfl, ⟨rfl, trivial⟩, rfl⟩ | exact ⟨[], by simp [go_sem]⟩
     ·refine exW.loan [9000] [] s3 rfl (by simp [go_sem, encS, encI]) ?_
      simp -implicitDefEqProofs (disch := omega) only [go_sem, hn, hm1]
      obtain ⟨c4, x4, i4, x4a, x4b, s4⟩ := below_ex bs hb c3 i3 4 (by omega)
      refine exW.loan [9000] [] s4 rfl (by simp [go_sem, encS, encI]) ?_
      simp -implicitDefEqProofs (disch := omega) only [go_sem, hn, hm1]
      refine exW.call (l3Word_sat x4) ?_
      simp -implicitDefEqProofs (disch := omega) only [go_sem, hn, hm1]
      refine exW.fin (c4, wordT x4) ⟨i4, gT_mono (bT_ge _) (g_word x4 x4a x4b)⟩ ?_
      first | done | exact ⟨[], by simp, rfl, trivial⟩ | exact ⟨[], by simp, rfl, ⟨rfl, trivial⟩, rfl⟩ | exact ⟨[], by simp [go_sem]⟩
    ·refine exW.loan [9000] [] s2 rfl (by simp [go_sem, encS, encI]) ?_
     simp -implicitDefEqProofs (disch := omega) only [go_sem, hn, hm1]
     obtain ⟨c3, y3, i3, z3, s3⟩ := pick8_ex bs hb c2 i2 [⟨#[88]⟩, ⟨#[89]⟩, ⟨#[90]⟩] (by simp) (by decide) (by decide)
     refine exW.loan [9000] [] s3 rfl (by simp [go_sem, encS, encI]) ?_
     simp -implicitDefEqProofs (disch := omega) only [go_sem, hn, hm1]
     refine exW.call (l3Var_sat y3) ?_
     simp -implicitDefEqProofs (disch := omega) only [go_sem, hn, hm1]
     refine exW.fin (c3, .mk 1 0 y3 []) ⟨i3, gT_mono (bT_ge _) (g_leaf _ _ _ (by decide) (by decide) z3)⟩ ?_
     first | done | exact ⟨[], by simp, rfl, trivial⟩ | exact ⟨[], by simp, rfl, ⟨rfl, trivial⟩, rfl⟩ | exact ⟨[], by simp [go_sem]⟩
  ·obtain ⟨c1, b1, i1, s1⟩ := once_ex bs hb c hc 4 (by omega)
   rcases b1 with _ | _
   ·refine ex2 (satX_ex [(10, ([⟨2, 3, [47, 48], [7]⟩, ⟨3, 8, [7], [51, 53, 54]⟩], [2, 8]))] tbOk mixed Tryz.func153 rfl rfl rfl (by decide +kernel) (by decide +kernel) (Nat.le_of_ble_eq_true rfl) (by simp [go_sem]) (by simp [go_sem]) (fun _ => by simp [go_sem]) (fun _ => by simp [go_sem]) (fun _ => by simp [go_sem]) (fun _ => rfl) ?_)
    simp -implicitDefEqProofs (disch := omega) only [go_sem, hn, hm1]
    refine exW.loan [9000] [] s1 rfl (by simp [go_sem, encS, encI]) ?_
    simp -implicitDefEqProofs (disch := omega) only [go_sem, hn, hm1]
    obtain ⟨c2, b2, i2, s2⟩ := once_ex bs hb c1 i1 3 (by omega)
    rcases b2 with _ | _
    ·refine exW.loan [9000] [] s2 rfl (by simp [go_sem, encS, encI]) ?_
     simp -implicitDefEqProofs (disch := omega) only [go_sem, hn, hm1]
     obtain ⟨c3, a, i3, ga, s3⟩ := ih (by omega) c2 i2 true
     refine exW.loan [9000] [] s3 rfl (by simp [go_sem, encS, encI]) ?_
     simp -implicitDefEqProofs (disch := omega) only [go_sem, hn, hm1]
     obtain ⟨c4, y4, i4, z4, s4⟩ := pick8_ex bs hb c3 i3 [⟨#[102]⟩, ⟨#[102]⟩, ⟨#[104]⟩] (by simp) (by decide) (by decide)
     refine exW.uv [9000] s4 (by simp [go_sem, encS, encI]) (by simp [go_sem]) ?_
     simp -implicitDefEqProofs (disch := omega) only [go_sem, hn, hm1]
     obtain ⟨c5, b, i5, gb, s5⟩ := ih (by omega) c4 i4 true
     refine exW.uv [9000] s5 (by simp [go_sem, encS, encI]) (by simp [go_sem]) ?_
     simp -implicitDefEqProofs (disch := omega) only [go_sem, hn, hm1]
     refine exW.call (l3Pair_sat y4 a b) ?_
     simp -implicitDefEqProofs (disch := omega) only [go_sem, hn, hm1]
     refine exW.fin (c5, .mk 2 0 y4 [a, b]) ⟨i5, g_pair _ _ _ z4 ga gb⟩ ?_
     first | done | exact ⟨[], by simp, rfl, trivial⟩ | exact ⟨[], by simp, rfl, ⟨rfl, trivial⟩, rfl⟩ | exact ⟨[], by simp [go_sem]⟩
    ·refine exW.loan [9000] [] s2 rfl (by simp [go_sem, encS, encI]) ?_
     simp -implicitDefEqProofs (disch := omega) only [go_sem, hn, hm1]
     obtain ⟨c3, a, i3, ga, s3⟩ := ih (by omega) c2 i2 true
     refine exW.loan [9000] [] s3 rfl (by simp [go_sem, encS, encI]) ?_
     simp -implicitDefEqProofs (disch := omega) only [go_sem, hn, hm1]
     refine exW.call (l3One_sat ⟨#[103]⟩ a) ?_
     simp -implicitDefEqProofs (disch := omega) only [go_sem, hn, hm1]
     refine exW.fin (c3, .mk 2 0 ⟨#[103]⟩ [a]) ⟨i3, gT_mono (by simp only [bT]; omega) (g_one _ _ (by decide) ga)⟩ ?_
     first | done | exact ⟨[], by simp, rfl, trivial⟩ | exact ⟨[], by simp, rfl, ⟨rfl, trivial⟩, rfl⟩ | exact ⟨[], by simp [go_sem]⟩
   ·refine ex2 (satX_ex [(10, ([⟨2, 3, [47, 48], [7]⟩, ⟨3, 8, [7], [51, 53, 54]⟩], [2, 8]))] tbOk mixed Tryz.func153 rfl rfl rfl (by decide +kernel) (by decide +kernel) (Nat.le_of_ble_eq_true rfl) (by simp [go_sem]) (by simp [go_sem]) (fun _ => by simp [go_sem]) (fun _ => by simp [go_sem]) (fun _ => by simp [go_sem]) (fun _ => rfl) ?_)
    simp -implicitDefEqProofs (disch := omega) only [go_sem, hn, hm1]
    refine exW.loan [9000] [] s1 rfl (by simp [go_sem, encS, encI]) ?_
    simp -implicitDefEqProofs (disch := omega) only [go_sem, hn, hm1]
    obtain ⟨c2, b2, i2, s2⟩ := once_ex bs hb c1 i1 2 (by omega)
    rcases b2 with _ | _
    ·refine exW.loan [9000] [] s2 rfl (by simp [go_sem, encS, encI]) ?_
     simp -implicitDefEqProofs (disch := omega) only [go_sem, hn, hm1]
     obtain ⟨c3, y3, i3, z3, s3⟩ := pick8_ex bs hb c2 i2 [⟨#[97]⟩, ⟨#[98]⟩] (by simp) (by decide) (by decide)
     refine exW.loan [9000] [] s3 rfl (by simp [go_sem, encS, encI]) ?_
     simp -implicitDefEqProofs (disch := omega) only [go_sem, hn, hm1]
     refine exW.call (l3App_sat y3 []) ?_
     simp -implicitDefEqProofs (disch := omega) only [go_sem, hn, hm1]
     refine exW.fin (c3, .mk 2 0 y3 []) ⟨i3, gT_mono (bT_ge _) (g_app y3 z3)⟩ ?_
     first | done | exact ⟨[], by simp, rfl, trivial⟩ | exact ⟨[], by simp, rfl, ⟨rfl, trivial⟩, rfl⟩ | exact ⟨[], by simp [go_sem]⟩
    ·refine exW.loan [9000] [] s2 rfl (by simp [go_sem, encS, encI]) ?_
     simp -implicitDefEqProofs (disch := omega) only [go_sem, hn, hm1]
     obtain ⟨c3, x3, i3, x3a, x3b, s3⟩ := below_ex bs hb c2 i2 4 (by omega)
     refine exW.loan [9000] [] s3 rfl (by simp [go_sem, encS, encI]) ?_
     simp -implicitDefEqProofs (disch := omega) only [go_sem, hn, hm1]
     refine exW.call (l3Word_sat x3) ?_
     simp -implicitDefEqProofs (disch := omega) only [go_sem, hn, hm1]
     refine exW.fin (c3, wordT x3) ⟨i3, gT_mono (bT_ge _) (g_word x3 x3a x3b)⟩ ?_
     first | done | exact ⟨[], by simp, rfl, trivial⟩ | exact ⟨[], by simp, rfl, ⟨rfl, trivial⟩, rfl⟩ | exact ⟨[], by simp [go_sem]⟩
end Go.Ai
/- Draws: bent terms. Written by mkdw3.py. -/
namespace Go.Ai
open Go.Proofs
set_option maxRecDepth 100000
theorem l3One_x (s : ByteArray) (a : Tm) : SatX Tryz.prog 146 [strV s, tmV a] [] [tRow [a]] (tmO 2 0 s 0 1) := by
 have h := l3App_x s [a]
 refine satX_of_code tbOk mixed Tryz.func146 rfl rfl rfl (by decide +kernel) (by decide +kernel) (Nat.le_of_ble_eq_true rfl) (by simp [go_sem]) (by simp [go_sem]) (by simp [go_sem]) (by simp [go_sem]) (by simp [go_sem]) rfl ?_
 obtain ⟨k, n, z, ts⟩ := a
 simp -implicitDefEqProofs (disch := omega) only [go_sem, Tm.enc]
 refine CallK.con [7] [] rfl h (by simp [go_sem, rowsOf, Tm.enc]) ?_
 simp -implicitDefEqProofs (disch := omega) only [go_sem]
 exact ⟨[7], by simp, rfl, by simp [go_sem, rowsOf, Tm.enc], by simp [go_sem]⟩
theorem l3Pair_x (s : ByteArray) (a b : Tm) : SatX Tryz.prog 147 [strV s, tmV a, tmV b] [] [tRow [a, b]] (tmO 2 0 s 0 2) := by
 have h := l3App_x s [a, b]
 refine satX_of_code tbOk mixed Tryz.func147 rfl rfl rfl (by decide +kernel) (by decide +kernel) (Nat.le_of_ble_eq_true rfl) (by simp [go_sem]) (by simp [go_sem]) (by simp [go_sem]) (by simp [go_sem]) (by simp [go_sem]) rfl ?_
 obtain ⟨k, n, z, ts⟩ := a
 obtain ⟨k', n', z', ts'⟩ := b
 simp -implicitDefEqProofs (disch := omega) only [go_sem, Tm.enc]
 refine CallK.con [10] [] rfl h (by simp [go_sem, rowsOf, Tm.enc]) ?_
 simp -implicitDefEqProofs (disch := omega) only [go_sem]
 exact ⟨[10], by simp, rfl, by simp [go_sem, rowsOf, Tm.enc], by simp [go_sem]⟩
abbrev tmN (k n : Int) (s : ByteArray) : AV := .agg [iC k, iC n, sC s, .nil]
theorem l3Var_x (s : ByteArray) : SatX Tryz.prog 145 [strV s] [] [] (tmN 1 0 s) := by
 refine satX_of_code tbOk mixed Tryz.func145 rfl rfl rfl (by decide +kernel) (by decide +kernel) (Nat.le_of_ble_eq_true rfl) (by simp [go_sem]) (by simp [go_sem]) (by simp [go_sem]) (by simp [go_sem]) (by simp [go_sem]) rfl ?_
 simp -implicitDefEqProofs (disch := omega) only [go_sem]
 exact ⟨[], by simp, rfl, trivial⟩
theorem l3Word_x (n : Int) : SatX Tryz.prog 150 [intV n] [] [] (tmN 3 n ⟨#[]⟩) := by
 refine satX_of_code tbOk mixed Tryz.func150 rfl rfl rfl (by decide +kernel) (by decide +kernel) (Nat.le_of_ble_eq_true rfl) (by simp [go_sem]) (by simp [go_sem]) (by simp [go_sem]) (by simp [go_sem]) (by simp [go_sem]) rfl ?_
 simp -implicitDefEqProofs (disch := omega) only [go_sem]
 exact ⟨[], by simp, rfl, trivial⟩
theorem l3Draw_o (bs : List Int) (hb : okBs8 bs) (m : Nat) (hm : m + 1 ≤ 20) (c : Cur) (hc : c.i ≤ bs.length) (g : Bool) : ∃ c' k nn s ts, c'.i ≤ bs.length ∧ gT (bT (m + 1)) (.mk k nn s ts) ∧ ((ts = [] ∧ SatX Tryz.prog 153 [.one (.ptr 0 0), intV (m + 1 : Nat), boolV g] [curB bs c] [curB bs c'] (tmN k nn s)) ∨ SatX Tryz.prog 153 [.one (.ptr 0 0), intV (m + 1 : Nat), boolV g] [curB bs c] [curB bs c', tRow ts] (tmO k nn s 1 ts.length)) := by
 have hm1 : ((m + 1 : Nat) : Int) - 1 = (m : Int) := by omega
 by_cases hn : ((m + 1 : Nat) : Int) < 2
 ·rcases g with _ | _
  ·obtain ⟨c1, b1, i1, s1⟩ := once_ex bs hb c hc 2 (by omega)
   rcases b1 with _ | _
   ·obtain ⟨c2, b2, i2, s2⟩ := once_ex bs hb c1 i1 2 (by omega)
    rcases b2 with _ | _
    ·obtain ⟨c3, y3, i3, z3, s3⟩ := pick8_ex bs hb c2 i2 [⟨#[97]⟩, ⟨#[98]⟩] (by simp) (by decide) (by decide)
     refine ⟨c3, 2, 0, y3, [], i3, gT_mono (bT_ge _) (g_app y3 z3), .inr ?_⟩
     refine satX_of_codeV [(10, ([⟨2, 3, [47, 48], [7]⟩, ⟨3, 8, [7], [51, 53, 54]⟩], [2, 8]))] tbOk mixed Tryz.func153 rfl rfl rfl (by decide +kernel) (by decide +kernel) (Nat.le_of_ble_eq_true rfl) (by simp [go_sem]) (by simp [go_sem]) (by simp [go_sem]) (by simp [go_sem]) (by simp [go_sem]) rfl ?_
     simp -implicitDefEqProofs (disch := omega) only [go_sem, hn]
     refine LoanK.con [9000] [] s1 rfl (by simp [go_sem, encS]) ?_
     simp -implicitDefEqProofs (disch := omega) only [go_sem, hn]
     refine LoanK.con [9000] [] s2 rfl (by simp [go_sem, encS]) ?_
     simp -implicitDefEqProofs (disch := omega) only [go_sem, hn]
     refine LoanK.con [9000] [] s3 rfl (by simp [go_sem, encS]) ?_
     simp -implicitDefEqProofs (disch := omega) only [go_sem, hn]
     refine CallK.con [32] [] rfl (l3App_x y3 []) (by simp [go_sem, rowsOf]) ?_
     simp -implicitDefEqProofs (disch := omega) only [go_sem, hn]
     exact ⟨[32], by simp, rfl, by simp [go_sem, rowsOf], by simp [go_sem]⟩
    ·obtain ⟨c3, x3, i3, x3a, x3b, s3⟩ := below_ex bs hb c2 i2 4 (by omega)
     refine ⟨c3, 3, x3, ⟨#[]⟩, [], i3, gT_mono (bT_ge _) (g_word x3 x3a x3b), .inl ⟨rfl, ?_⟩⟩
     refine satX_of_codeV [(10, ([⟨2, 3, [47, 48], [7]⟩, ⟨3, 8, [7], [51, 53, 54]⟩], [2, 8]))] tbOk mixed Tryz.func153 rfl rfl rfl (by decide +kernel) (by decide +kernel) (Nat.le_of_ble_eq_true rfl) (by simp [go_sem]) (by simp [go_sem]) (by simp [go_sem]) (by simp [go_sem]) (by simp [go_sem]) rfl ?_
     simp -implicitDefEqProofs (disch := omega) only [go_sem, hn]
     refine LoanK.con [9000] [] s1 rfl (by simp [go_sem, encS]) ?_
     simp -implicitDefEqProofs (disch := omega) only [go_sem, hn]
     refine LoanK.con [9000] [] s2 rfl (by simp [go_sem, encS]) ?_
     simp -implicitDefEqProofs (disch := omega) only [go_sem, hn]
     refine LoanK.con [9000] [] s3 rfl (by simp [go_sem, encS]) ?_
     simp -implicitDefEqProofs (disch := omega) only [go_sem, hn]
     refine CallK.con [] [] rfl (l3Word_x x3) (by simp [go_sem]) ?_
     simp -implicitDefEqProofs (disch := omega) only [go_sem, hn]
     exact ⟨[], by simp, rfl, trivial⟩
   ·obtain ⟨c2, y2, i2, z2, s2⟩ := pick8_ex bs hb c1 i1 [⟨#[88]⟩, ⟨#[89]⟩, ⟨#[90]⟩] (by simp) (by decide) (by decide)
    refine ⟨c2, 1, 0, y2, [], i2, gT_mono (bT_ge _) (g_leaf _ _ _ (by decide) (by decide) z2), .inl ⟨rfl, ?_⟩⟩
    refine satX_of_codeV [(10, ([⟨2, 3, [47, 48], [7]⟩, ⟨3, 8, [7], [51, 53, 54]⟩], [2, 8]))] tbOk mixed Tryz.func153 rfl rfl rfl (by decide +kernel) (by decide +kernel) (Nat.le_of_ble_eq_true rfl) (by simp [go_sem]) (by simp [go_sem]) (by simp [go_sem]) (by simp [go_sem]) (by simp [go_sem]) rfl ?_
    simp -implicitDefEqProofs (disch := omega) only [go_sem, hn]
    refine LoanK.con [9000] [] s1 rfl (by simp [go_sem, encS]) ?_
    simp -implicitDefEqProofs (disch := omega) only [go_sem, hn]
    refine LoanK.con [9000] [] s2 rfl (by simp [go_sem, encS]) ?_
    simp -implicitDefEqProofs (disch := omega) only [go_sem, hn]
    refine CallK.con [] [] rfl (l3Var_x y2) (by simp [go_sem]) ?_
    simp -implicitDefEqProofs (disch := omega) only [go_sem, hn]
    exact ⟨[], by simp, rfl, trivial⟩
  ·obtain ⟨c1, b1, i1, s1⟩ := once_ex bs hb c hc 2 (by omega)
   rcases b1 with _ | _
   ·obtain ⟨c2, y2, i2, z2, s2⟩ := pick8_ex bs hb c1 i1 [⟨#[97]⟩, ⟨#[98]⟩] (by simp) (by decide) (by decide)
    refine ⟨c2, 2, 0, y2, [], i2, gT_mono (bT_ge _) (g_app y2 z2), .inr ?_⟩
    refine satX_of_codeV [(10, ([⟨2, 3, [47, 48], [7]⟩, ⟨3, 8, [7], [51, 53, 54]⟩], [2, 8]))] tbOk mixed Tryz.func153 rfl rfl rfl (by decide +kernel) (by decide +kernel) (Nat.le_of_ble_eq_true rfl) (by simp [go_sem]) (by simp [go_sem]) (by simp [go_sem]) (by simp [go_sem]) (by simp [go_sem]) rfl ?_
    simp -implicitDefEqProofs (disch := omega) only [go_sem, hn]
    refine LoanK.con [9000] [] s1 rfl (by simp [go_sem, encS]) ?_
    simp -implicitDefEqProofs (disch := omega) only [go_sem, hn]
    refine LoanK.con [9000] [] s2 rfl (by simp [go_sem, encS]) ?_
    simp -implicitDefEqProofs (disch := omega) only [go_sem, hn]
    refine CallK.con [32] [] rfl (l3App_x y2 []) (by simp [go_sem, rowsOf]) ?_
    simp -implicitDefEqProofs (disch := omega) only [go_sem, hn]
    exact ⟨[32], by simp, rfl, by simp [go_sem, rowsOf], by simp [go_sem]⟩
   ·obtain ⟨c2, x2, i2, x2a, x2b, s2⟩ := below_ex bs hb c1 i1 4 (by omega)
    refine ⟨c2, 3, x2, ⟨#[]⟩, [], i2, gT_mono (bT_ge _) (g_word x2 x2a x2b), .inl ⟨rfl, ?_⟩⟩
    refine satX_of_codeV [(10, ([⟨2, 3, [47, 48], [7]⟩, ⟨3, 8, [7], [51, 53, 54]⟩], [2, 8]))] tbOk mixed Tryz.func153 rfl rfl rfl (by decide +kernel) (by decide +kernel) (Nat.le_of_ble_eq_true rfl) (by simp [go_sem]) (by simp [go_sem]) (by simp [go_sem]) (by simp [go_sem]) (by simp [go_sem]) rfl ?_
    simp -implicitDefEqProofs (disch := omega) only [go_sem, hn]
    refine LoanK.con [9000] [] s1 rfl (by simp [go_sem, encS]) ?_
    simp -implicitDefEqProofs (disch := omega) only [go_sem, hn]
    refine LoanK.con [9000] [] s2 rfl (by simp [go_sem, encS]) ?_
    simp -implicitDefEqProofs (disch := omega) only [go_sem, hn]
    refine CallK.con [] [] rfl (l3Word_x x2) (by simp [go_sem]) ?_
    simp -implicitDefEqProofs (disch := omega) only [go_sem, hn]
    exact ⟨[], by simp, rfl, trivial⟩
 ·rcases g with _ | _
  ·obtain ⟨c1, b1, i1, s1⟩ := once_ex bs hb c hc 4 (by omega)
   rcases b1 with _ | _
   ·obtain ⟨c2, b2, i2, s2⟩ := once_ex bs hb c1 i1 3 (by omega)
    rcases b2 with _ | _
    ·obtain ⟨c3, a, i3, ga, s3⟩ := l3Draw_ex bs hb m (by omega) c2 i2 false
     obtain ⟨c4, y4, i4, z4, s4⟩ := pick8_ex bs hb c3 i3 [⟨#[102]⟩, ⟨#[102]⟩, ⟨#[104]⟩] (by simp) (by decide) (by decide)
     obtain ⟨c5, b, i5, gb, s5⟩ := l3Draw_ex bs hb m (by omega) c4 i4 false
     refine ⟨c5, 2, 0, y4, [a, b], i5, g_pair _ _ _ z4 ga gb, .inr ?_⟩
     refine satX_of_codeV [(10, ([⟨2, 3, [47, 48], [7]⟩, ⟨3, 8, [7], [51, 53, 54]⟩], [2, 8]))] tbOk mixed Tryz.func153 rfl rfl rfl (by decide +kernel) (by decide +kernel) (Nat.le_of_ble_eq_true rfl) (by simp [go_sem]) (by simp [go_sem]) (by simp [go_sem]) (by simp [go_sem]) (by simp [go_sem]) rfl ?_
     simp -implicitDefEqProofs (disch := omega) only [go_sem, hn, hm1]
     refine LoanK.con [9000] [] s1 rfl (by simp [go_sem, encS]) ?_
     simp -implicitDefEqProofs (disch := omega) only [go_sem, hn, hm1]
     refine LoanK.con [9000] [] s2 rfl (by simp [go_sem, encS]) ?_
     simp -implicitDefEqProofs (disch := omega) only [go_sem, hn, hm1]
     refine LoanK.con [9000] [] s3 rfl (by simp [go_sem, encS]) ?_
     simp -implicitDefEqProofs (disch := omega) only [go_sem, hn, hm1]
     refine UvC.mk [9000] s4 (by simp [go_sem, encS]) (by simp [go_sem]) ?_
     simp -implicitDefEqProofs (disch := omega) only [go_sem, hn, hm1]
     refine UvC.mk [9000] s5 (by simp [go_sem, encS]) (by simp [go_sem]) ?_
     simp -implicitDefEqProofs (disch := omega) only [go_sem, hn, hm1]
     refine CallK.con [] [9101] (by decide +kernel) (l3Pair_x y4 a b) (by simp [go_sem]) ?_
     simp -implicitDefEqProofs (disch := omega) only [go_sem, hn, hm1]
     exact ⟨[9101], by simp, rfl, by simp [go_sem, rowsOf], by simp [go_sem]⟩
    ·obtain ⟨c3, a, i3, ga, s3⟩ := l3Draw_ex bs hb m (by omega) c2 i2 false
     refine ⟨c3, 2, 0, ⟨#[103]⟩, [a], i3, gT_mono (by simp only [bT]; omega) (g_one _ _ (by decide) ga), .inr ?_⟩
     refine satX_of_codeV [(10, ([⟨2, 3, [47, 48], [7]⟩, ⟨3, 8, [7], [51, 53, 54]⟩], [2, 8]))] tbOk mixed Tryz.func153 rfl rfl rfl (by decide +kernel) (by decide +kernel) (Nat.le_of_ble_eq_true rfl) (by simp [go_sem]) (by simp [go_sem]) (by simp [go_sem]) (by simp [go_sem]) (by simp [go_sem]) rfl ?_
     simp -implicitDefEqProofs (disch := omega) only [go_sem, hn, hm1]
     refine LoanK.con [9000] [] s1 rfl (by simp [go_sem, encS]) ?_
     simp -implicitDefEqProofs (disch := omega) only [go_sem, hn, hm1]
     refine LoanK.con [9000] [] s2 rfl (by simp [go_sem, encS]) ?_
     simp -implicitDefEqProofs (disch := omega) only [go_sem, hn, hm1]
     refine LoanK.con [9000] [] s3 rfl (by simp [go_sem, encS]) ?_
     simp -implicitDefEqProofs (disch := omega) only [go_sem, hn, hm1]
     refine CallK.con [] [9101] rfl (l3One_x ⟨#[103]⟩ a) (by simp [go_sem]) ?_
     simp -implicitDefEqProofs (disch := omega) only [go_sem, hn, hm1]
     exact ⟨[9101], by simp, rfl, by simp [go_sem, rowsOf], by simp [go_sem]⟩
   ·obtain ⟨c2, b2, i2, s2⟩ := once_ex bs hb c1 i1 2 (by omega)
    rcases b2 with _ | _
    ·obtain ⟨c3, b3, i3, s3⟩ := once_ex bs hb c2 i2 2 (by omega)
     rcases b3 with _ | _
     ·obtain ⟨c4, y4, i4, z4, s4⟩ := pick8_ex bs hb c3 i3 [⟨#[97]⟩, ⟨#[98]⟩] (by simp) (by decide) (by decide)
      refine ⟨c4, 2, 0, y4, [], i4, gT_mono (bT_ge _) (g_app y4 z4), .inr ?_⟩
      refine satX_of_codeV [(10, ([⟨2, 3, [47, 48], [7]⟩, ⟨3, 8, [7], [51, 53, 54]⟩], [2, 8]))] tbOk mixed Tryz.func153 rfl rfl rfl (by decide +kernel) (by decide +kernel) (Nat.le_of_ble_eq_true rfl) (by simp [go_sem]) (by simp [go_sem]) (by simp [go_sem]) (by simp [go_sem]) (by simp [go_sem]) rfl ?_
      simp -implicitDefEqProofs (disch := omega) only [go_sem, hn, hm1]
      refine LoanK.con [9000] [] s1 rfl (by simp [go_sem, encS]) ?_
      simp -implicitDefEqProofs (disch := omega) only [go_sem, hn, hm1]
      refine LoanK.con [9000] [] s2 rfl (by simp [go_sem, encS]) ?_
      simp -implicitDefEqProofs (disch := omega) only [go_sem, hn, hm1]
      refine LoanK.con [9000] [] s3 rfl (by simp [go_sem, encS]) ?_
      simp -implicitDefEqProofs (disch := omega) only [go_sem, hn, hm1]
      refine LoanK.con [9000] [] s4 rfl (by simp [go_sem, encS]) ?_
      simp -implicitDefEqProofs (disch := omega) only [go_sem, hn, hm1]
      refine CallK.con [32] [] rfl (l3App_x y4 []) (by simp [go_sem, rowsOf]) ?_
      simp -implicitDefEqProofs (disch := omega) only [go_sem, hn, hm1]
      exact ⟨[32], by simp, rfl, by simp [go_sem, rowsOf], by simp [go_sem]⟩
     ·obtain ⟨c4, x4, i4, x4a, x4b, s4⟩ := below_ex bs hb c3 i3 4 (by omega)
      refine ⟨c4, 3, x4, ⟨#[]⟩, [], i4, gT_mono (bT_ge _) (g_word x4 x4a x4b), .inl ⟨rfl, ?_⟩⟩
      refine satX_of_codeV [(10, ([⟨2, 3, [47, 48], [7]⟩, ⟨3, 8, [7], [51, 53, 54]⟩], [2, 8]))] tbOk mixed Tryz.func153 rfl rfl rfl (by decide +kernel) (by decide +kernel) (Nat.le_of_ble_eq_true rfl) (by simp [go_sem]) (by simp [go_sem]) (by simp [go_sem]) (by simp [go_sem]) (by simp [go_sem]) rfl ?_
      simp -implicitDefEqProofs (disch := omega) only [go_sem, hn, hm1]
      refine LoanK.con [9000] [] s1 rfl (by simp [go_sem, encS]) ?_
      simp -implicitDefEqProofs (disch := omega) only [go_sem, hn, hm1]
      refine LoanK.con [9000] [] s2 rfl (by simp [go_sem, encS]) ?_
      simp -implicitDefEqProofs (disch := omega) only [go_sem, hn, hm1]
      refine LoanK.con [9000] [] s3 rfl (by simp [go_sem, encS]) ?_
      simp -implicitDefEqProofs (disch := omega) only [go_sem, hn, hm1]
      refine LoanK.con [9000] [] s4 rfl (by simp [go_sem, encS]) ?_
      simp -implicitDefEqProofs (disch := omega) only [go_sem, hn, hm1]
      refine CallK.con [] [] rfl (l3Word_x x4) (by simp [go_sem]) ?_
      simp -implicitDefEqProofs (disch := omega) only [go_sem, hn, hm1]
      exact ⟨[], by simp, rfl, trivial⟩
    ·obtain ⟨c3, y3, i3, z3, s3⟩ := pick8_ex bs hb c2 i2 [⟨#[88]⟩, ⟨#[89]⟩, ⟨#[90]⟩] (by simp) (by decide) (by decide)
     refine ⟨c3, 1, 0, y3, [], i3, gT_mono (bT_ge _) (g_leaf _ _ _ (by decide) (by decide) z3), .inl ⟨rfl, ?_⟩⟩
     refine satX_of_codeV [(10, ([⟨2, 3, [47, 48], [7]⟩, ⟨3, 8, [7], [51, 53, 54]⟩], [2, 8]))] tbOk mixed Tryz.func153 rfl rfl rfl (by decide +kernel) (by decide +kernel) (Nat.le_of_ble_eq_true rfl) (by simp [go_sem]) (by simp [go_sem]) (by simp [go_sem]) (by simp [go_sem]) (by simp [go_sem]) rfl ?_
     simp -implicitDefEqProofs (disch := omega) only [go_sem, hn, hm1]
     refine LoanK.con [9000] [] s1 rfl (by simp [go_sem, encS]) ?_
     simp -implicitDefEqProofs (disch := omega) only [go_sem, hn, hm1]
     refine LoanK.con [9000] [] s2 rfl (by simp [go_sem, encS]) ?_
     simp -implicitDefEqProofs (disch := omega) only [go_sem, hn, hm1]
     refine LoanK.con [9000] [] s3 rfl (by simp [go_sem, encS]) ?_
     simp -implicitDefEqProofs (disch := omega) only [go_sem, hn, hm1]
     refine CallK.con [] [] rfl (l3Var_x y3) (by simp [go_sem]) ?_
     simp -implicitDefEqProofs (disch := omega) only [go_sem, hn, hm1]
     exact ⟨[], by simp, rfl, trivial⟩
  ·obtain ⟨c1, b1, i1, s1⟩ := once_ex bs hb c hc 4 (by omega)
   rcases b1 with _ | _
   ·obtain ⟨c2, b2, i2, s2⟩ := once_ex bs hb c1 i1 3 (by omega)
    rcases b2 with _ | _
    ·obtain ⟨c3, a, i3, ga, s3⟩ := l3Draw_ex bs hb m (by omega) c2 i2 true
     obtain ⟨c4, y4, i4, z4, s4⟩ := pick8_ex bs hb c3 i3 [⟨#[102]⟩, ⟨#[102]⟩, ⟨#[104]⟩] (by simp) (by decide) (by decide)
     obtain ⟨c5, b, i5, gb, s5⟩ := l3Draw_ex bs hb m (by omega) c4 i4 true
     refine ⟨c5, 2, 0, y4, [a, b], i5, g_pair _ _ _ z4 ga gb, .inr ?_⟩
     refine satX_of_codeV [(10, ([⟨2, 3, [47, 48], [7]⟩, ⟨3, 8, [7], [51, 53, 54]⟩], [2, 8]))] tbOk mixed Tryz.func153 rfl rfl rfl (by decide +kernel) (by decide +kernel) (Nat.le_of_ble_eq_true rfl) (by simp [go_sem]) (by simp [go_sem]) (by simp [go_sem]) (by simp [go_sem]) (by simp [go_sem]) rfl ?_
     simp -implicitDefEqProofs (disch := omega) only [go_sem, hn, hm1]
     refine LoanK.con [9000] [] s1 rfl (by simp [go_sem, encS]) ?_
     simp -implicitDefEqProofs (disch := omega) only [go_sem, hn, hm1]
     refine LoanK.con [9000] [] s2 rfl (by simp [go_sem, encS]) ?_
     simp -implicitDefEqProofs (disch := omega) only [go_sem, hn, hm1]
     refine LoanK.con [9000] [] s3 rfl (by simp [go_sem, encS]) ?_
     simp -implicitDefEqProofs (disch := omega) only [go_sem, hn, hm1]
     refine UvC.mk [9000] s4 (by simp [go_sem, encS]) (by simp [go_sem]) ?_
     simp -implicitDefEqProofs (disch := omega) only [go_sem, hn, hm1]
     refine UvC.mk [9000] s5 (by simp [go_sem, encS]) (by simp [go_sem]) ?_
     simp -implicitDefEqProofs (disch := omega) only [go_sem, hn, hm1]
     refine CallK.con [] [9101] (by decide +kernel) (l3Pair_x y4 a b) (by simp [go_sem]) ?_
     simp -implicitDefEqProofs (disch := omega) only [go_sem, hn, hm1]
     exact ⟨[9101], by simp, rfl, by simp [go_sem, rowsOf], by simp [go_sem]⟩
    ·obtain ⟨c3, a, i3, ga, s3⟩ := l3Draw_ex bs hb m (by omega) c2 i2 true
     refine ⟨c3, 2, 0, ⟨#[103]⟩, [a], i3, gT_mono (by simp only [bT]; omega) (g_one _ _ (by decide) ga), .inr ?_⟩
     refine satX_of_codeV [(10, ([⟨2, 3, [47, 48], [7]⟩, ⟨3, 8, [7], [51, 53, 54]⟩], [2, 8]))] tbOk mixed Tryz.func153 rfl rfl rfl (by decide +kernel) (by decide +kernel) (Nat.le_of_ble_eq_true rfl) (by simp [go_sem]) (by simp [go_sem]) (by simp [go_sem]) (by simp [go_sem]) (by simp [go_sem]) rfl ?_
     simp -implicitDefEqProofs (disch := omega) only [go_sem, hn, hm1]
     refine LoanK.con [9000] [] s1 rfl (by simp [go_sem, encS]) ?_
     simp -implicitDefEqProofs (disch := omega) only [go_sem, hn, hm1]
     refine LoanK.con [9000] [] s2 rfl (by simp [go_sem, encS]) ?_
     simp -implicitDefEqProofs (disch := omega) only [go_sem, hn, hm1]
     refine LoanK.con [9000] [] s3 rfl (by simp [go_sem, encS]) ?_
     simp -implicitDefEqProofs (disch := omega) only [go_sem, hn, hm1]
     refine CallK.con [] [9101] rfl (l3One_x ⟨#[103]⟩ a) (by simp [go_sem]) ?_
     simp -implicitDefEqProofs (disch := omega) only [go_sem, hn, hm1]
     exact ⟨[9101], by simp, rfl, by simp [go_sem, rowsOf], by simp [go_sem]⟩
   ·obtain ⟨c2, b2, i2, s2⟩ := once_ex bs hb c1 i1 2 (by omega)
    rcases b2 with _ | _
    ·obtain ⟨c3, y3, i3, z3, s3⟩ := pick8_ex bs hb c2 i2 [⟨#[97]⟩, ⟨#[98]⟩] (by simp) (by decide) (by decide)
     refine ⟨c3, 2, 0, y3, [], i3, gT_mono (bT_ge _) (g_app y3 z3), .inr ?_⟩
     refine satX_of_codeV [(10, ([⟨2, 3, [47, 48], [7]⟩, ⟨3, 8, [7], [51, 53, 54]⟩], [2, 8]))] tbOk mixed Tryz.func153 rfl rfl rfl (by decide +kernel) (by decide +kernel) (Nat.le_of_ble_eq_true rfl) (by simp [go_sem]) (by simp [go_sem]) (by simp [go_sem]) (by simp [go_sem]) (by simp [go_sem]) rfl ?_
     simp -implicitDefEqProofs (disch := omega) only [go_sem, hn, hm1]
     refine LoanK.con [9000] [] s1 rfl (by simp [go_sem, encS]) ?_
     simp -implicitDefEqProofs (disch := omega) only [go_sem, hn, hm1]
     refine LoanK.con [9000] [] s2 rfl (by simp [go_sem, encS]) ?_
     simp -implicitDefEqProofs (disch := omega) only [go_sem, hn, hm1]
     refine LoanK.con [9000] [] s3 rfl (by simp [go_sem, encS]) ?_
     simp -implicitDefEqProofs (disch := omega) only [go_sem, hn, hm1]
     refine CallK.con [32] [] rfl (l3App_x y3 []) (by simp [go_sem, rowsOf]) ?_
     simp -implicitDefEqProofs (disch := omega) only [go_sem, hn, hm1]
     exact ⟨[32], by simp, rfl, by simp [go_sem, rowsOf], by simp [go_sem]⟩
    ·obtain ⟨c3, x3, i3, x3a, x3b, s3⟩ := below_ex bs hb c2 i2 4 (by omega)
     refine ⟨c3, 3, x3, ⟨#[]⟩, [], i3, gT_mono (bT_ge _) (g_word x3 x3a x3b), .inl ⟨rfl, ?_⟩⟩
     refine satX_of_codeV [(10, ([⟨2, 3, [47, 48], [7]⟩, ⟨3, 8, [7], [51, 53, 54]⟩], [2, 8]))] tbOk mixed Tryz.func153 rfl rfl rfl (by decide +kernel) (by decide +kernel) (Nat.le_of_ble_eq_true rfl) (by simp [go_sem]) (by simp [go_sem]) (by simp [go_sem]) (by simp [go_sem]) (by simp [go_sem]) rfl ?_
     simp -implicitDefEqProofs (disch := omega) only [go_sem, hn, hm1]
     refine LoanK.con [9000] [] s1 rfl (by simp [go_sem, encS]) ?_
     simp -implicitDefEqProofs (disch := omega) only [go_sem, hn, hm1]
     refine LoanK.con [9000] [] s2 rfl (by simp [go_sem, encS]) ?_
     simp -implicitDefEqProofs (disch := omega) only [go_sem, hn, hm1]
     refine LoanK.con [9000] [] s3 rfl (by simp [go_sem, encS]) ?_
     simp -implicitDefEqProofs (disch := omega) only [go_sem, hn, hm1]
     refine CallK.con [] [] rfl (l3Word_x x3) (by simp [go_sem]) ?_
     simp -implicitDefEqProofs (disch := omega) only [go_sem, hn, hm1]
     exact ⟨[], by simp, rfl, trivial⟩
end Go.Ai
