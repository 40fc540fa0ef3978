/- Contracts of the functions on terms: size, conversion, equality. -/
import Derived.Test.YtgdmjekkdcjipaaGreatAiRows
import Derived.Test.YtgdmjekkdcjipaaGreatAiSeat
import Derived.Test.YtgdmjekkdcjipaaGreatAiMarks
set_option linter.unusedVariables false
set_option linter.unusedSimpArgs false
namespace Go.Ai
open Go.Proofs
set_option maxRecDepth 100000
theorem yo1 (k n : Int) (s : ByteArray) (ts : List Tm) (b : Int) (h0 : 0 ≤ b) (h1 : b < 1048577) (hw : (Tm.mk k n s ts).wf)
  (ih : ∀ b : Int, 0 ≤ b → b < 1048577 → Sat Tryz.prog 212 [yM0 ts, zD0 b] (zD0 (szR (Tm.sizes ts) b))) :
  Sat Tryz.prog 182 [tmV (.mk k n s ts), zD0 b] (zD0 (szR (Tm.size (.mk k n s ts)) b)) := by
 have hw1 := hw.2.2.1
 simp only [maxLen] at hw1
 have e : Tm.size (.mk k n s ts) = s.size + Tm.sizes ts := by simp only [Tm.size]
 rw [e]
 refine soc zE0 zB0 Tryz.func182 ?_
 simp -implicitDefEqProofs (disch := omega) only [go_sem, Tm.enc]
 refine ⟨fun h => ?_, fun h => ?_⟩
 ·unfold szR; split <;> omega
 ·refine CallK.mk (ih _ (by omega) (by omega)) ?_
  simp -implicitDefEqProofs (disch := omega) only [go_sem]
  unfold szR
  refine ⟨fun h => ?_, fun h => ?_⟩ <;> (split at h <;> split <;> first | omega | (split <;> omega))
theorem wH1 (ts : List Tm) (b : Int) (h0 : 0 ≤ b) (h1 : b < 1048577) (hw : Tm.wfs ts) (hl : ts.length ≤ maxLen)
  (ih : ∀ t, t ∈ ts → ∀ b : Int, 0 ≤ b → b < 1048577 → Sat Tryz.prog 182 [tmV t, zD0 b] (zD0 (szR (Tm.size t) b))) :
  Sat Tryz.prog 212 [yM0 ts, zD0 b] (zD0 (szR (Tm.sizes ts) b)) := by
 simp only [maxLen] at hl
 refine soc zE0 zB0 Tryz.func212 ?_
 simp -implicitDefEqProofs (disch := omega) only [go_sem]
 refine ⟨fun h => ?_, fun h => ?_⟩
 ·have := zH0 ts
  unfold szR; split <;> omega
 ·refine zA0 (ι := Nat × Int) (fun i => mk 27 [(0, yM0 ts), (5, zD0 i.1), (1, zD0 i.2)] []) (fun i => i.1 ≤ ts.length ∧ i.2 - ((Tm.sizes (ts.drop i.1) : Int) - (ts.length - i.1)) = b - Tm.sizes ts ∧ 0 ≤ i.2 ∧ i.2 < 1048577) (fun i => ts.length - i.1) (0, b - ts.length) ?_ ?_ zE0 zB0 (by decide +kernel) ?_
  ·simp; omega
  ·exact lek
  ·rintro ⟨i, c⟩ ⟨hi, hc, hc0, hc1⟩
   simp only at hi hc hc0 hc1
   rcases Nat.lt_or_ge i ts.length with hlt | hge
   ·have hg := zF0 ts i hlt
    have hz := bJ0 ts i hlt
    have hz2 := zH0 (ts.drop (i + 1))
    simp only [List.length_drop] at hz2
    simp -implicitDefEqProofs (disch := omega) only [go_sem, hg, hlt]
    refine CallK.mk (ih _ (List.getElem_mem hlt) c hc0 (by omega)) ?_
    simp -implicitDefEqProofs (disch := omega) only [go_sem]
    refine ⟨fun h => ?_, fun h => ⟨(i + 1, szR ts[i].size c), ?_, ?_, lek⟩⟩
    ·unfold szR at h ⊢; split at h <;> split <;> omega
    ·unfold szR at h ⊢
     simp only
     split at h <;> first | omega | (split <;> omega)
    ·simp only; omega
   ·simp -implicitDefEqProofs (disch := omega) only [go_sem, Nat.not_lt.2 hge]
    rw [List.drop_of_length_le hge] at hc
    simp only [Tm.sizes] at hc
    unfold szR; split <;> omega
theorem jh0 : ∀ (t : Tm), t.wf → ∀ b : Int, 0 ≤ b → b < 1048577 → Sat Tryz.prog 182 [tmV t, zD0 b] (zD0 (szR t.size b)) := by
 refine Tm.ind (fun k n s ts ih hw b h0 h1 => ?_)
 have hws := (kM0 ts).1 hw.2.2.2.2
 exact yo1 k n s ts b h0 h1 hw (fun b h0 h1 => wH1 ts b h0 h1 hw.2.2.2.2 hw.2.2.2.1 (fun t ht b h0 h1 => ih t ht (hws t ht) b h0 h1))
theorem yr1 (k n : Int) (s : ByteArray) (ts : List Tm) (ih : Sat Tryz.prog 214 [yM0 ts] (yM0 ts)) :
  Sat Tryz.prog 185 [tmV (.mk k n s ts)] (tmV (.mk k n s ts)) := by
 refine soc zE0 zB0 Tryz.func185 ?_
 simp -implicitDefEqProofs only [go_sem, Tm.enc]
 refine CallK.mk ih ?_
 simp -implicitDefEqProofs only [go_sem]
 rfl
abbrev zT : List AC := [iC 0, iC 0, sC ⟨⟨[]⟩⟩, .nil]
theorem wN1 (ts : List Tm) (hl : ts.length < 1048577) (ih : ∀ t, t ∈ ts → Sat Tryz.prog 185 [tmV t] (tmV t)) : Sat Tryz.prog 214 [yM0 ts] (yM0 ts) := by
 refine soc zE0 zB0 Tryz.func214 ?_
 simp -implicitDefEqProofs (disch := omega) only [go_sem]
 refine ⟨⟨by omega, by omega⟩, fun _ => ?_⟩
 refine zA0 (ι := Nat) (fun i => mk 23 [(0, yM0 ts), (3, .one (.own 7 ts.length)), (4, zD0 i)] [(7, .arr 39 4 (qY0 Tm.enc zT ts i) false)]) (fun i => i ≤ ts.length) (fun i => ts.length - i) 0 (Nat.zero_le _) ?_ zE0 zB0 (by decide +kernel) ?_
 ·exact zG0 (by simp [go_sem]) (by simp [go_sem, qx0, List.mem_replicate])
 ·intro i hi
  have hlen := wg0 (ec := Tm.enc) (z := zT) hi
  rcases Nat.lt_or_ge i ts.length with hlt | hge
  ·have hg := zF0 ts i hlt
   have hr := wf0 (ec := Tm.enc) (z := zT) hlt
   have hset := wh0 (ec := Tm.enc) (z := zT) hlt
   simp -implicitDefEqProofs (disch := omega) only [go_sem, hg, hlt, hlen]
   refine CallK.mk (ih _ (List.getElem_mem hlt)) ?_
   simp -implicitDefEqProofs (disch := omega) only [go_sem, hlen, hlt, List.length_map, hr, hset]
   refine ⟨by simp [zT, unD], fun _ => ⟨i + 1, hlt, by omega, zG0 (by simp [go_sem]) ?_⟩⟩
   simp only [leB, qr0, if_true, inB, true_and, and_true]
   exact qv0 (by simp [zT, inC])
  ·have : i = ts.length := by omega
   subst this
   have hv := qS0 (ec := Tm.enc) (z := zT) (Nat.le_refl ts.length)
   simp -implicitDefEqProofs (disch := omega) only [go_sem, hlen, hv, Nat.lt_irrefl, (zc0 ts).symm]
   exact qw0 (Nat.le_refl _)
theorem ji0 : ∀ (t : Tm), t.size < 1048577 → Sat Tryz.prog 185 [tmV t] (tmV t) := by
 refine Tm.ind (fun k n s ts ih h => yr1 k n s ts (wN1 ts ?_ (fun t ht => ih t ht ?_)))
 ·have := zH0 ts; simp only [Tm.size] at h; omega
 ·have := zT0 ts t ht; simp only [Tm.size] at h; omega
theorem pw0 (k n : Int) (s : ByteArray) (ts : List Tm) (k' n' : Int) (s' : ByteArray) (ts' : List Tm) (hl : ts.length ≤ maxLen)
  (ih : ∀ t, t ∈ ts → ∀ u, Sat Tryz.prog 14 [tmV t, tmV u] (boolV (t.eqb u))) :
  Sat Tryz.prog 14 [tmV (.mk k n s ts), tmV (.mk k' n' s' ts')] (boolV (Tm.eqb (.mk k n s ts) (.mk k' n' s' ts'))) := by
 simp only [maxLen] at hl
 obtain ⟨r, hr⟩ : ∃ r, r = Tm.eqb (.mk k n s ts) (.mk k' n' s' ts') := ⟨_, rfl⟩
 rw [← hr]
 simp only [Tm.eqb] at hr
 refine soc zE0 zB0 Tryz.func14 ?_
 simp -implicitDefEqProofs (disch := omega) only [go_sem, Tm.enc]
 refine ⟨fun h1 => ⟨fun h2 => ⟨fun h3 => ⟨fun h4 => ?_, fun h4 => ?_⟩, fun h3 => ?_⟩, fun h2 => ?_⟩, fun h1 => ?_⟩
 ·simp [hr, xo0 ts ts' (by omega)]
 ·have hll : ts.length = ts'.length := by simp at h4; omega
  have hr : r = Tm.eqbs ts ts' := by simp_all
  refine zA0 (ι := Nat) (fun i => mk 53 [(2, .one (.ptr 2 0)), (3, .one (.ptr 3 0)), (5, zD0 i)] [(2, .var [iC k, iC n, sC s, tC ts]), (3, .var [iC k', iC n', sC s', tC ts'])])
   (fun i => i ≤ ts.length ∧ Tm.eqbs (ts.drop i) (ts'.drop i) = Tm.eqbs ts ts') (fun i => ts.length - i) 0 ⟨Nat.zero_le _, by simp⟩ ?_ zE0 zB0 (by decide +kernel) ?_
  ·exact lek
  ·rintro i ⟨hi, he⟩
   rcases Nat.lt_or_ge i ts.length with hlt | hge
   ·have hlt' : i < ts'.length := by omega
    have hg := zF0 ts i hlt
    have hg' := zF0 ts' i hlt'
    rw [pI0 ts ts' i hlt hlt'] at he
    simp -implicitDefEqProofs (disch := omega) only [go_sem, hg, hg', hlt, hlt']
    refine CallK.mk (ih _ (List.getElem_mem hlt) _) ?_
    simp -implicitDefEqProofs (disch := omega) only [go_sem]
    refine ⟨fun h => ?_, fun h => ⟨i + 1, ⟨hlt, ?_⟩, by omega, lek⟩⟩
    ·rw [h] at he; rw [hr]; simpa using he
    ·rw [h] at he; simpa using he
   ·have e1 : ts.drop i = [] := List.drop_of_length_le hge
    have e2 : ts'.drop i = [] := List.drop_of_length_le (by omega)
    rw [e1, e2] at he
    simp -implicitDefEqProofs (disch := omega) only [go_sem, Nat.not_lt.2 hge]
    rw [hr, ← he]; rfl
 ·simp [hr, h3]
 ·simp [hr, h2]
 ·simp [hr, h1]
theorem vd0 : ∀ (t : Tm), t.wf → ∀ u, Sat Tryz.prog 14 [tmV t, tmV u] (boolV (t.eqb u)) := by
 refine Tm.ind (fun k n s ts ih hw u => ?_)
 obtain ⟨k', n', s', ts'⟩ := u
 exact pw0 k n s ts k' n' s' ts' hw.2.2.2.1 (fun t ht u => ih t ht ((kM0 ts).1 hw.2.2.2.2 t ht) u)
theorem yF1 (k n : Int) (s : ByteArray) (ts : List Tm) (k' n' : Int) (s' : ByteArray) (ts' : List Tm) (ih : Sat Tryz.prog 189 [yM0 ts, yM0 ts'] (boolV (Tm.eqbs ts ts'))) :
  Sat Tryz.prog 137 [tmV (.mk k n s ts), tmV (.mk k' n' s' ts')] (boolV (Tm.eqb (.mk k n s ts) (.mk k' n' s' ts'))) := by
 obtain ⟨r, hr⟩ : ∃ r, r = Tm.eqb (.mk k n s ts) (.mk k' n' s' ts') := ⟨_, rfl⟩
 rw [← hr]
 simp only [Tm.eqb] at hr
 refine soc zE0 zB0 Tryz.func137 ?_
 simp -implicitDefEqProofs only [go_sem, Tm.enc]
 refine ⟨fun h1 => ?_, fun h1 => ⟨fun h2 => ?_, fun h2 => ⟨fun h3 => ?_, fun h3 => ?_⟩⟩⟩
 ·simp_all
 ·simp_all
 ·simp_all
 ·refine CallK.mk ih ?_
  simp -implicitDefEqProofs only [go_sem]
  have hr : r = Tm.eqbs ts ts' := by simp_all
  rw [hr]
  exact ⟨fun h => h.symm, fun h => h.symm⟩
theorem zX1 (ts ts' : List Tm) (hl : ts.length ≤ maxLen) (ih : ∀ t, t ∈ ts → ∀ u, Sat Tryz.prog 137 [tmV t, tmV u] (boolV (t.eqb u))) :
  Sat Tryz.prog 189 [yM0 ts, yM0 ts'] (boolV (Tm.eqbs ts ts')) := by
 simp only [maxLen] at hl
 refine soc zE0 zB0 Tryz.func189 ?_
 simp -implicitDefEqProofs (disch := omega) only [go_sem]
 refine ⟨fun h4 => ?_, fun h4 => ?_⟩
 ·rw [xo0 ts ts' (by omega)]
 ·have hll : ts.length = ts'.length := by simp at h4; omega
  refine zA0 (ι := Nat) (fun i => mk 27 [(0, yM0 ts), (1, yM0 ts'), (5, zD0 i)] [])
   (fun i => i ≤ ts.length ∧ Tm.eqbs (ts.drop i) (ts'.drop i) = Tm.eqbs ts ts') (fun i => ts.length - i) 0 ⟨Nat.zero_le _, by simp⟩ ?_ zE0 zB0 (by decide +kernel) ?_
  ·exact lek
  ·rintro i ⟨hi, he⟩
   rcases Nat.lt_or_ge i ts.length with hlt | hge
   ·have hlt' : i < ts'.length := by omega
    have hg := zF0 ts i hlt
    have hg' := zF0 ts' i hlt'
    rw [pI0 ts ts' i hlt hlt'] at he
    simp -implicitDefEqProofs (disch := omega) only [go_sem, hg, hg', hlt, hlt']
    refine CallK.mk (ih _ (List.getElem_mem hlt) _) ?_
    simp -implicitDefEqProofs (disch := omega) only [go_sem]
    refine ⟨fun h => ?_, fun h => ⟨i + 1, ⟨hlt, ?_⟩, by omega, lek⟩⟩
    ·rw [h] at he; simpa using he
    ·rw [h] at he; simpa using he
   ·have e1 : ts.drop i = [] := List.drop_of_length_le hge
    have e2 : ts'.drop i = [] := List.drop_of_length_le (by omega)
    rw [e1, e2] at he
    simp -implicitDefEqProofs (disch := omega) only [go_sem, Nat.not_lt.2 hge]
    rw [← he]; rfl
theorem ja0 : ∀ (t : Tm), t.wf → ∀ u, Sat Tryz.prog 137 [tmV t, tmV u] (boolV (t.eqb u)) := by
 refine Tm.ind (fun k n s ts ih hw u => ?_)
 obtain ⟨k', n', s', ts'⟩ := u
 exact yF1 k n s ts k' n' s' ts' (zX1 ts ts' hw.2.2.2.1 (fun t ht u => ih t ht ((kM0 ts).1 hw.2.2.2.2 t ht) u))
theorem mA0 (ts ts' : List Tm) (hl : ts.length ≤ maxLen) (ih : ∀ t, t ∈ ts → ∀ u, Sat Tryz.prog 156 [tmV t, tmV u] (boolV (t.eqb u))) :
  Sat Tryz.prog 199 [yM0 ts, yM0 ts', .one (.c (.v (.func (.func 156) #[] #[])))] (boolV (Tm.eqbs ts ts')) := by
 simp only [maxLen] at hl
 refine soc zE0 zB0 Tryz.func199 ?_
 simp -implicitDefEqProofs (disch := omega) only [go_sem]
 refine ⟨fun h4 => ?_, fun h4 => ?_⟩
 ·rw [xo0 ts ts' (by omega)]
 ·have hll : ts.length = ts'.length := by simp at h4; omega
  refine zA0 (ι := Nat) (fun i => mk 32 [(0, yM0 ts), (1, yM0 ts'), (2, .one (.c (.v (.func (.func 156) #[] #[])))), (15, yM0 ts), (16, zD0 ts.length), (17, zD0 i)] [])
   (fun i => i ≤ ts.length ∧ Tm.eqbs (ts.drop i) (ts'.drop i) = Tm.eqbs ts ts') (fun i => ts.length - i) 0 ⟨Nat.zero_le _, by simp⟩ ?_ zE0 zB0 (by decide +kernel) ?_
  ·exact lek
  ·rintro i ⟨hi, he⟩
   rcases Nat.lt_or_ge i ts.length with hlt | hge
   ·have hlt' : i < ts'.length := by omega
    have hg := zF0 ts i hlt
    have hg' := zF0 ts' i hlt'
    rw [pI0 ts ts' i hlt hlt'] at he
    simp -implicitDefEqProofs (disch := omega) only [go_sem, hg, hg', hlt, hlt']
    refine CallK.mk (ih _ (List.getElem_mem hlt) _) ?_
    simp -implicitDefEqProofs (disch := omega) only [go_sem]
    refine ⟨fun h => ?_, fun h => ⟨i + 1, ⟨hlt, ?_⟩, by omega, lek⟩⟩
    ·rw [h] at he; simpa using he
    ·rw [h] at he; simpa using he
   ·have e1 : ts.drop i = [] := List.drop_of_length_le hge
    have e2 : ts'.drop i = [] := List.drop_of_length_le (by omega)
    rw [e1, e2] at he
    simp -implicitDefEqProofs (disch := omega) only [go_sem, Nat.not_lt.2 hge]
    rw [← he]; rfl
theorem pN0 (k n : Int) (s : ByteArray) (ts : List Tm) (k' n' : Int) (s' : ByteArray) (ts' : List Tm)
  (ih : Sat Tryz.prog 199 [yM0 ts, yM0 ts', .one (.c (.v (.func (.func 156) #[] #[])))] (boolV (Tm.eqbs ts ts'))) :
  Sat Tryz.prog 156 [tmV (.mk k n s ts), tmV (.mk k' n' s' ts')] (boolV (Tm.eqb (.mk k n s ts) (.mk k' n' s' ts'))) := by
 obtain ⟨r, hr⟩ : ∃ r, r = Tm.eqb (.mk k n s ts) (.mk k' n' s' ts') := ⟨_, rfl⟩
 rw [← hr]
 simp only [Tm.eqb] at hr
 refine soc zE0 zB0 Tryz.func156 ?_
 simp -implicitDefEqProofs only [go_sem, Tm.enc]
 refine ⟨fun h1 => ⟨fun h2 => ⟨fun h3 => ?_, fun h3 => ?_⟩, fun h2 => ?_⟩, fun h1 => ?_⟩
 ·refine CallK.mk ih ?_
  simp -implicitDefEqProofs only [go_sem]
  simp_all
 ·simp_all
 ·simp_all
 ·simp_all
theorem vO0 : ∀ (t : Tm), t.wf → ∀ u, Sat Tryz.prog 156 [tmV t, tmV u] (boolV (t.eqb u)) := by
 refine Tm.ind (fun k n s ts ih hw u => ?_)
 obtain ⟨k', n', s', ts'⟩ := u
 exact pN0 k n s ts k' n' s' ts' (mA0 ts ts' hw.2.2.2.1 (fun t ht u => ih t ht ((kM0 ts).1 hw.2.2.2.2 t ht) u))
open Go.Proofs Go.RowKit Go.ChangeShapes
structure GGuard where
 kd : Int
 le : Tm
 ri : Tm
def GGuard.enc (x : GGuard) : List C := zO0 x.kd ++ (Tm.enc x.le ++ (Tm.enc x.ri))
def GGuard.size (x : GGuard) : Nat := szI x.kd + Tm.size x.le + Tm.size x.ri
def GGuard.wf (x : GGuard) : Prop := wfI x.kd ∧ Tm.wf x.le ∧ Tm.wf x.ri
def GGuard.eqb (x y : GGuard) : Bool := eqI x.kd y.kd && (Tm.eqb x.le y.le && (Tm.eqb x.ri y.ri))
theorem GGuard.enc_len (x : GGuard) : x.enc.length = 9 := by simp [GGuard.enc, zO0, encS, qe0, zj0, Go.Ai.enc_len]
theorem GGuard.enc_take (x : GGuard) : x.enc.take 9 = x.enc := List.take_of_length_le (by rw [GGuard.enc_len]; exact Nat.le_refl _)
theorem GGuard.encm_take (x : GGuard) : (x.enc.map AC.c).take 9 = x.enc.map AC.c := List.take_of_length_le (by rw [List.length_map, GGuard.enc_len]; exact Nat.le_refl _)
attribute [go_sem] GGuard.enc_len GGuard.enc_take GGuard.encm_take
theorem GGuard.eqb_refl (x : GGuard) : x.eqb x = true := by simp only [GGuard.eqb, nZ0 x.kd, Tm.eqb_refl x.le, Tm.eqb_refl x.ri, Bool.and_self]
structure GRule where
 na : ByteArray
 le : Tm
 ri : Tm
 gu : List GGuard
def GRule.enc (x : GRule) : List C := encS x.na ++ (Tm.enc x.le ++ (Tm.enc x.ri ++ (zj0 GGuard.enc x.gu)))
def GRule.size (x : GRule) : Nat := szS x.na + Tm.size x.le + Tm.size x.ri + (szL GGuard.size) x.gu
def GRule.wf (x : GRule) : Prop := wfS x.na ∧ Tm.wf x.le ∧ Tm.wf x.ri ∧ (wfL GGuard.wf) x.gu
def GRule.eqb (x y : GRule) : Bool := eqS x.na y.na && (Tm.eqb x.le y.le && (Tm.eqb x.ri y.ri && ((eqL GGuard.eqb) x.gu y.gu)))
theorem GRule.enc_len (x : GRule) : x.enc.length = 10 := by simp [GRule.enc, zO0, encS, qe0, zj0, Go.Ai.enc_len]
theorem GRule.enc_take (x : GRule) : x.enc.take 10 = x.enc := List.take_of_length_le (by rw [GRule.enc_len]; exact Nat.le_refl _)
theorem GRule.encm_take (x : GRule) : (x.enc.map AC.c).take 10 = x.enc.map AC.c := List.take_of_length_le (by rw [List.length_map, GRule.enc_len]; exact Nat.le_refl _)
attribute [go_sem] GRule.enc_len GRule.enc_take GRule.encm_take
theorem GRule.eqb_refl (x : GRule) : x.eqb x = true := by simp only [GRule.eqb, qf0 x.na, Tm.eqb_refl x.le, Tm.eqb_refl x.ri, (jZ0 GGuard.eqb_refl) x.gu, Bool.and_self]
structure GOp where
 na : ByteArray
 ar : List ByteArray
 re : ByteArray
def GOp.enc (x : GOp) : List C := encS x.na ++ (zj0 encS x.ar ++ (encS x.re))
def GOp.size (x : GOp) : Nat := szS x.na + (szL szS) x.ar + szS x.re
def GOp.wf (x : GOp) : Prop := wfS x.na ∧ (wfL wfS) x.ar ∧ wfS x.re
def GOp.eqb (x y : GOp) : Bool := eqS x.na y.na && ((eqL eqS) x.ar y.ar && (eqS x.re y.re))
theorem GOp.enc_len (x : GOp) : x.enc.length = 3 := by simp [GOp.enc, zO0, encS, qe0, zj0, Go.Ai.enc_len]
theorem GOp.enc_take (x : GOp) : x.enc.take 3 = x.enc := List.take_of_length_le (by rw [GOp.enc_len]; exact Nat.le_refl _)
theorem GOp.encm_take (x : GOp) : (x.enc.map AC.c).take 3 = x.enc.map AC.c := List.take_of_length_le (by rw [List.length_map, GOp.enc_len]; exact Nat.le_refl _)
attribute [go_sem] GOp.enc_len GOp.enc_take GOp.encm_take
theorem GOp.eqb_refl (x : GOp) : x.eqb x = true := by simp only [GOp.eqb, qf0 x.na, (jZ0 qf0) x.ar, qf0 x.re, Bool.and_self]
structure GSignature where
 so : List ByteArray
 op : List GOp
def GSignature.enc (x : GSignature) : List C := zj0 encS x.so ++ (zj0 GOp.enc x.op)
def GSignature.size (x : GSignature) : Nat := (szL szS) x.so + (szL GOp.size) x.op
def GSignature.wf (x : GSignature) : Prop := (wfL wfS) x.so ∧ (wfL GOp.wf) x.op
def GSignature.eqb (x y : GSignature) : Bool := (eqL eqS) x.so y.so && ((eqL GOp.eqb) x.op y.op)
theorem GSignature.enc_len (x : GSignature) : x.enc.length = 2 := by simp [GSignature.enc, zO0, encS, qe0, zj0, Go.Ai.enc_len]
theorem GSignature.enc_take (x : GSignature) : x.enc.take 2 = x.enc := List.take_of_length_le (by rw [GSignature.enc_len]; exact Nat.le_refl _)
theorem GSignature.encm_take (x : GSignature) : (x.enc.map AC.c).take 2 = x.enc.map AC.c := List.take_of_length_le (by rw [List.length_map, GSignature.enc_len]; exact Nat.le_refl _)
attribute [go_sem] GSignature.enc_len GSignature.enc_take GSignature.encm_take
theorem GSignature.eqb_refl (x : GSignature) : x.eqb x = true := by simp only [GSignature.eqb, (jZ0 qf0) x.so, (jZ0 GOp.eqb_refl) x.op, Bool.and_self]
structure GStrict where
 op : ByteArray
 ar : Int
def GStrict.enc (x : GStrict) : List C := encS x.op ++ (zO0 x.ar)
def GStrict.size (x : GStrict) : Nat := szS x.op + szI x.ar
def GStrict.wf (x : GStrict) : Prop := wfS x.op ∧ wfI x.ar
def GStrict.eqb (x y : GStrict) : Bool := eqS x.op y.op && (eqI x.ar y.ar)
theorem GStrict.enc_len (x : GStrict) : x.enc.length = 2 := by simp [GStrict.enc, zO0, encS, qe0, zj0, Go.Ai.enc_len]
theorem GStrict.enc_take (x : GStrict) : x.enc.take 2 = x.enc := List.take_of_length_le (by rw [GStrict.enc_len]; exact Nat.le_refl _)
theorem GStrict.encm_take (x : GStrict) : (x.enc.map AC.c).take 2 = x.enc.map AC.c := List.take_of_length_le (by rw [List.length_map, GStrict.enc_len]; exact Nat.le_refl _)
attribute [go_sem] GStrict.enc_len GStrict.enc_take GStrict.encm_take
theorem GStrict.eqb_refl (x : GStrict) : x.eqb x = true := by simp only [GStrict.eqb, qf0 x.op, nZ0 x.ar, Bool.and_self]
structure GDefinition where
 si : GSignature
 ru : List GRule
 st : List GStrict
def GDefinition.enc (x : GDefinition) : List C := GSignature.enc x.si ++ (zj0 GRule.enc x.ru ++ (zj0 GStrict.enc x.st))
def GDefinition.size (x : GDefinition) : Nat := GSignature.size x.si + (szL GRule.size) x.ru + (szL GStrict.size) x.st
def GDefinition.wf (x : GDefinition) : Prop := GSignature.wf x.si ∧ (wfL GRule.wf) x.ru ∧ (wfL GStrict.wf) x.st
def GDefinition.eqb (x y : GDefinition) : Bool := GSignature.eqb x.si y.si && ((eqL GRule.eqb) x.ru y.ru && ((eqL GStrict.eqb) x.st y.st))
theorem GDefinition.enc_len (x : GDefinition) : x.enc.length = 4 := by simp [GDefinition.enc, zO0, encS, qe0, zj0, Go.Ai.enc_len, GSignature.enc_len]
theorem GDefinition.enc_take (x : GDefinition) : x.enc.take 4 = x.enc := List.take_of_length_le (by rw [GDefinition.enc_len]; exact Nat.le_refl _)
theorem GDefinition.encm_take (x : GDefinition) : (x.enc.map AC.c).take 4 = x.enc.map AC.c := List.take_of_length_le (by rw [List.length_map, GDefinition.enc_len]; exact Nat.le_refl _)
attribute [go_sem] GDefinition.enc_len GDefinition.enc_take GDefinition.encm_take
theorem GDefinition.eqb_refl (x : GDefinition) : x.eqb x = true := by simp only [GDefinition.eqb, GSignature.eqb_refl x.si, (jZ0 GRule.eqb_refl) x.ru, (jZ0 GStrict.eqb_refl) x.st, Bool.and_self]
abbrev mq1 : List AC := [iC 0]
theorem ky0 (xs : List ByteArray) (hw : wfL wfS xs) (b : Int) (h0 : 0 ≤ b) (h1 : b < 1048577) : Sat Tryz.prog 124 [slV (xs.map encS), zD0 b] (zD0 (szR (szL szS xs) b)) := by
 have hl := hw.1
 simp only [maxLen] at hl
 refine soc zE0 zB0 Tryz.func124 ?_
 simp -implicitDefEqProofs (disch := omega) only [go_sem]
 refine ⟨fun h => ?_, fun h => ?_⟩
 ·have := zQ0 szS xs
  grind [szR]
 ·refine zA0 (ι := Nat × Int) (fun i => mk 28 [(0, slV (xs.map encS)), (5, zD0 i.1), (1, zD0 i.2)] []) (fun i => i.1 ≤ xs.length ∧ i.2 - ((szL szS (xs.drop i.1) : Int) - (xs.length - i.1)) = b - szL szS xs ∧ 0 ≤ i.2 ∧ i.2 < 1048577) (fun i => xs.length - i.1) (0, b - xs.length) ?_ ?_ zE0 zB0 (by decide +kernel) ?_
  ·simp; omega
  ·exact lek
  ·rintro ⟨i, c⟩ ⟨hi, hc, hc0, hc1⟩
   simp only at hi hc hc0 hc1
   rcases Nat.lt_or_ge i xs.length with hlt | hge
   ·have hg := zC0 (ec := encS) hlt
    have hz := kx0 szS xs i hlt
    have hz2 := zQ0 szS (xs.drop (i + 1))
    simp only [List.length_drop] at hz2
    have hx := hw.2 _ (List.getElem_mem hlt)
    generalize xs[i] = x at hg hz hx
    simp only [wfS, maxLen] at hx
    simp only [szS] at hz
    simp only [encS] at hg
    simp -implicitDefEqProofs (disch := omega) only [go_sem, hg, hlt]
    refine ⟨fun h => ?_, fun h => ⟨(i + 1, c - x.size), ⟨hlt, ?_⟩, ?_, lek⟩⟩
    ·grind [szR]
    ·simp only; omega
    ·simp only; omega
   ·simp -implicitDefEqProofs (disch := omega) only [go_sem, Nat.not_lt.2 hge]
    rw [List.drop_of_length_le hge] at hc
    simp only [szL] at hc
    grind [szR]
abbrev kO0 : List AC := [sC ⟨⟨[]⟩⟩]
theorem kz0 (xs : List ByteArray) (hs : szL szS xs < 1048577) : Sat Tryz.prog 128 [slV (xs.map encS)] (slV (xs.map encS)) := by
 have hl := zQ0 szS xs
 refine soc zE0 zB0 Tryz.func128 ?_
 simp -implicitDefEqProofs (disch := omega) only [go_sem]
 refine ⟨⟨by omega, by omega⟩, fun _ => ?_⟩
 refine zA0 (ι := Nat) (fun i => mk 22 [(0, slV (xs.map encS)), (3, .one (.own 7 xs.length)), (4, zD0 i)] [(7, .arr 9 1 (qY0 encS kO0 xs i) false)]) (fun i => i ≤ xs.length) (fun i => xs.length - i) 0 (Nat.zero_le _) ?_ zE0 zB0 (by decide +kernel) ?_
 ·exact zG0 (by simp [go_sem]) (by simp [go_sem, qx0, List.mem_replicate])
 ·intro i hi
  have hlen := wg0 (ec := encS) (z := kO0) hi
  rcases Nat.lt_or_ge i xs.length with hlt | hge
  ·have hg := zC0 (ec := encS) hlt
   have hr := wf0 (ec := encS) (z := kO0) hlt
   have hset := wh0 (ec := encS) (z := kO0) hlt
   simp only [encS, List.map_cons, List.map_nil] at hg hset
   simp -implicitDefEqProofs (disch := omega) only [go_sem, hg, hlt, hlen, hr, hset]
   refine ⟨by simp [kO0, unD], fun _ => ⟨i + 1, hlt, by omega, zG0 (by simp [go_sem]) ?_⟩⟩
   simp only [leB, qr0, if_true, inB, true_and, and_true]
   exact qv0 (by simp [kO0, inC])
  ·have : i = xs.length := by omega
   subst this
   have hv := qS0 (ec := encS) (z := kO0) (Nat.le_refl xs.length)
   simp -implicitDefEqProofs (disch := omega) only [go_sem, hlen, hv, Nat.lt_irrefl]
   exact qw0 (Nat.le_refl _)
theorem kb0 (xs : List ByteArray) (hw : wfL wfS xs) (ys : List ByteArray) : Sat Tryz.prog 132 [slV (xs.map encS), slV (ys.map encS)] (boolV (eqL eqS xs ys)) := by
 have hl := hw.1
 simp only [maxLen] at hl
 refine soc zE0 zB0 Tryz.func132 ?_
 simp -implicitDefEqProofs (disch := omega) only [go_sem]
 refine ⟨fun h4 => ?_, fun h4 => ?_⟩
 ·rw [vN0 eqS xs ys (by omega)]
 ·have hll : xs.length = ys.length := by simp at h4; omega
  refine zA0 (ι := Nat) (fun i => mk 26 [(0, slV (xs.map encS)), (1, slV (ys.map encS)), (5, zD0 i)] [])
   (fun i => i ≤ xs.length ∧ eqL eqS (xs.drop i) (ys.drop i) = eqL eqS xs ys) (fun i => xs.length - i) 0 ⟨Nat.zero_le _, by simp⟩ ?_ zE0 zB0 (by decide +kernel) ?_
  ·exact lek
  ·rintro i ⟨hi, he⟩
   rcases Nat.lt_or_ge i xs.length with hlt | hge
   ·have hlt' : i < ys.length := by omega
    have hg := zC0 (ec := encS) hlt
    have hg' := zC0 (ec := encS) hlt'
    rw [ka0 eqS xs ys i hlt hlt'] at he
    have hx := hw.2 _ (List.getElem_mem hlt)
    generalize xs[i] = x at hg he hx
    generalize ys[i] = y at hg' he
    simp only [encS] at hg hg'
    simp only [eqS] at he
    simp -implicitDefEqProofs (disch := omega) only [go_sem, hg, hg', hlt, hlt']
    refine ⟨fun h => ?_, fun h => ⟨i + 1, ⟨hlt, ?_⟩, by omega, lek⟩⟩
    ·grind
    ·grind
   ·have e1 : xs.drop i = [] := List.drop_of_length_le hge
    have e2 : ys.drop i = [] := List.drop_of_length_le (by omega)
    rw [e1, e2] at he
    simp -implicitDefEqProofs (disch := omega) only [go_sem, Nat.not_lt.2 hge]
    rw [← he]; rfl
theorem mw0 (x : GGuard) (hw : x.wf) (b : Int) (h0 : 0 ≤ b) (h1 : b < 1048577) : Sat Tryz.prog 213 [qA0 x.enc, zD0 b] (zD0 (szR x.size b)) := by
 obtain ⟨r, hr⟩ : ∃ r, r = szR x.size b := ⟨_, rfl⟩
 rw [← hr]
 obtain ⟨xkd, ⟨xlek, xlen, xles, xlet⟩, ⟨xrik, xrin, xris, xrit⟩⟩ := x
 simp only [GGuard.wf, wfI, wfS, wfB, maxLen] at hw
 simp only [GGuard.size, szI, szS] at hr
 refine soc zE0 zB0 Tryz.func213 ?_
 simp -implicitDefEqProofs only [go_sem, GGuard.enc, Tm.enc, qe0, zO0, zj0, encS, List.cons_append, List.nil_append, List.append_nil]
 have hb0 : -1 ≤ szR (Tm.size (.mk xlek xlen xles xlet)) b ∧ szR (Tm.size (.mk xlek xlen xles xlet)) b ≤ 1048576 := by grind [szR]
 refine CallK.mk (jh0 (.mk xlek xlen xles xlet) hw.2.1 b (by grind [szR]) (by grind [szR])) ?_
 simp -implicitDefEqProofs only [go_sem, GGuard.enc, Tm.enc, qe0, zO0, zj0, encS, List.cons_append, List.nil_append, List.append_nil]
 refine ⟨fun h0 => by grind [szR], fun h0 => ?_⟩
 have hb1 : -1 ≤ szR (Tm.size (.mk xrik xrin xris xrit)) (szR (Tm.size (.mk xlek xlen xles xlet)) b) ∧ szR (Tm.size (.mk xrik xrin xris xrit)) (szR (Tm.size (.mk xlek xlen xles xlet)) b) ≤ 1048576 := by grind [szR]
 refine CallK.mk (jh0 (.mk xrik xrin xris xrit) hw.2.2 (szR (Tm.size (.mk xlek xlen xles xlet)) b) (by grind [szR]) (by grind [szR])) ?_
 simp -implicitDefEqProofs only [go_sem, GGuard.enc, Tm.enc, qe0, zO0, zj0, encS, List.cons_append, List.nil_append, List.append_nil]
 grind [szR]
theorem my0 (x : GGuard) (hs : x.size < 1048577) : Sat Tryz.prog 215 [qA0 x.enc] (qA0 x.enc) := by
 obtain ⟨xkd, ⟨xlek, xlen, xles, xlet⟩, ⟨xrik, xrin, xris, xrit⟩⟩ := x
 simp only [GGuard.size, szI, szS] at hs
 refine soc zE0 zB0 Tryz.func215 ?_
 simp -implicitDefEqProofs only [go_sem, GGuard.enc, Tm.enc, qe0, zO0, zj0, encS, List.cons_append, List.nil_append, List.append_nil]
 refine CallK.mk (ji0 (.mk xlek xlen xles xlet) (by omega)) ?_
 simp -implicitDefEqProofs only [go_sem, GGuard.enc, Tm.enc, qe0, zO0, zj0, encS, List.cons_append, List.nil_append, List.append_nil]
 refine CallK.mk (ji0 (.mk xrik xrin xris xrit) (by omega)) ?_
 simp -implicitDefEqProofs only [go_sem, GGuard.enc, Tm.enc, qe0, zO0, zj0, encS, List.cons_append, List.nil_append, List.append_nil]
 rfl
theorem ly0 (x : GGuard) (hw : x.wf) (y : GGuard) : Sat Tryz.prog 216 [qA0 x.enc, qA0 y.enc] (boolV (x.eqb y)) := by
 obtain ⟨r, hr⟩ : ∃ r, r = x.eqb y := ⟨_, rfl⟩
 rw [← hr]
 obtain ⟨xkd, ⟨xlek, xlen, xles, xlet⟩, ⟨xrik, xrin, xris, xrit⟩⟩ := x
 obtain ⟨ykd, ⟨ylek, ylen, yles, ylet⟩, ⟨yrik, yrin, yris, yrit⟩⟩ := y
 simp only [GGuard.wf] at hw
 simp only [GGuard.eqb, eqI, eqS, eqB] at hr
 refine soc zE0 zB0 Tryz.func216 ?_
 simp -implicitDefEqProofs only [go_sem, GGuard.enc, Tm.enc, qe0, zO0, zj0, encS, List.cons_append, List.nil_append, List.append_nil]
 refine ⟨fun h0 => by grind, fun h0 => ?_⟩
 refine CallK.mk (ja0 (.mk xlek xlen xles xlet) hw.2.1 (.mk ylek ylen yles ylet)) ?_
 simp -implicitDefEqProofs only [go_sem, GGuard.enc, Tm.enc, qe0, zO0, zj0, encS, List.cons_append, List.nil_append, List.append_nil]
 refine ⟨fun h1 => by grind, fun h1 => ?_⟩
 refine CallK.mk (ja0 (.mk xrik xrin xris xrit) hw.2.2 (.mk yrik yrin yris yrit)) ?_
 simp -implicitDefEqProofs only [go_sem, GGuard.enc, Tm.enc, qe0, zO0, zj0, encS, List.cons_append, List.nil_append, List.append_nil]
 grind
theorem gr0 (xs : List GGuard) (hw : wfL GGuard.wf xs) (b : Int) (h0 : 0 ≤ b) (h1 : b < 1048577) : Sat Tryz.prog 183 [slV (xs.map GGuard.enc), zD0 b] (zD0 (szR (szL GGuard.size xs) b)) := by
 have hl := hw.1
 simp only [maxLen] at hl
 refine soc zE0 zB0 Tryz.func183 ?_
 simp -implicitDefEqProofs (disch := omega) only [go_sem]
 refine ⟨fun h => ?_, fun h => ?_⟩
 ·have := zQ0 GGuard.size xs
  grind [szR]
 ·refine zA0 (ι := Nat × Int) (fun i => mk 27 [(0, slV (xs.map GGuard.enc)), (5, zD0 i.1), (1, zD0 i.2)] []) (fun i => i.1 ≤ xs.length ∧ i.2 - ((szL GGuard.size (xs.drop i.1) : Int) - (xs.length - i.1)) = b - szL GGuard.size xs ∧ 0 ≤ i.2 ∧ i.2 < 1048577) (fun i => xs.length - i.1) (0, b - xs.length) ?_ ?_ zE0 zB0 (by decide +kernel) ?_
  ·simp; omega
  ·exact lek
  ·rintro ⟨i, c⟩ ⟨hi, hc, hc0, hc1⟩
   simp only at hi hc hc0 hc1
   rcases Nat.lt_or_ge i xs.length with hlt | hge
   ·have hg := zC0 (ec := GGuard.enc) hlt
    have hz := kx0 GGuard.size xs i hlt
    have hz2 := zQ0 GGuard.size (xs.drop (i + 1))
    simp only [List.length_drop] at hz2
    have hx := hw.2 _ (List.getElem_mem hlt)
    generalize xs[i] = x at hg hz hx
    simp -implicitDefEqProofs (disch := omega) only [go_sem, hg, hlt]
    refine CallK.mk (mw0 x hx c hc0 (by omega)) ?_
    simp -implicitDefEqProofs (disch := omega) only [go_sem]
    refine ⟨fun h => ?_, fun h => ⟨(i + 1, szR (GGuard.size x) c), ⟨hlt, ?_⟩, ?_, lek⟩⟩
    ·grind [szR]
    ·grind [szR]
    ·simp only; omega
   ·simp -implicitDefEqProofs (disch := omega) only [go_sem, Nat.not_lt.2 hge]
    rw [List.drop_of_length_le hge] at hc
    simp only [szL] at hc
    grind [szR]
abbrev fJ0 : List AC := [iC 0, iC 0, iC 0, sC ⟨⟨[]⟩⟩, .nil, iC 0, iC 0, sC ⟨⟨[]⟩⟩, .nil]
theorem gu0 (xs : List GGuard) (hs : szL GGuard.size xs < 1048577) : Sat Tryz.prog 186 [slV (xs.map GGuard.enc)] (slV (xs.map GGuard.enc)) := by
 have hl := zQ0 GGuard.size xs
 refine soc zE0 zB0 Tryz.func186 ?_
 simp -implicitDefEqProofs (disch := omega) only [go_sem]
 refine ⟨⟨by omega, by omega⟩, fun _ => ?_⟩
 refine zA0 (ι := Nat) (fun i => mk 23 [(0, slV (xs.map GGuard.enc)), (3, .one (.own 7 xs.length)), (4, zD0 i)] [(7, .arr 143 9 (qY0 GGuard.enc fJ0 xs i) false)]) (fun i => i ≤ xs.length) (fun i => xs.length - i) 0 (Nat.zero_le _) ?_ zE0 zB0 (by decide +kernel) ?_
 ·exact zG0 (by simp [go_sem]) (by simp [go_sem, qx0, List.mem_replicate])
 ·intro i hi
  have hlen := wg0 (ec := GGuard.enc) (z := fJ0) hi
  rcases Nat.lt_or_ge i xs.length with hlt | hge
  ·have hg := zC0 (ec := GGuard.enc) hlt
   have hr := wf0 (ec := GGuard.enc) (z := fJ0) hlt
   have hset := wh0 (ec := GGuard.enc) (z := fJ0) hlt
   have hm := qT0 GGuard.size xs _ (List.getElem_mem hlt)
   simp -implicitDefEqProofs (disch := omega) only [go_sem, hg, hlt, hlen]
   refine CallK.mk (my0 _ (by omega)) ?_
   simp -implicitDefEqProofs (disch := omega) only [go_sem, hlen, hlt, List.length_map, hr, hset]
   refine ⟨by simp [fJ0, unD], fun _ => ⟨i + 1, hlt, by omega, zG0 (by simp [go_sem]) ?_⟩⟩
   simp only [leB, qr0, if_true, inB, true_and, and_true]
   exact qv0 (by simp [fJ0, inC])
  ·have : i = xs.length := by omega
   subst this
   have hv := qS0 (ec := GGuard.enc) (z := fJ0) (Nat.le_refl xs.length)
   simp -implicitDefEqProofs (disch := omega) only [go_sem, hlen, hv, Nat.lt_irrefl]
   exact qw0 (Nat.le_refl _)
theorem dT0 (xs : List GGuard) (hw : wfL GGuard.wf xs) (ys : List GGuard) : Sat Tryz.prog 188 [slV (xs.map GGuard.enc), slV (ys.map GGuard.enc)] (boolV (eqL GGuard.eqb xs ys)) := by
 have hl := hw.1
 simp only [maxLen] at hl
 refine soc zE0 zB0 Tryz.func188 ?_
 simp -implicitDefEqProofs (disch := omega) only [go_sem]
 refine ⟨fun h4 => ?_, fun h4 => ?_⟩
 ·rw [vN0 GGuard.eqb xs ys (by omega)]
 ·have hll : xs.length = ys.length := by simp at h4; omega
  refine zA0 (ι := Nat) (fun i => mk 27 [(0, slV (xs.map GGuard.enc)), (1, slV (ys.map GGuard.enc)), (5, zD0 i)] [])
   (fun i => i ≤ xs.length ∧ eqL GGuard.eqb (xs.drop i) (ys.drop i) = eqL GGuard.eqb xs ys) (fun i => xs.length - i) 0 ⟨Nat.zero_le _, by simp⟩ ?_ zE0 zB0 (by decide +kernel) ?_
  ·exact lek
  ·rintro i ⟨hi, he⟩
   rcases Nat.lt_or_ge i xs.length with hlt | hge
   ·have hlt' : i < ys.length := by omega
    have hg := zC0 (ec := GGuard.enc) hlt
    have hg' := zC0 (ec := GGuard.enc) hlt'
    rw [ka0 GGuard.eqb xs ys i hlt hlt'] at he
    have hx := hw.2 _ (List.getElem_mem hlt)
    generalize xs[i] = x at hg he hx
    generalize ys[i] = y at hg' he
    simp -implicitDefEqProofs (disch := omega) only [go_sem, hg, hg', hlt, hlt']
    refine CallK.mk (ly0 x hx y) ?_
    simp -implicitDefEqProofs (disch := omega) only [go_sem]
    refine ⟨fun h => ?_, fun h => ⟨i + 1, ⟨hlt, ?_⟩, by omega, lek⟩⟩
    ·rw [h] at he; simpa using he
    ·rw [h] at he; simpa using he
   ·have e1 : xs.drop i = [] := List.drop_of_length_le hge
    have e2 : ys.drop i = [] := List.drop_of_length_le (by omega)
    rw [e1, e2] at he
    simp -implicitDefEqProofs (disch := omega) only [go_sem, Nat.not_lt.2 hge]
    rw [← he]; rfl
theorem tR0 (x : GRule) (hw : x.wf) (b : Int) (h0 : 0 ≤ b) (h1 : b < 1048577) : Sat Tryz.prog 126 [qA0 x.enc, zD0 b] (zD0 (szR x.size b)) := by
 obtain ⟨r, hr⟩ : ∃ r, r = szR x.size b := ⟨_, rfl⟩
 rw [← hr]
 obtain ⟨xna, ⟨xlek, xlen, xles, xlet⟩, ⟨xrik, xrin, xris, xrit⟩, xgu⟩ := x
 simp only [GRule.wf, wfI, wfS, wfB, maxLen] at hw
 simp only [GRule.size, szI, szS] at hr
 refine soc zE0 zB0 Tryz.func126 ?_
 simp -implicitDefEqProofs (disch := omega) only [go_sem, GRule.enc, Tm.enc, qe0, zO0, zj0, encS, List.cons_append, List.nil_append, List.append_nil]
 refine ⟨fun h0 => by grind [szR], fun h0 => ?_⟩
 have hb1 : -1 ≤ szR (Tm.size (.mk xlek xlen xles xlet)) (b - xna.size) ∧ szR (Tm.size (.mk xlek xlen xles xlet)) (b - xna.size) ≤ 1048576 := by grind [szR]
 refine CallK.mk (jh0 (.mk xlek xlen xles xlet) hw.2.1 (b - xna.size) (by grind [szR]) (by grind [szR])) ?_
 simp -implicitDefEqProofs (disch := omega) only [go_sem, GRule.enc, Tm.enc, qe0, zO0, zj0, encS, List.cons_append, List.nil_append, List.append_nil]
 refine ⟨fun h1 => by grind [szR], fun h1 => ?_⟩
 have hb2 : -1 ≤ szR (Tm.size (.mk xrik xrin xris xrit)) (szR (Tm.size (.mk xlek xlen xles xlet)) (b - xna.size)) ∧ szR (Tm.size (.mk xrik xrin xris xrit)) (szR (Tm.size (.mk xlek xlen xles xlet)) (b - xna.size)) ≤ 1048576 := by grind [szR]
 refine CallK.mk (jh0 (.mk xrik xrin xris xrit) hw.2.2.1 (szR (Tm.size (.mk xlek xlen xles xlet)) (b - xna.size)) (by grind [szR]) (by grind [szR])) ?_
 simp -implicitDefEqProofs (disch := omega) only [go_sem, GRule.enc, Tm.enc, qe0, zO0, zj0, encS, List.cons_append, List.nil_append, List.append_nil]
 refine ⟨fun h2 => by grind [szR], fun h2 => ?_⟩
 have hb3 : -1 ≤ szR ((szL GGuard.size) xgu) (szR (Tm.size (.mk xrik xrin xris xrit)) (szR (Tm.size (.mk xlek xlen xles xlet)) (b - xna.size))) ∧ szR ((szL GGuard.size) xgu) (szR (Tm.size (.mk xrik xrin xris xrit)) (szR (Tm.size (.mk xlek xlen xles xlet)) (b - xna.size))) ≤ 1048576 := by grind [szR]
 refine CallK.mk (gr0 xgu hw.2.2.2 (szR (Tm.size (.mk xrik xrin xris xrit)) (szR (Tm.size (.mk xlek xlen xles xlet)) (b - xna.size))) (by grind [szR]) (by grind [szR])) ?_
 simp -implicitDefEqProofs (disch := omega) only [go_sem, GRule.enc, Tm.enc, qe0, zO0, zj0, encS, List.cons_append, List.nil_append, List.append_nil]
 grind [szR]
theorem tT0 (x : GRule) (hs : x.size < 1048577) : Sat Tryz.prog 130 [qA0 x.enc] (qA0 x.enc) := by
 obtain ⟨xna, ⟨xlek, xlen, xles, xlet⟩, ⟨xrik, xrin, xris, xrit⟩, xgu⟩ := x
 simp only [GRule.size, szI, szS] at hs
 refine soc zE0 zB0 Tryz.func130 ?_
 simp -implicitDefEqProofs only [go_sem, GRule.enc, Tm.enc, qe0, zO0, zj0, encS, List.cons_append, List.nil_append, List.append_nil]
 refine CallK.mk (ji0 (.mk xlek xlen xles xlet) (by omega)) ?_
 simp -implicitDefEqProofs only [go_sem, GRule.enc, Tm.enc, qe0, zO0, zj0, encS, List.cons_append, List.nil_append, List.append_nil]
 refine CallK.mk (ji0 (.mk xrik xrin xris xrit) (by omega)) ?_
 simp -implicitDefEqProofs only [go_sem, GRule.enc, Tm.enc, qe0, zO0, zj0, encS, List.cons_append, List.nil_append, List.append_nil]
 refine CallK.mk (gu0 xgu (by omega)) ?_
 simp -implicitDefEqProofs only [go_sem, GRule.enc, Tm.enc, qe0, zO0, zj0, encS, List.cons_append, List.nil_append, List.append_nil]
 rfl
theorem sM0 (x : GRule) (hw : x.wf) (y : GRule) : Sat Tryz.prog 134 [qA0 x.enc, qA0 y.enc] (boolV (x.eqb y)) := by
 obtain ⟨r, hr⟩ : ∃ r, r = x.eqb y := ⟨_, rfl⟩
 rw [← hr]
 obtain ⟨xna, ⟨xlek, xlen, xles, xlet⟩, ⟨xrik, xrin, xris, xrit⟩, xgu⟩ := x
 obtain ⟨yna, ⟨ylek, ylen, yles, ylet⟩, ⟨yrik, yrin, yris, yrit⟩, ygu⟩ := y
 simp only [GRule.wf] at hw
 simp only [GRule.eqb, eqI, eqS, eqB] at hr
 refine soc zE0 zB0 Tryz.func134 ?_
 simp -implicitDefEqProofs only [go_sem, GRule.enc, Tm.enc, qe0, zO0, zj0, encS, List.cons_append, List.nil_append, List.append_nil]
 refine ⟨fun h0 => by grind, fun h0 => ?_⟩
 refine CallK.mk (ja0 (.mk xlek xlen xles xlet) hw.2.1 (.mk ylek ylen yles ylet)) ?_
 simp -implicitDefEqProofs only [go_sem, GRule.enc, Tm.enc, qe0, zO0, zj0, encS, List.cons_append, List.nil_append, List.append_nil]
 refine ⟨fun h1 => by grind, fun h1 => ?_⟩
 refine CallK.mk (ja0 (.mk xrik xrin xris xrit) hw.2.2.1 (.mk yrik yrin yris yrit)) ?_
 simp -implicitDefEqProofs only [go_sem, GRule.enc, Tm.enc, qe0, zO0, zj0, encS, List.cons_append, List.nil_append, List.append_nil]
 refine ⟨fun h2 => by grind, fun h2 => ?_⟩
 refine CallK.mk (dT0 xgu hw.2.2.2 ygu) ?_
 simp -implicitDefEqProofs only [go_sem, GRule.enc, Tm.enc, qe0, zO0, zj0, encS, List.cons_append, List.nil_append, List.append_nil]
 grind
theorem mx0 (xs : List GRule) (hw : wfL GRule.wf xs) (b : Int) (h0 : 0 ≤ b) (h1 : b < 1048577) : Sat Tryz.prog 63 [slV (xs.map GRule.enc), zD0 b] (zD0 (szR (szL GRule.size xs) b)) := by
 have hl := hw.1
 simp only [maxLen] at hl
 refine soc zE0 zB0 Tryz.func63 ?_
 simp -implicitDefEqProofs (disch := omega) only [go_sem]
 refine ⟨fun h => ?_, fun h => ?_⟩
 ·have := zQ0 GRule.size xs
  grind [szR]
 ·refine zA0 (ι := Nat × Int) (fun i => mk 27 [(0, slV (xs.map GRule.enc)), (5, zD0 i.1), (1, zD0 i.2)] []) (fun i => i.1 ≤ xs.length ∧ i.2 - ((szL GRule.size (xs.drop i.1) : Int) - (xs.length - i.1)) = b - szL GRule.size xs ∧ 0 ≤ i.2 ∧ i.2 < 1048577) (fun i => xs.length - i.1) (0, b - xs.length) ?_ ?_ zE0 zB0 (by decide +kernel) ?_
  ·simp; omega
  ·exact lek
  ·rintro ⟨i, c⟩ ⟨hi, hc, hc0, hc1⟩
   simp only at hi hc hc0 hc1
   rcases Nat.lt_or_ge i xs.length with hlt | hge
   ·have hg := zC0 (ec := GRule.enc) hlt
    have hz := kx0 GRule.size xs i hlt
    have hz2 := zQ0 GRule.size (xs.drop (i + 1))
    simp only [List.length_drop] at hz2
    have hx := hw.2 _ (List.getElem_mem hlt)
    generalize xs[i] = x at hg hz hx
    simp -implicitDefEqProofs (disch := omega) only [go_sem, hg, hlt]
    refine CallK.mk (tR0 x hx c hc0 (by omega)) ?_
    simp -implicitDefEqProofs (disch := omega) only [go_sem]
    refine ⟨fun h => ?_, fun h => ⟨(i + 1, szR (GRule.size x) c), ⟨hlt, ?_⟩, ?_, lek⟩⟩
    ·grind [szR]
    ·grind [szR]
    ·simp only; omega
   ·simp -implicitDefEqProofs (disch := omega) only [go_sem, Nat.not_lt.2 hge]
    rw [List.drop_of_length_le hge] at hc
    simp only [szL] at hc
    grind [szR]
abbrev nE0 : List AC := [sC ⟨⟨[]⟩⟩, iC 0, iC 0, sC ⟨⟨[]⟩⟩, .nil, iC 0, iC 0, sC ⟨⟨[]⟩⟩, .nil, .nil]
theorem mz0 (xs : List GRule) (hs : szL GRule.size xs < 1048577) : Sat Tryz.prog 66 [slV (xs.map GRule.enc)] (slV (xs.map GRule.enc)) := by
 have hl := zQ0 GRule.size xs
 refine soc zE0 zB0 Tryz.func66 ?_
 simp -implicitDefEqProofs (disch := omega) only [go_sem]
 refine ⟨⟨by omega, by omega⟩, fun _ => ?_⟩
 refine zA0 (ι := Nat) (fun i => mk 23 [(0, slV (xs.map GRule.enc)), (3, .one (.own 7 xs.length)), (4, zD0 i)] [(7, .arr 46 10 (qY0 GRule.enc nE0 xs i) false)]) (fun i => i ≤ xs.length) (fun i => xs.length - i) 0 (Nat.zero_le _) ?_ zE0 zB0 (by decide +kernel) ?_
 ·exact zG0 (by simp [go_sem]) (by simp [go_sem, qx0, List.mem_replicate])
 ·intro i hi
  have hlen := wg0 (ec := GRule.enc) (z := nE0) hi
  rcases Nat.lt_or_ge i xs.length with hlt | hge
  ·have hg := zC0 (ec := GRule.enc) hlt
   have hr := wf0 (ec := GRule.enc) (z := nE0) hlt
   have hset := wh0 (ec := GRule.enc) (z := nE0) hlt
   have hm := qT0 GRule.size xs _ (List.getElem_mem hlt)
   simp -implicitDefEqProofs (disch := omega) only [go_sem, hg, hlt, hlen]
   refine CallK.mk (tT0 _ (by omega)) ?_
   simp -implicitDefEqProofs (disch := omega) only [go_sem, hlen, hlt, List.length_map, hr, hset]
   refine ⟨by simp [nE0, unD], fun _ => ⟨i + 1, hlt, by omega, zG0 (by simp [go_sem]) ?_⟩⟩
   simp only [leB, qr0, if_true, inB, true_and, and_true]
   exact qv0 (by simp [nE0, inC])
  ·have : i = xs.length := by omega
   subst this
   have hv := qS0 (ec := GRule.enc) (z := nE0) (Nat.le_refl xs.length)
   simp -implicitDefEqProofs (disch := omega) only [go_sem, hlen, hv, Nat.lt_irrefl]
   exact qw0 (Nat.le_refl _)
theorem lz0 (xs : List GRule) (hw : wfL GRule.wf xs) (ys : List GRule) : Sat Tryz.prog 69 [slV (xs.map GRule.enc), slV (ys.map GRule.enc)] (boolV (eqL GRule.eqb xs ys)) := by
 have hl := hw.1
 simp only [maxLen] at hl
 refine soc zE0 zB0 Tryz.func69 ?_
 simp -implicitDefEqProofs (disch := omega) only [go_sem]
 refine ⟨fun h4 => ?_, fun h4 => ?_⟩
 ·rw [vN0 GRule.eqb xs ys (by omega)]
 ·have hll : xs.length = ys.length := by simp at h4; omega
  refine zA0 (ι := Nat) (fun i => mk 27 [(0, slV (xs.map GRule.enc)), (1, slV (ys.map GRule.enc)), (5, zD0 i)] [])
   (fun i => i ≤ xs.length ∧ eqL GRule.eqb (xs.drop i) (ys.drop i) = eqL GRule.eqb xs ys) (fun i => xs.length - i) 0 ⟨Nat.zero_le _, by simp⟩ ?_ zE0 zB0 (by decide +kernel) ?_
  ·exact lek
  ·rintro i ⟨hi, he⟩
   rcases Nat.lt_or_ge i xs.length with hlt | hge
   ·have hlt' : i < ys.length := by omega
    have hg := zC0 (ec := GRule.enc) hlt
    have hg' := zC0 (ec := GRule.enc) hlt'
    rw [ka0 GRule.eqb xs ys i hlt hlt'] at he
    have hx := hw.2 _ (List.getElem_mem hlt)
    generalize xs[i] = x at hg he hx
    generalize ys[i] = y at hg' he
    simp -implicitDefEqProofs (disch := omega) only [go_sem, hg, hg', hlt, hlt']
    refine CallK.mk (sM0 x hx y) ?_
    simp -implicitDefEqProofs (disch := omega) only [go_sem]
    refine ⟨fun h => ?_, fun h => ⟨i + 1, ⟨hlt, ?_⟩, by omega, lek⟩⟩
    ·rw [h] at he; simpa using he
    ·rw [h] at he; simpa using he
   ·have e1 : xs.drop i = [] := List.drop_of_length_le hge
    have e2 : ys.drop i = [] := List.drop_of_length_le (by omega)
    rw [e1, e2] at he
    simp -implicitDefEqProofs (disch := omega) only [go_sem, Nat.not_lt.2 hge]
    rw [← he]; rfl
theorem yn1 (x : GOp) (hw : x.wf) (b : Int) (h0 : 0 ≤ b) (h1 : b < 1048577) : Sat Tryz.prog 181 [qA0 x.enc, zD0 b] (zD0 (szR x.size b)) := by
 obtain ⟨r, hr⟩ : ∃ r, r = szR x.size b := ⟨_, rfl⟩
 rw [← hr]
 obtain ⟨xna, xar, xre⟩ := x
 simp only [GOp.wf, wfI, wfS, wfB, maxLen] at hw
 simp only [GOp.size, szI, szS] at hr
 refine soc zE0 zB0 Tryz.func181 ?_
 simp -implicitDefEqProofs (disch := omega) only [go_sem, GOp.enc, Tm.enc, qe0, zO0, zj0, encS, List.cons_append, List.nil_append, List.append_nil]
 refine ⟨fun h0 => by grind [szR], fun h0 => ?_⟩
 have hb1 : -1 ≤ szR ((szL szS) xar) (b - xna.size) ∧ szR ((szL szS) xar) (b - xna.size) ≤ 1048576 := by grind [szR]
 refine CallK.mk (ky0 xar hw.2.1 (b - xna.size) (by grind [szR]) (by grind [szR])) ?_
 simp -implicitDefEqProofs (disch := omega) only [go_sem, GOp.enc, Tm.enc, qe0, zO0, zj0, encS, List.cons_append, List.nil_append, List.append_nil]
 refine ⟨fun h1 => by grind [szR], fun h1 => ?_⟩
 grind [szR]
theorem yq1 (x : GOp) (hs : x.size < 1048577) : Sat Tryz.prog 184 [qA0 x.enc] (qA0 x.enc) := by
 obtain ⟨xna, xar, xre⟩ := x
 simp only [GOp.size, szI, szS] at hs
 refine soc zE0 zB0 Tryz.func184 ?_
 simp -implicitDefEqProofs only [go_sem, GOp.enc, Tm.enc, qe0, zO0, zj0, encS, List.cons_append, List.nil_append, List.append_nil]
 refine CallK.mk (kz0 xar (by omega)) ?_
 simp -implicitDefEqProofs only [go_sem, GOp.enc, Tm.enc, qe0, zO0, zj0, encS, List.cons_append, List.nil_append, List.append_nil]
 rfl
theorem yE1 (x : GOp) (hw : x.wf) (y : GOp) : Sat Tryz.prog 187 [qA0 x.enc, qA0 y.enc] (boolV (x.eqb y)) := by
 obtain ⟨r, hr⟩ : ∃ r, r = x.eqb y := ⟨_, rfl⟩
 rw [← hr]
 obtain ⟨xna, xar, xre⟩ := x
 obtain ⟨yna, yar, yre⟩ := y
 simp only [GOp.wf] at hw
 simp only [GOp.eqb, eqI, eqS, eqB] at hr
 refine soc zE0 zB0 Tryz.func187 ?_
 simp -implicitDefEqProofs only [go_sem, GOp.enc, Tm.enc, qe0, zO0, zj0, encS, List.cons_append, List.nil_append, List.append_nil]
 refine ⟨fun h0 => by grind, fun h0 => ?_⟩
 refine CallK.mk (kb0 xar hw.2.1 yar) ?_
 simp -implicitDefEqProofs only [go_sem, GOp.enc, Tm.enc, qe0, zO0, zj0, encS, List.cons_append, List.nil_append, List.append_nil]
 refine ⟨fun h1 => by grind, fun h1 => ?_⟩
 grind
theorem wG1 (xs : List GOp) (hw : wfL GOp.wf xs) (b : Int) (h0 : 0 ≤ b) (h1 : b < 1048577) : Sat Tryz.prog 125 [slV (xs.map GOp.enc), zD0 b] (zD0 (szR (szL GOp.size xs) b)) := by
 have hl := hw.1
 simp only [maxLen] at hl
 refine soc zE0 zB0 Tryz.func125 ?_
 simp -implicitDefEqProofs (disch := omega) only [go_sem]
 refine ⟨fun h => ?_, fun h => ?_⟩
 ·have := zQ0 GOp.size xs
  grind [szR]
 ·refine zA0 (ι := Nat × Int) (fun i => mk 27 [(0, slV (xs.map GOp.enc)), (5, zD0 i.1), (1, zD0 i.2)] []) (fun i => i.1 ≤ xs.length ∧ i.2 - ((szL GOp.size (xs.drop i.1) : Int) - (xs.length - i.1)) = b - szL GOp.size xs ∧ 0 ≤ i.2 ∧ i.2 < 1048577) (fun i => xs.length - i.1) (0, b - xs.length) ?_ ?_ zE0 zB0 (by decide +kernel) ?_
  ·simp; omega
  ·exact lek
  ·rintro ⟨i, c⟩ ⟨hi, hc, hc0, hc1⟩
   simp only at hi hc hc0 hc1
   rcases Nat.lt_or_ge i xs.length with hlt | hge
   ·have hg := zC0 (ec := GOp.enc) hlt
    have hz := kx0 GOp.size xs i hlt
    have hz2 := zQ0 GOp.size (xs.drop (i + 1))
    simp only [List.length_drop] at hz2
    have hx := hw.2 _ (List.getElem_mem hlt)
    generalize xs[i] = x at hg hz hx
    simp -implicitDefEqProofs (disch := omega) only [go_sem, hg, hlt]
    refine CallK.mk (yn1 x hx c hc0 (by omega)) ?_
    simp -implicitDefEqProofs (disch := omega) only [go_sem]
    refine ⟨fun h => ?_, fun h => ⟨(i + 1, szR (GOp.size x) c), ⟨hlt, ?_⟩, ?_, lek⟩⟩
    ·grind [szR]
    ·grind [szR]
    ·simp only; omega
   ·simp -implicitDefEqProofs (disch := omega) only [go_sem, Nat.not_lt.2 hge]
    rw [List.drop_of_length_le hge] at hc
    simp only [szL] at hc
    grind [szR]
abbrev zOp : List AC := [sC ⟨⟨[]⟩⟩, .nil, sC ⟨⟨[]⟩⟩]
theorem wM1 (xs : List GOp) (hs : szL GOp.size xs < 1048577) : Sat Tryz.prog 129 [slV (xs.map GOp.enc)] (slV (xs.map GOp.enc)) := by
 have hl := zQ0 GOp.size xs
 refine soc zE0 zB0 Tryz.func129 ?_
 simp -implicitDefEqProofs (disch := omega) only [go_sem]
 refine ⟨⟨by omega, by omega⟩, fun _ => ?_⟩
 refine zA0 (ι := Nat) (fun i => mk 23 [(0, slV (xs.map GOp.enc)), (3, .one (.own 7 xs.length)), (4, zD0 i)] [(7, .arr 122 3 (qY0 GOp.enc zOp xs i) false)]) (fun i => i ≤ xs.length) (fun i => xs.length - i) 0 (Nat.zero_le _) ?_ zE0 zB0 (by decide +kernel) ?_
 ·exact zG0 (by simp [go_sem]) (by simp [go_sem, qx0, List.mem_replicate])
 ·intro i hi
  have hlen := wg0 (ec := GOp.enc) (z := zOp) hi
  rcases Nat.lt_or_ge i xs.length with hlt | hge
  ·have hg := zC0 (ec := GOp.enc) hlt
   have hr := wf0 (ec := GOp.enc) (z := zOp) hlt
   have hset := wh0 (ec := GOp.enc) (z := zOp) hlt
   have hm := qT0 GOp.size xs _ (List.getElem_mem hlt)
   simp -implicitDefEqProofs (disch := omega) only [go_sem, hg, hlt, hlen]
   refine CallK.mk (yq1 _ (by omega)) ?_
   simp -implicitDefEqProofs (disch := omega) only [go_sem, hlen, hlt, List.length_map, hr, hset]
   refine ⟨by simp [zOp, unD], fun _ => ⟨i + 1, hlt, by omega, zG0 (by simp [go_sem]) ?_⟩⟩
   simp only [leB, qr0, if_true, inB, true_and, and_true]
   exact qv0 (by simp [zOp, inC])
  ·have : i = xs.length := by omega
   subst this
   have hv := qS0 (ec := GOp.enc) (z := zOp) (Nat.le_refl xs.length)
   simp -implicitDefEqProofs (disch := omega) only [go_sem, hlen, hv, Nat.lt_irrefl]
   exact qw0 (Nat.le_refl _)
theorem zV1 (xs : List GOp) (hw : wfL GOp.wf xs) (ys : List GOp) : Sat Tryz.prog 133 [slV (xs.map GOp.enc), slV (ys.map GOp.enc)] (boolV (eqL GOp.eqb xs ys)) := by
 have hl := hw.1
 simp only [maxLen] at hl
 refine soc zE0 zB0 Tryz.func133 ?_
 simp -implicitDefEqProofs (disch := omega) only [go_sem]
 refine ⟨fun h4 => ?_, fun h4 => ?_⟩
 ·rw [vN0 GOp.eqb xs ys (by omega)]
 ·have hll : xs.length = ys.length := by simp at h4; omega
  refine zA0 (ι := Nat) (fun i => mk 27 [(0, slV (xs.map GOp.enc)), (1, slV (ys.map GOp.enc)), (5, zD0 i)] [])
   (fun i => i ≤ xs.length ∧ eqL GOp.eqb (xs.drop i) (ys.drop i) = eqL GOp.eqb xs ys) (fun i => xs.length - i) 0 ⟨Nat.zero_le _, by simp⟩ ?_ zE0 zB0 (by decide +kernel) ?_
  ·exact lek
  ·rintro i ⟨hi, he⟩
   rcases Nat.lt_or_ge i xs.length with hlt | hge
   ·have hlt' : i < ys.length := by omega
    have hg := zC0 (ec := GOp.enc) hlt
    have hg' := zC0 (ec := GOp.enc) hlt'
    rw [ka0 GOp.eqb xs ys i hlt hlt'] at he
    have hx := hw.2 _ (List.getElem_mem hlt)
    generalize xs[i] = x at hg he hx
    generalize ys[i] = y at hg' he
    simp -implicitDefEqProofs (disch := omega) only [go_sem, hg, hg', hlt, hlt']
    refine CallK.mk (yE1 x hx y) ?_
    simp -implicitDefEqProofs (disch := omega) only [go_sem]
    refine ⟨fun h => ?_, fun h => ⟨i + 1, ⟨hlt, ?_⟩, by omega, lek⟩⟩
    ·rw [h] at he; simpa using he
    ·rw [h] at he; simpa using he
   ·have e1 : xs.drop i = [] := List.drop_of_length_le hge
    have e2 : ys.drop i = [] := List.drop_of_length_le (by omega)
    rw [e1, e2] at he
    simp -implicitDefEqProofs (disch := omega) only [go_sem, Nat.not_lt.2 hge]
    rw [← he]; rfl
theorem fA0 (x : GSignature) (hw : x.wf) (b : Int) (h0 : 0 ≤ b) (h1 : b < 1048577) : Sat Tryz.prog 62 [qA0 x.enc, zD0 b] (zD0 (szR x.size b)) := by
 obtain ⟨r, hr⟩ : ∃ r, r = szR x.size b := ⟨_, rfl⟩
 rw [← hr]
 obtain ⟨xso, xop⟩ := x
 simp only [GSignature.wf, wfI, wfS, wfB, maxLen] at hw
 simp only [GSignature.size, szI, szS] at hr
 refine soc zE0 zB0 Tryz.func62 ?_
 simp -implicitDefEqProofs only [go_sem, GSignature.enc, Tm.enc, qe0, zO0, zj0, encS, List.cons_append, List.nil_append, List.append_nil]
 have hb0 : -1 ≤ szR ((szL szS) xso) b ∧ szR ((szL szS) xso) b ≤ 1048576 := by grind [szR]
 refine CallK.mk (ky0 xso hw.1 b (by grind [szR]) (by grind [szR])) ?_
 simp -implicitDefEqProofs only [go_sem, GSignature.enc, Tm.enc, qe0, zO0, zj0, encS, List.cons_append, List.nil_append, List.append_nil]
 refine ⟨fun h0 => by grind [szR], fun h0 => ?_⟩
 have hb1 : -1 ≤ szR ((szL GOp.size) xop) (szR ((szL szS) xso) b) ∧ szR ((szL GOp.size) xop) (szR ((szL szS) xso) b) ≤ 1048576 := by grind [szR]
 refine CallK.mk (wG1 xop hw.2 (szR ((szL szS) xso) b) (by grind [szR]) (by grind [szR])) ?_
 simp -implicitDefEqProofs only [go_sem, GSignature.enc, Tm.enc, qe0, zO0, zj0, encS, List.cons_append, List.nil_append, List.append_nil]
 grind [szR]
theorem fD0 (x : GSignature) (hs : x.size < 1048577) : Sat Tryz.prog 65 [qA0 x.enc] (qA0 x.enc) := by
 obtain ⟨xso, xop⟩ := x
 simp only [GSignature.size, szI, szS] at hs
 refine soc zE0 zB0 Tryz.func65 ?_
 simp -implicitDefEqProofs only [go_sem, GSignature.enc, Tm.enc, qe0, zO0, zj0, encS, List.cons_append, List.nil_append, List.append_nil]
 refine CallK.mk (kz0 xso (by omega)) ?_
 simp -implicitDefEqProofs only [go_sem, GSignature.enc, Tm.enc, qe0, zO0, zj0, encS, List.cons_append, List.nil_append, List.append_nil]
 refine CallK.mk (wM1 xop (by omega)) ?_
 simp -implicitDefEqProofs only [go_sem, GSignature.enc, Tm.enc, qe0, zO0, zj0, encS, List.cons_append, List.nil_append, List.append_nil]
 rfl
theorem pH0 (x : GSignature) (hw : x.wf) (y : GSignature) : Sat Tryz.prog 68 [qA0 x.enc, qA0 y.enc] (boolV (x.eqb y)) := by
 obtain ⟨r, hr⟩ : ∃ r, r = x.eqb y := ⟨_, rfl⟩
 rw [← hr]
 obtain ⟨xso, xop⟩ := x
 obtain ⟨yso, yop⟩ := y
 simp only [GSignature.wf] at hw
 simp only [GSignature.eqb, eqI, eqS, eqB] at hr
 refine soc zE0 zB0 Tryz.func68 ?_
 simp -implicitDefEqProofs only [go_sem, GSignature.enc, Tm.enc, qe0, zO0, zj0, encS, List.cons_append, List.nil_append, List.append_nil]
 refine CallK.mk (kb0 xso hw.1 yso) ?_
 simp -implicitDefEqProofs only [go_sem, GSignature.enc, Tm.enc, qe0, zO0, zj0, encS, List.cons_append, List.nil_append, List.append_nil]
 refine ⟨fun h0 => by grind, fun h0 => ?_⟩
 refine CallK.mk (zV1 xop hw.2 yop) ?_
 simp -implicitDefEqProofs only [go_sem, GSignature.enc, Tm.enc, qe0, zO0, zj0, encS, List.cons_append, List.nil_append, List.append_nil]
 grind
theorem gs0 (x : GStrict) (hw : x.wf) (b : Int) (h0 : 0 ≤ b) (h1 : b < 1048577) : Sat Tryz.prog 127 [qA0 x.enc, zD0 b] (zD0 (szR x.size b)) := by
 obtain ⟨r, hr⟩ : ∃ r, r = szR x.size b := ⟨_, rfl⟩
 rw [← hr]
 obtain ⟨xop, xar⟩ := x
 simp only [GStrict.wf, wfI, wfS, wfB, maxLen] at hw
 simp only [GStrict.size, szI, szS] at hr
 refine soc zE0 zB0 Tryz.func127 ?_
 simp -implicitDefEqProofs (disch := omega) only [go_sem, GStrict.enc, Tm.enc, qe0, zO0, zj0, encS, List.cons_append, List.nil_append, List.append_nil]
 grind [szR]
theorem gv0 (x : GStrict) (hs : x.size < 1048577) : Sat Tryz.prog 131 [qA0 x.enc] (qA0 x.enc) := by
 obtain ⟨xop, xar⟩ := x
 simp only [GStrict.size, szI, szS] at hs
 refine soc zE0 zB0 Tryz.func131 ?_
 simp -implicitDefEqProofs only [go_sem, GStrict.enc, Tm.enc, qe0, zO0, zj0, encS, List.cons_append, List.nil_append, List.append_nil]
 rfl
theorem dW0 (x : GStrict) (hw : x.wf) (y : GStrict) : Sat Tryz.prog 135 [qA0 x.enc, qA0 y.enc] (boolV (x.eqb y)) := by
 obtain ⟨r, hr⟩ : ∃ r, r = x.eqb y := ⟨_, rfl⟩
 rw [← hr]
 obtain ⟨xop, xar⟩ := x
 obtain ⟨yop, yar⟩ := y
 simp only [GStrict.wf] at hw
 simp only [GStrict.eqb, eqI, eqS, eqB] at hr
 refine soc zE0 zB0 Tryz.func135 ?_
 simp -implicitDefEqProofs only [go_sem, GStrict.enc, Tm.enc, qe0, zO0, zj0, encS, List.cons_append, List.nil_append, List.append_nil]
 refine ⟨fun h0 => by grind, fun h0 => ?_⟩
 grind
theorem ce0 (xs : List GStrict) (hw : wfL GStrict.wf xs) (b : Int) (h0 : 0 ≤ b) (h1 : b < 1048577) : Sat Tryz.prog 64 [slV (xs.map GStrict.enc), zD0 b] (zD0 (szR (szL GStrict.size xs) b)) := by
 have hl := hw.1
 simp only [maxLen] at hl
 refine soc zE0 zB0 Tryz.func64 ?_
 simp -implicitDefEqProofs (disch := omega) only [go_sem]
 refine ⟨fun h => ?_, fun h => ?_⟩
 ·have := zQ0 GStrict.size xs
  grind [szR]
 ·refine zA0 (ι := Nat × Int) (fun i => mk 27 [(0, slV (xs.map GStrict.enc)), (5, zD0 i.1), (1, zD0 i.2)] []) (fun i => i.1 ≤ xs.length ∧ i.2 - ((szL GStrict.size (xs.drop i.1) : Int) - (xs.length - i.1)) = b - szL GStrict.size xs ∧ 0 ≤ i.2 ∧ i.2 < 1048577) (fun i => xs.length - i.1) (0, b - xs.length) ?_ ?_ zE0 zB0 (by decide +kernel) ?_
  ·simp; omega
  ·exact lek
  ·rintro ⟨i, c⟩ ⟨hi, hc, hc0, hc1⟩
   simp only at hi hc hc0 hc1
   rcases Nat.lt_or_ge i xs.length with hlt | hge
   ·have hg := zC0 (ec := GStrict.enc) hlt
    have hz := kx0 GStrict.size xs i hlt
    have hz2 := zQ0 GStrict.size (xs.drop (i + 1))
    simp only [List.length_drop] at hz2
    have hx := hw.2 _ (List.getElem_mem hlt)
    generalize xs[i] = x at hg hz hx
    simp -implicitDefEqProofs (disch := omega) only [go_sem, hg, hlt]
    refine CallK.mk (gs0 x hx c hc0 (by omega)) ?_
    simp -implicitDefEqProofs (disch := omega) only [go_sem]
    refine ⟨fun h => ?_, fun h => ⟨(i + 1, szR (GStrict.size x) c), ⟨hlt, ?_⟩, ?_, lek⟩⟩
    ·grind [szR]
    ·grind [szR]
    ·simp only; omega
   ·simp -implicitDefEqProofs (disch := omega) only [go_sem, Nat.not_lt.2 hge]
    rw [List.drop_of_length_le hge] at hc
    simp only [szL] at hc
    grind [szR]
abbrev kN0 : List AC := [sC ⟨⟨[]⟩⟩, iC 0]
theorem cg0 (xs : List GStrict) (hs : szL GStrict.size xs < 1048577) : Sat Tryz.prog 67 [slV (xs.map GStrict.enc)] (slV (xs.map GStrict.enc)) := by
 have hl := zQ0 GStrict.size xs
 refine soc zE0 zB0 Tryz.func67 ?_
 simp -implicitDefEqProofs (disch := omega) only [go_sem]
 refine ⟨⟨by omega, by omega⟩, fun _ => ?_⟩
 refine zA0 (ι := Nat) (fun i => mk 23 [(0, slV (xs.map GStrict.enc)), (3, .one (.own 7 xs.length)), (4, zD0 i)] [(7, .arr 116 2 (qY0 GStrict.enc kN0 xs i) false)]) (fun i => i ≤ xs.length) (fun i => xs.length - i) 0 (Nat.zero_le _) ?_ zE0 zB0 (by decide +kernel) ?_
 ·exact zG0 (by simp [go_sem]) (by simp [go_sem, qx0, List.mem_replicate])
 ·intro i hi
  have hlen := wg0 (ec := GStrict.enc) (z := kN0) hi
  rcases Nat.lt_or_ge i xs.length with hlt | hge
  ·have hg := zC0 (ec := GStrict.enc) hlt
   have hr := wf0 (ec := GStrict.enc) (z := kN0) hlt
   have hset := wh0 (ec := GStrict.enc) (z := kN0) hlt
   have hm := qT0 GStrict.size xs _ (List.getElem_mem hlt)
   simp -implicitDefEqProofs (disch := omega) only [go_sem, hg, hlt, hlen]
   refine CallK.mk (gv0 _ (by omega)) ?_
   simp -implicitDefEqProofs (disch := omega) only [go_sem, hlen, hlt, List.length_map, hr, hset]
   refine ⟨by simp [kN0, unD], fun _ => ⟨i + 1, hlt, by omega, zG0 (by simp [go_sem]) ?_⟩⟩
   simp only [leB, qr0, if_true, inB, true_and, and_true]
   exact qv0 (by simp [kN0, inC])
  ·have : i = xs.length := by omega
   subst this
   have hv := qS0 (ec := GStrict.enc) (z := kN0) (Nat.le_refl xs.length)
   simp -implicitDefEqProofs (disch := omega) only [go_sem, hlen, hv, Nat.lt_irrefl]
   exact qw0 (Nat.le_refl _)
theorem bh0 (xs : List GStrict) (hw : wfL GStrict.wf xs) (ys : List GStrict) : Sat Tryz.prog 70 [slV (xs.map GStrict.enc), slV (ys.map GStrict.enc)] (boolV (eqL GStrict.eqb xs ys)) := by
 have hl := hw.1
 simp only [maxLen] at hl
 refine soc zE0 zB0 Tryz.func70 ?_
 simp -implicitDefEqProofs (disch := omega) only [go_sem]
 refine ⟨fun h4 => ?_, fun h4 => ?_⟩
 ·rw [vN0 GStrict.eqb xs ys (by omega)]
 ·have hll : xs.length = ys.length := by simp at h4; omega
  refine zA0 (ι := Nat) (fun i => mk 27 [(0, slV (xs.map GStrict.enc)), (1, slV (ys.map GStrict.enc)), (5, zD0 i)] [])
   (fun i => i ≤ xs.length ∧ eqL GStrict.eqb (xs.drop i) (ys.drop i) = eqL GStrict.eqb xs ys) (fun i => xs.length - i) 0 ⟨Nat.zero_le _, by simp⟩ ?_ zE0 zB0 (by decide +kernel) ?_
  ·exact lek
  ·rintro i ⟨hi, he⟩
   rcases Nat.lt_or_ge i xs.length with hlt | hge
   ·have hlt' : i < ys.length := by omega
    have hg := zC0 (ec := GStrict.enc) hlt
    have hg' := zC0 (ec := GStrict.enc) hlt'
    rw [ka0 GStrict.eqb xs ys i hlt hlt'] at he
    have hx := hw.2 _ (List.getElem_mem hlt)
    generalize xs[i] = x at hg he hx
    generalize ys[i] = y at hg' he
    simp -implicitDefEqProofs (disch := omega) only [go_sem, hg, hg', hlt, hlt']
    refine CallK.mk (dW0 x hx y) ?_
    simp -implicitDefEqProofs (disch := omega) only [go_sem]
    refine ⟨fun h => ?_, fun h => ⟨i + 1, ⟨hlt, ?_⟩, by omega, lek⟩⟩
    ·rw [h] at he; simpa using he
    ·rw [h] at he; simpa using he
   ·have e1 : xs.drop i = [] := List.drop_of_length_le hge
    have e2 : ys.drop i = [] := List.drop_of_length_le (by omega)
    rw [e1, e2] at he
    simp -implicitDefEqProofs (disch := omega) only [go_sem, Nat.not_lt.2 hge]
    rw [← he]; rfl
theorem xg0 (x : GDefinition) (hw : x.wf) (b : Int) (h0 : 0 ≤ b) (h1 : b < 1048577) : Sat Tryz.prog 25 [qA0 x.enc, zD0 b] (zD0 (szR x.size b)) := by
 obtain ⟨r, hr⟩ : ∃ r, r = szR x.size b := ⟨_, rfl⟩
 rw [← hr]
 obtain ⟨⟨xsiso, xsiop⟩, xru, xst⟩ := x
 simp only [GDefinition.wf, GSignature.wf, wfI, wfS, wfB, maxLen] at hw
 simp only [GDefinition.size, szI, szS] at hr
 refine soc zE0 zB0 Tryz.func25 ?_
 simp -implicitDefEqProofs only [go_sem, GDefinition.enc, GSignature.enc, List.append_nil, List.cons_append, List.nil_append, Tm.enc, qe0, zO0, zj0, encS, List.cons_append, List.nil_append, List.append_nil]
 have hb0 : -1 ≤ szR (GSignature.size ⟨xsiso, xsiop⟩) b ∧ szR (GSignature.size ⟨xsiso, xsiop⟩) b ≤ 1048576 := by grind [szR]
 refine CallK.mk (fA0 ⟨xsiso, xsiop⟩ hw.1 b (by grind [szR]) (by grind [szR])) ?_
 simp -implicitDefEqProofs only [go_sem, GDefinition.enc, GSignature.enc, List.append_nil, List.cons_append, List.nil_append, Tm.enc, qe0, zO0, zj0, encS, List.cons_append, List.nil_append, List.append_nil]
 refine ⟨fun h0 => by grind [szR], fun h0 => ?_⟩
 have hb1 : -1 ≤ szR ((szL GRule.size) xru) (szR (GSignature.size ⟨xsiso, xsiop⟩) b) ∧ szR ((szL GRule.size) xru) (szR (GSignature.size ⟨xsiso, xsiop⟩) b) ≤ 1048576 := by grind [szR]
 refine CallK.mk (mx0 xru hw.2.1 (szR (GSignature.size ⟨xsiso, xsiop⟩) b) (by grind [szR]) (by grind [szR])) ?_
 simp -implicitDefEqProofs only [go_sem, GDefinition.enc, GSignature.enc, List.append_nil, List.cons_append, List.nil_append, Tm.enc, qe0, zO0, zj0, encS, List.cons_append, List.nil_append, List.append_nil]
 refine ⟨fun h1 => by grind [szR], fun h1 => ?_⟩
 have hb2 : -1 ≤ szR ((szL GStrict.size) xst) (szR ((szL GRule.size) xru) (szR (GSignature.size ⟨xsiso, xsiop⟩) b)) ∧ szR ((szL GStrict.size) xst) (szR ((szL GRule.size) xru) (szR (GSignature.size ⟨xsiso, xsiop⟩) b)) ≤ 1048576 := by grind [szR]
 refine CallK.mk (ce0 xst hw.2.2 (szR ((szL GRule.size) xru) (szR (GSignature.size ⟨xsiso, xsiop⟩) b)) (by grind [szR]) (by grind [szR])) ?_
 simp -implicitDefEqProofs only [go_sem, GDefinition.enc, GSignature.enc, List.append_nil, List.cons_append, List.nil_append, Tm.enc, qe0, zO0, zj0, encS, List.cons_append, List.nil_append, List.append_nil]
 grind [szR]
theorem wP0 (x : GDefinition) (hs : x.size < 1048577) : Sat Tryz.prog 26 [qA0 x.enc] (qA0 x.enc) := by
 obtain ⟨⟨xsiso, xsiop⟩, xru, xst⟩ := x
 simp only [GDefinition.size, szI, szS] at hs
 refine soc zE0 zB0 Tryz.func26 ?_
 simp -implicitDefEqProofs only [go_sem, GDefinition.enc, GSignature.enc, List.append_nil, List.cons_append, List.nil_append, Tm.enc, qe0, zO0, zj0, encS, List.cons_append, List.nil_append, List.append_nil]
 refine CallK.mk (fD0 ⟨xsiso, xsiop⟩ (by omega)) ?_
 simp -implicitDefEqProofs only [go_sem, GDefinition.enc, GSignature.enc, List.append_nil, List.cons_append, List.nil_append, Tm.enc, qe0, zO0, zj0, encS, List.cons_append, List.nil_append, List.append_nil]
 refine CallK.mk (mz0 xru (by omega)) ?_
 simp -implicitDefEqProofs only [go_sem, GDefinition.enc, GSignature.enc, List.append_nil, List.cons_append, List.nil_append, Tm.enc, qe0, zO0, zj0, encS, List.cons_append, List.nil_append, List.append_nil]
 refine CallK.mk (cg0 xst (by omega)) ?_
 simp -implicitDefEqProofs only [go_sem, GDefinition.enc, GSignature.enc, List.append_nil, List.cons_append, List.nil_append, Tm.enc, qe0, zO0, zj0, encS, List.cons_append, List.nil_append, List.append_nil]
 rfl
theorem xR0 (x : GDefinition) (hw : x.wf) (y : GDefinition) : Sat Tryz.prog 27 [qA0 x.enc, qA0 y.enc] (boolV (x.eqb y)) := by
 obtain ⟨r, hr⟩ : ∃ r, r = x.eqb y := ⟨_, rfl⟩
 rw [← hr]
 obtain ⟨⟨xsiso, xsiop⟩, xru, xst⟩ := x
 obtain ⟨⟨ysiso, ysiop⟩, yru, yst⟩ := y
 simp only [GDefinition.wf] at hw
 simp only [GDefinition.eqb, eqI, eqS, eqB] at hr
 refine soc zE0 zB0 Tryz.func27 ?_
 simp -implicitDefEqProofs only [go_sem, GDefinition.enc, GSignature.enc, List.append_nil, List.cons_append, List.nil_append, Tm.enc, qe0, zO0, zj0, encS, List.cons_append, List.nil_append, List.append_nil]
 refine CallK.mk (pH0 ⟨xsiso, xsiop⟩ hw.1 ⟨ysiso, ysiop⟩) ?_
 simp -implicitDefEqProofs only [go_sem, GDefinition.enc, GSignature.enc, List.append_nil, List.cons_append, List.nil_append, Tm.enc, qe0, zO0, zj0, encS, List.cons_append, List.nil_append, List.append_nil]
 refine ⟨fun h0 => by grind, fun h0 => ?_⟩
 refine CallK.mk (lz0 xru hw.2.1 yru) ?_
 simp -implicitDefEqProofs only [go_sem, GDefinition.enc, GSignature.enc, List.append_nil, List.cons_append, List.nil_append, Tm.enc, qe0, zO0, zj0, encS, List.cons_append, List.nil_append, List.append_nil]
 refine ⟨fun h1 => by grind, fun h1 => ?_⟩
 refine CallK.mk (bh0 xst hw.2.2 yst) ?_
 simp -implicitDefEqProofs only [go_sem, GDefinition.enc, GSignature.enc, List.append_nil, List.cons_append, List.nil_append, Tm.enc, qe0, zO0, zj0, encS, List.cons_append, List.nil_append, List.append_nil]
 grind
end Go.Ai
