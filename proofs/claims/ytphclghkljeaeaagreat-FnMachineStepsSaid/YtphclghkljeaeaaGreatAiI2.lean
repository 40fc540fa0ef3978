/- Words: isWord, builtins, what they compute; ReduceWords. -/
import Derived.Test.YtphclghkljeaeaaGreatAiG1
import Derived.Test.YtphclghkljeaeaaGreatAiV2
set_option linter.unusedVariables false
set_option linter.unusedSimpArgs false
namespace Go.Ai
open Go.Proofs
set_option maxRecDepth 100000
def zf1 : ByteArray := ⟨#[112, 108, 117, 115]⟩
def cC0 : ByteArray := ⟨#[109, 105, 110, 117, 115]⟩
def yd1 : ByteArray := ⟨#[116, 105, 109, 101, 115]⟩
def pr0 (s : ByteArray) : Bool := eqS s zf1 || eqS s cC0 || eqS s yd1
theorem ze0 (s : ByteArray) : Sat Tryz.prog 207 [qg0 s] (boolV (pr0 s)) := by
 obtain ⟨r, hr⟩ : ∃ r, r = pr0 s := ⟨_, rfl⟩
 rw [← hr]
 simp only [pr0, eqS, zf1, cC0, yd1] at hr
 refine soc zE0 zA0 Tryz.func207 ?_
 refine zr0 ?_
 grind
theorem zW0 (s : ByteArray) : Sat Tryz.prog 188 [qg0 s] (boolV (pr0 s)) := by
 obtain ⟨r, hr⟩ : ∃ r, r = pr0 s := ⟨_, rfl⟩
 rw [← hr]
 simp only [pr0, eqS, zf1, cC0, yd1] at hr
 refine soc zE0 zA0 Tryz.func188 ?_
 refine zr0 ?_
 grind
def ps0 : Tm → Bool
 | .mk k n s ts => k == 3 && decide (0 ≤ n) && decide (n < 4) && eqS s ⟨#[]⟩ && (ts.length == 0)
theorem wm0 (t : Tm) (h : t.size < 100000000) : Sat Tryz.prog 213 [tmV t] (boolV (ps0 t)) := by
 obtain ⟨r, hr⟩ : ∃ r, r = ps0 t := ⟨_, rfl⟩
 rw [← hr]
 obtain ⟨k, n, s, ts⟩ := t
 have hl : ts.length < 100000000 := by have := zI0 ts; simp only [Tm.size] at h; omega
 simp only [ps0, eqS] at hr
 refine soc zE0 zA0 Tryz.func213 ?_
 refine fC0 ?_
 refine ⟨fun h1 => CallK.mk (yD0 n 0 3) ?_, fun h1 => by grind⟩
 have hz : ((ts.length : Int) == 0) = (ts.length == 0) := by cases ts <;> simp <;> omega
 simp -implicitDefEqProofs only [go_sem, Tm.enc, enc_len, hz]
 grind
theorem qE0 (t : Tm) (h : t.size < 100000000) : Sat Tryz.prog 217 [tmV t] (boolV (ps0 t)) := by
 obtain ⟨r, hr⟩ : ∃ r, r = ps0 t := ⟨_, rfl⟩
 rw [← hr]
 obtain ⟨k, n, s, ts⟩ := t
 have hl : ts.length < 100000000 := by have := zI0 ts; simp only [Tm.size] at h; omega
 simp only [ps0, eqS] at hr
 have hz : ((ts.length : Int) == 0) = (ts.length == 0) := by cases ts <;> simp <;> omega
 refine soc zE0 zA0 Tryz.func217 ?_
 simp -implicitDefEqProofs only [go_sem, Tm.enc, enc_len, hz]
 grind
def opW (s : ByteArray) (a b : Int) : Int := if eqS s zf1 then (a + b) % 4 else if eqS s cC0 then (a - b + 4) % 4 else a * b % 4
theorem pw1 (a b : Int) (ha : 0 ≤ a ∧ a < 4) (hb : 0 ≤ b ∧ b < 4) : (IntKind.i64.wrap ((a + b).tmod 4 + 4)).tmod 4 = (a + b) % 4 ∧ (IntKind.i64.wrap ((a - b).tmod 4 + 4)).tmod 4 = (a - b + 4) % 4 ∧
  (IntKind.i64.wrap ((IntKind.i64.wrap (a * b)).tmod 4 + 4)).tmod 4 = a * b % 4 ∧ (a + b).tmod 4 = (a + b) % 4 ∧ (a - b + 4).tmod 4 = (a - b + 4) % 4 ∧ (IntKind.i64.wrap (a * b)).tmod 4 = a * b % 4 := by
 have h1 : a = 0 ∨ a = 1 ∨ a = 2 ∨ a = 3 := by omega
 have h2 : b = 0 ∨ b = 1 ∨ b = 2 ∨ b = 3 := by omega
 rcases h1 with rfl | rfl | rfl | rfl <;> rcases h2 with rfl | rfl | rfl | rfl <;> decide +kernel
theorem zm1 (s : ByteArray) (a b : Int) (ha : 0 ≤ a ∧ a < 4) (hb : 0 ≤ b ∧ b < 4) : Sat Tryz.prog 214 [qg0 s, zH0 a, zH0 b] (zH0 (opW s a b)) := by
 obtain ⟨r, hr⟩ : ∃ r, r = opW s a b := ⟨_, rfl⟩
 rw [← hr]
 simp only [opW, eqS, zf1, cC0] at hr
 obtain ⟨e1, e2, e3, e4, e5, e6⟩ := pw1 a b ha hb
 refine soc zE0 zA0 Tryz.func214 ?_
 simp -implicitDefEqProofs (disch := omega) only [go_sem, e1, e2, e3]
 grind
theorem pl0 (s : ByteArray) (a b : Int) (ha : 0 ≤ a ∧ a < 4) (hb : 0 ≤ b ∧ b < 4) : Sat Tryz.prog 244 [qg0 s, zH0 a, zH0 b] (zH0 (opW s a b)) := by
 obtain ⟨r, hr⟩ : ∃ r, r = opW s a b := ⟨_, rfl⟩
 rw [← hr]
 simp only [opW, eqS, zf1, cC0] at hr
 obtain ⟨e1, e2, e3, e4, e5, e6⟩ := pw1 a b ha hb
 refine soc zE0 zA0 Tryz.func244 ?_
 simp -implicitDefEqProofs (disch := omega) only [go_sem, e4, e5, e6]
 grind
def yZ0 (k n : Int) (s : ByteArray) (ts : List Tm) : Tm :=
 match ts with
 | [.mk k1 n1 s1 t1, .mk k2 n2 s2 t2] => if (k == 2 && n == 0 && pr0 s && ps0 (.mk k1 n1 s1 t1) && ps0 (.mk k2 n2 s2 t2)) = true then wordT (opW s n1 n2) else .mk k n s ts
 | _ => .mk k n s ts
mutual
def Tm.red : Tm → Tm
 | .mk k n s ts => yZ0 k n s (Tm.reds ts)
def Tm.reds : List Tm → List Tm
 | [] => []
 | a :: ts => a.red :: Tm.reds ts
end
theorem kM0 : ∀ (ts : List Tm), Tm.reds ts = ts.map Tm.red
 | [] => rfl
 | a :: ts => by simp only [Tm.reds, List.map_cons, kM0 ts]
theorem zt1 (n : Int) : (wordT n).size = 0 := rfl
theorem nf0 (k n : Int) (s : ByteArray) (ts : List Tm) : (yZ0 k n s ts).size ≤ s.size + Tm.sizes ts := by
 unfold yZ0
 split
 ·split
  ·rw [zt1]; omega
  ·simp only [Tm.size]; omega
 ·simp only [Tm.size]; omega
mutual
theorem jZ0 : ∀ (t : Tm), t.red.size ≤ t.size
 | .mk k n s ts => by
  have h1 := nf0 k n s (Tm.reds ts)
  have h2 := reds_size ts
  simp only [Tm.red, Tm.size]; omega
theorem reds_size : ∀ (ts : List Tm), Tm.sizes (Tm.reds ts) ≤ Tm.sizes ts
 | [] => by simp [Tm.reds]
 | a :: ts => by
  have h1 := jZ0 a
  have h2 := reds_size ts
  simp only [Tm.reds, Tm.sizes]; omega
end
theorem pP0 {k n : Int} {s : ByteArray} {ts : List Tm} (h : ps0 (.mk k n s ts) = true) : 0 ≤ n ∧ n < 4 := by
 simp only [ps0, Bool.and_eq_true, decide_eq_true_eq] at h; omega
theorem lg0 (k n : Int) (s : ByteArray) (ts : List Tm) (hl : Tm.sizes ts < 10000000) (ih : ∀ t, t ∈ ts → Sat Tryz.prog 143 [tmV t] (tmV t.red)) : Sat Tryz.prog 143 [tmV (.mk k n s ts)] (tmV (.mk k n s ts : Tm).red) := by
 obtain ⟨r, hr⟩ : ∃ r, r = (.mk k n s ts : Tm).red := ⟨_, rfl⟩
 rw [← hr]
 simp only [Tm.red] at hr
 have hln := zI0 ts
 have hrl : (Tm.reds ts).length = ts.length := by rw [kM0, List.length_map]
 have hrs := reds_size ts
 have hra : ∀ i (h : i < ts.length), (Tm.reds ts)[i]'(by omega) = ts[i].red := fun i h => by simp [kM0]
 obtain ⟨rs, hrs_⟩ : ∃ rs, rs = Tm.reds ts := ⟨_, rfl⟩
 simp only [← hrs_] at hr hrl hra hrs
 refine soc zE0 zA0 Tryz.func143 ?_
 refine jj0 ?_
 refine zB0 (ι := Nat) (fun i => match i with
   | 0 => mk 78 [(1, .one (.ptr 1 0)), (2, .one (.ptr 2 0)), (3, .one (.ptr 3 0)), (4, zH0 (0 : Nat))] [(1, .var [iC k, iC n, sC s, tC ts]), (2, .var zT), (3, .var [iC k, iC n, sC s, .nil])]
   | i + 1 => mk 78 [(1, .one (.ptr 1 0)), (2, .one (.ptr 2 0)), (3, .one (.ptr 3 0)), (4, zH0 (i + 1 : Nat))] [(1, .var [iC k, iC n, sC s, tC ts]), (2, .var zT), (3, .var [iC k, iC n, sC s, .own 28 (i + 1)]), (28, .arr 34 4 (rowsOf Tm.enc (rs.take (i + 1))) false)])
  (fun i => i ≤ ts.length) (fun i => ts.length - i) 0 (Nat.zero_le _) ?_ zE0 zA0 (by decide +kernel) ?_
 ·exact t2'
 ·intro i hi
  rcases Nat.lt_or_ge i ts.length with hlt | hge
  ·have hg := zG0 ts i hlt
   have ht : rs.take (i + 1) = rs.take i ++ [ts[i].red] := by rw [List.take_add_one, List.getElem?_eq_getElem (by omega), hra i hlt]; rfl
   have hih := ih _ (List.getElem_mem hlt)
   cases i with
   | zero =>
    refine xE0 ?_
    refine c0' hih ?_
    simp only [List.take_zero, List.nil_append] at ht
    exact md1
   | succ i =>
    have hdl : (rs.take (i + 1)).length = i + 1 := by rw [List.length_take]; omega
    refine xE0 ?_
    refine CallK.mk hih ?_
    refine dq1 ?_
    exact t6'
  ·have : i = ts.length := by omega
   subst this
   have hlr : ts.length = rs.length := hrl.symm
   clear hra hrs_ ih
   rw [hlr]
   have c0 : ((0 : Nat) : Int) = 0 := rfl
   have c1 : ((1 : Nat) : Int) = 1 := rfl
   have c2 : ((2 : Nat) : Int) = 2 := rfl
   cases rs with
   | nil =>
    simp -implicitDefEqProofs (disch := omega) only [go_sem, hlr, Nat.lt_irrefl, List.length_nil]
    have hfin : AV.agg [iC k, iC n, sC s, .c (.sl (Tm.encs []))] = tmV r := by rw [hr]; rfl
    refine ⟨fun h2 => ⟨fun h0 => CallK.mk (ze0 s) ?_, fun _ => hfin⟩, fun _ => hfin⟩
    refine fk1 ?_
    exact ⟨fun _ => hfin, fun _ => hfin⟩
   | cons a rs =>
    cases rs with
    | nil =>
     refine gD1 ?_
     have hfin : AV.agg [iC k, iC n, sC s, .c (.sl (Tm.encs [a]))] = tmV r := by rw [hr]; simp only [yZ0]; rfl
     refine ⟨fun h2 => ⟨fun h0 => CallK.mk (ze0 s) ?_, fun _ => hfin⟩, fun _ => hfin⟩
     refine fk1 ?_
     exact ⟨fun _ => hfin, fun _ => hfin⟩
    | cons b rs =>
     cases rs with
     | nil =>
      obtain ⟨k1, n1, s1, t1⟩ := a
      obtain ⟨k2, n2, s2, t2⟩ := b
      refine gD1 ?_
      have hs1 : (Tm.mk k1 n1 s1 t1).size < 100000000 ∧ (Tm.mk k2 n2 s2 t2).size < 100000000 := by
       simp only [Tm.sizes] at hrs; omega
      have hfin : (k == 2 && n == 0 && pr0 s && ps0 (.mk k1 n1 s1 t1) && ps0 (.mk k2 n2 s2 t2)) = false → AV.agg [iC k, iC n, sC s, .c (.sl (Tm.encs [.mk k1 n1 s1 t1, .mk k2 n2 s2 t2]))] = tmV r := fun hc => by
       rw [hr]; simp only [yZ0, hc]; rfl
      have g0 : (rowsOf Tm.enc [Tm.mk k1 n1 s1 t1, Tm.mk k2 n2 s2 t2]).getD 0 [] = [iC k1, iC n1, sC s1, tC t1] := rfl
      have g1 : (rowsOf Tm.enc [Tm.mk k1 n1 s1 t1, Tm.mk k2 n2 s2 t2]).getD 1 [] = [iC k2, iC n2, sC s2, tC t2] := rfl
      refine ⟨fun h2 => ⟨fun h0 => CallK.mk (ze0 s) ?_, fun h => hfin (by simp [h])⟩, fun h => hfin (by simp [h])⟩
      simp -implicitDefEqProofs (disch := omega) only [go_sem, List.length_nil, List.length_cons, c0, c1, c2, Int.reduceEq, Int.reduceLT, Int.reduceLE, Int.reduceToNat, Int.reduceBEq, g0]
      refine ⟨fun hb => CallK.mk (wm0 _ hs1.1) ?_, fun h => hfin (by simp [h])⟩
      simp -implicitDefEqProofs (disch := omega) only [go_sem, List.length_nil, List.length_cons, c0, c1, c2, Int.reduceEq, Int.reduceLT, Int.reduceLE, Int.reduceToNat, Int.reduceBEq, g1]
      refine ⟨fun hw1 => CallK.mk (wm0 _ hs1.2) ?_, fun h => hfin (by simp [h])⟩
      simp -implicitDefEqProofs (disch := omega) only [go_sem, List.length_nil, List.length_cons, c0, c1, c2, Int.reduceEq, Int.reduceLT, Int.reduceLE, Int.reduceToNat, Int.reduceBEq, g0, g1]
      refine ⟨fun hw2 => ?_, fun h => hfin (by simp [h])⟩
      refine CallK.mk (zm1 s n1 n2 (pP0 hw1) (pP0 hw2)) ?_
      refine fk1 ?_
      refine CallK.mk (l3Word_sat _) ?_
      refine fk1 ?_
      rw [hr]
      simp only [yZ0, h2, h0, hb, hw1, hw2, beq_self_eq_true, Bool.and_self, if_true]
     | cons c rs =>
      have c3 : (((rs.length + 2 + 1 : Nat) : Int) = 2) = False := eq_false (by omega)
      refine gD1 ?_
      have hfin : AV.agg [iC k, iC n, sC s, .c (.sl (Tm.encs (a :: b :: c :: rs)))] = tmV r := by rw [hr]; simp only [yZ0]; rfl
      rw [encs_map] at hfin
      refine ⟨fun h2 => ⟨fun h0 => CallK.mk (ze0 s) ?_, fun _ => hfin⟩, fun _ => hfin⟩
      simp -implicitDefEqProofs (disch := omega) only [go_sem, List.length_nil, List.length_cons, c0, c1, c2, Int.reduceEq, Int.reduceLT, Int.reduceLE, Int.reduceToNat, Int.reduceBEq, c3]
      exact ⟨fun _ _ => hfin, fun _ => hfin⟩
theorem wn0 : ∀ (t : Tm), t.size < 10000000 → Sat Tryz.prog 143 [tmV t] (tmV t.red) := by
 refine Tm.ind (fun k n s ts ih h => lg0 k n s ts ?_ (fun t ht => ih t ht ?_))
 ·simp only [Tm.size] at h; omega
 ·have := zQ0 ts t ht; simp only [Tm.size] at h; omega
theorem ge0 (k n : Int) (s : ByteArray) (ts : List Tm) (hl : Tm.sizes ts < 10000000) (ih : ∀ t, t ∈ ts → SatF Tryz.prog 195 [tmV t] (tmV t.red)) : SatF Tryz.prog 195 [tmV (.mk k n s ts)] (tmV (.mk k n s ts : Tm).red) := by
 obtain ⟨r, hr⟩ : ∃ r, r = (.mk k n s ts : Tm).red := ⟨_, rfl⟩
 rw [← hr]
 simp only [Tm.red] at hr
 have hln := zI0 ts
 have hrl : (Tm.reds ts).length = ts.length := by rw [kM0, List.length_map]
 have hrs := reds_size ts
 have hra : ∀ i (h : i < ts.length), (Tm.reds ts)[i]'(by omega) = ts[i].red := fun i h => by simp [kM0]
 obtain ⟨rs, hrs_⟩ : ∃ rs, rs = Tm.reds ts := ⟨_, rfl⟩
 simp only [← hrs_] at hr hrl hra hrs
 refine sfc [tmV r] rfl (fun _ h => by cases h) zE0 zA0 Tryz.func195 ?_
 refine jj0 ?_
 refine zB0 (ι := Nat) (fun i => match i with
   | 0 => mk 76 [(1, .one (.ptr 1 0)), (2, .one (.ptr 2 0)), (3, .one (.ptr 3 0)), (14, xU0 ts), (15, zH0 ts.length), (16, zH0 (0 : Nat))] [(1, .var [iC k, iC n, sC s, tC ts]), (2, .var zT), (3, .var [iC k, iC n, sC s, .nil])]
   | i + 1 => mk 76 [(1, .one (.ptr 1 0)), (2, .one (.ptr 2 0)), (3, .one (.ptr 3 0)), (14, xU0 ts), (15, zH0 ts.length), (16, zH0 (i + 1 : Nat))] [(1, .var [iC k, iC n, sC s, tC ts]), (2, .var zT), (3, .var [iC k, iC n, sC s, .own 25 (i + 1)]), (25, .arr 34 4 (zV0 Tm.enc (rs.take (i + 1))) false)])
  (fun i => i ≤ ts.length) (fun i => ts.length - i) 0 (Nat.zero_le _) ?_ zE0 zA0 (by decide +kernel) ?_
 ·exact t2'
 ·intro i hi
  rcases Nat.lt_or_ge i ts.length with hlt | hge
  ·have hg := zG0 ts i hlt
   have ht := wG0 Tm.enc rs i (by omega)
   rw [hra i hlt] at ht
   have hih := ih _ (List.getElem_mem hlt)
   generalize ts[i].red = a at hih ht
   obtain ⟨ak, an, as', at_⟩ := a
   simp only [Tm.enc, List.map_cons, List.map_nil, dC] at ht
   cases i with
   | zero =>
    have ht0 := ht.trans (congrArg (· ++ _) (show zV0 Tm.enc (List.take 0 rs) = [] from rfl))
    simp only [List.nil_append, Nat.zero_add] at ht0
    refine xE0 ?_
    refine CallK.own hih rfl ?_
    refine jj0 ?_
    refine ⟨by simp, fun _ => ⟨1, by omega, by omega, (zx0 (l := 25) (c := 3) (rows := []) rfl rfl rfl rfl).trans ?_⟩⟩
    exact fv1
   | succ i =>
    have hdl : (zV0 Tm.enc (rs.take (i + 1))).length = i + 1 := by rw [drowsOf_len, List.length_take]; omega
    refine xE0 ?_
    refine CallK.own hih rfl ?_
    refine pr1 ?_
    refine ⟨⟨by simp, by omega, by omega⟩, fun _ => ⟨i + 2, by omega, by omega, (zx0 (l := 25) (c := 3) rfl rfl rfl rfl).trans ?_⟩⟩
    exact fQ1
  ·have : i = ts.length := by omega
   subst this
   have hlr : ts.length = rs.length := hrl.symm
   clear hra hrs_ ih
   rw [hlr]
   have c0 : ((0 : Nat) : Int) = 0 := rfl
   have c1 : ((1 : Nat) : Int) = 1 := rfl
   have c2 : ((2 : Nat) : Int) = 2 := rfl
   cases rs with
   | nil =>
    have hr' : r = .mk k n s [] := hr
    subst hr'
    simp -implicitDefEqProofs (disch := omega) only [go_sem, hlr, Nat.lt_irrefl, List.length_nil, List.length_cons, c0, c1, c2, Int.reduceEq, Int.reduceLT, Int.reduceLE, Int.reduceToNat, Int.reduceBEq, drowsOf_len, Tm.enc, Tm.encs]
    intro h2 h0
    refine CallK.mk (zW0 s) ?_
    simp -implicitDefEqProofs (disch := omega) only [go_sem, hlr, Nat.lt_irrefl, List.length_nil, List.length_cons, c0, c1, c2, Int.reduceEq, Int.reduceLT, Int.reduceLE, Int.reduceToNat, Int.reduceBEq, drowsOf_len, Tm.enc, Tm.encs]
   | cons a rs =>
    cases rs with
    | nil =>
     have hr' : r = .mk k n s [a] := by rw [hr]; simp only [yZ0]
     subst hr'
     refine gE1 ?_
     intro h2 h0
     refine CallK.mk (zW0 s) ?_
     simp -implicitDefEqProofs (disch := omega) only [go_sem, hlr, Nat.lt_irrefl, List.length_nil, List.length_cons, c0, c1, c2, Int.reduceEq, Int.reduceLT, Int.reduceLE, Int.reduceToNat, Int.reduceBEq, drowsOf_len, List.take_length, Tm.enc, Tm.encs]
    | cons b rs =>
     cases rs with
     | nil =>
      obtain ⟨k1, n1, s1, t1⟩ := a
      obtain ⟨k2, n2, s2, t2⟩ := b
      have hs1 : (Tm.mk k1 n1 s1 t1).size < 100000000 ∧ (Tm.mk k2 n2 s2 t2).size < 100000000 := by
       simp only [Tm.sizes] at hrs; omega
      have g0 : (zV0 Tm.enc [Tm.mk k1 n1 s1 t1, Tm.mk k2 n2 s2 t2]).getD 0 [] = [iC k1, iC n1, sC s1, .d (.sl (Tm.encs t1))] := rfl
      have g1 : (zV0 Tm.enc [Tm.mk k1 n1 s1 t1, Tm.mk k2 n2 s2 t2]).getD 1 [] = [iC k2, iC n2, sC s2, .d (.sl (Tm.encs t2))] := rfl
      by_cases hc : (k == 2 && n == 0 && pr0 s && ps0 (.mk k1 n1 s1 t1) && ps0 (.mk k2 n2 s2 t2)) = true
      ·have hr' : r = wordT (opW s n1 n2) := by rw [hr]; simp only [yZ0, hc, if_true]
       simp only [Bool.and_eq_true, beq_iff_eq] at hc
       obtain ⟨⟨⟨⟨rfl, rfl⟩, hb⟩, hw1⟩, hw2⟩ := hc
       subst hr'
       refine gE1 ?_
       refine CallK.mk (zW0 s) ?_
       refine rt1 ?_
       refine CallK.bor (qE0 (.mk k1 n1 s1 t1) hs1.1) rfl ?_
       simp -implicitDefEqProofs (disch := omega) only [go_sem, List.length_nil, List.length_cons, c0, c1, c2, Int.reduceEq, Int.reduceLT, Int.reduceLE, Int.reduceToNat, Int.reduceBEq, drowsOf_len, g0, g1, hw1]
       refine CallK.bor (qE0 (.mk k2 n2 s2 t2) hs1.2) rfl ?_
       simp -implicitDefEqProofs (disch := omega) only [go_sem, List.length_nil, List.length_cons, c0, c1, c2, Int.reduceEq, Int.reduceLT, Int.reduceLE, Int.reduceToNat, Int.reduceBEq, drowsOf_len, g0, g1, hw1, hw2]
       refine CallK.bor (pl0 s n1 n2 (pP0 hw1) (pP0 hw2)) rfl ?_
       simp -implicitDefEqProofs (disch := omega) only [go_sem, List.length_nil, List.length_cons, c0, c1, c2, Int.reduceEq, Int.reduceLT, Int.reduceLE, Int.reduceToNat, Int.reduceBEq, drowsOf_len, Tm.enc, Tm.encs, wordT]
       rfl
      ·have hr' : r = .mk k n s [.mk k1 n1 s1 t1, .mk k2 n2 s2 t2] := by rw [hr]; simp only [yZ0, hc]; rfl
       subst hr'
       refine gE1 ?_
       intro h2 h0
       refine CallK.mk (zW0 s) ?_
       refine ru1 ?_
       intro hb
       refine CallK.bor (qE0 (.mk k1 n1 s1 t1) hs1.1) rfl ?_
       refine nh1 ?_
       intro hw1
       refine CallK.bor (qE0 (.mk k2 n2 s2 t2) hs1.2) rfl ?_
       refine nh1 ?_
       intro hw2
       exact absurd (by simp [h2, h0, hb, hw1, hw2]) hc
     | cons c rs =>
      have c3 : (((rs.length + 2 + 1 : Nat) : Int) = 2) = False := eq_false (by omega)
      have hr' : r = .mk k n s (a :: b :: c :: rs) := by rw [hr]; simp only [yZ0]
      subst hr'
      simp -implicitDefEqProofs (disch := omega) only [go_sem, hlr, Nat.lt_irrefl, List.length_nil, List.length_cons, c0, c1, c2, Int.reduceEq, Int.reduceLT, Int.reduceLE, Int.reduceToNat, Int.reduceBEq, drowsOf_len, List.take_length, Tm.enc, encs_map, List.map_cons, c3]
      intro h2 h0
      refine CallK.mk (zW0 s) ?_
      simp -implicitDefEqProofs (disch := omega) only [go_sem, hlr, Nat.lt_irrefl, List.length_nil, List.length_cons, c0, c1, c2, Int.reduceEq, Int.reduceLT, Int.reduceLE, Int.reduceToNat, Int.reduceBEq, drowsOf_len, List.take_length, Tm.enc, encs_map, List.map_cons, c3]
theorem yv0 : ∀ (t : Tm), t.size < 10000000 → SatF Tryz.prog 195 [tmV t] (tmV t.red) := by
 refine Tm.ind (fun k n s ts ih h => ge0 k n s ts ?_ (fun t ht => ih t ht ?_))
 ·simp only [Tm.size] at h; omega
 ·have := zQ0 ts t ht; simp only [Tm.size] at h; omega
end Go.Ai
