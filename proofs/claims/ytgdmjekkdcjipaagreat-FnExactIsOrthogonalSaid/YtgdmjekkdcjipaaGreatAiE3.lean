/- EqualDefinition. -/
import Derived.Test.YtgdmjekkdcjipaaGreatAiD1
import Derived.Test.YtgdmjekkdcjipaaGreatAiG1
set_option linter.unusedVariables false
set_option linter.unusedSimpArgs false
namespace Go.Ai
open Go.Proofs
set_option maxRecDepth 100000
def zk0 (st : List GStrict) (op : ByteArray) : List Int := (st.filter (fun s => s.op.toList == op.toList)).map (·.ar)
theorem kw0 (st : List GStrict) (op : ByteArray) (i : Nat) (h : i < st.length) : zk0 (st.take (i + 1)) op = zk0 (st.take i) op ++ (if st[i].op.toList = op.toList then [st[i].ar] else []) := by
 unfold zk0
 rw [List.take_add_one, List.getElem?_eq_getElem h]
 simp only [Option.toList, List.filter_append, List.map_append]
 congr 1
 by_cases e : st[i].op.toList = op.toList <;> simp [e]
theorem yE0 (st : List GStrict) (op : ByteArray) (i : Nat) : (zk0 (st.take i) op).length ≤ st.length := by
 unfold zk0
 rw [List.length_map]
 refine Nat.le_trans (List.length_filter_le _ _) ?_
 rw [List.length_take]; omega
theorem ks0 (x : GDefinition) (hs : x.st.length < 1048577) (op : ByteArray) : Sat Tryz.prog 61 [qA0 x.enc, ql0 op] (slV ((zk0 x.st op).map zO0)) := by
 obtain ⟨r, hr⟩ : ∃ r, r = zk0 x.st op := ⟨_, rfl⟩
 rw [← hr]
 obtain ⟨⟨so, ops⟩, ru, st⟩ := x
 simp only at hs hr
 refine soc zE0 zB0 Tryz.func61 ?_
 simp -implicitDefEqProofs (disch := omega) only [go_sem, GDefinition.enc, GSignature.enc, zj0, List.cons_append, List.nil_append, List.append_nil]
 refine zA0 (ι := Nat) (fun i => mk 33 [(2, .one (.ptr 2 0)), (1, ql0 op), (5, .one (.own 7 (zk0 (st.take i) op).length)), (6, zD0 i)] [(2, .var [.c (.sl (so.map encS)), .c (.sl (ops.map GOp.enc)), .c (.sl (ru.map GRule.enc)), .c (.sl (st.map GStrict.enc))]), (7, .arr 3 1 (rowsOf zO0 (zk0 (st.take i) op)) false)])
  (fun i => i ≤ st.length) (fun i => st.length - i) 0 (Nat.zero_le _) ?_ zE0 zB0 (by decide +kernel) ?_
 ·exact zG0 (by simp [go_sem, zk0]) (by simp [go_sem, zk0, rowsOf])
 ·intro i hi
  have hln := yE0 st op i
  rcases Nat.lt_or_ge i st.length with hlt | hge
  ·have hg := zC0 (ec := GStrict.enc) hlt
   have ht := kw0 st op i hlt
   generalize st[i] = u at hg ht
   obtain ⟨a, b⟩ := u
   simp only [GStrict.enc, encS, zO0, List.cons_append, List.nil_append] at hg
   simp only at ht
   simp -implicitDefEqProofs (disch := omega) only [go_sem, hg, hlt]
   refine ⟨fun h => ⟨⟨by simp, by omega, by omega⟩, fun _ => ⟨i + 1, hlt, by omega, zG0 ?_ ?_⟩⟩, fun h => ⟨i + 1, hlt, by omega, zG0 ?_ ?_⟩⟩
   ·rw [if_pos h] at ht; simp [go_sem, ht]
   ·rw [if_pos h] at ht; simp [go_sem, ht]; exact zq0 b
   ·rw [if_neg (by simpa using h), List.append_nil] at ht; simp [go_sem, ht]
   ·rw [if_neg (by simpa using h), List.append_nil] at ht; simp [go_sem, ht]
  ·have : i = st.length := by omega
   subst this
   simp -implicitDefEqProofs (disch := omega) only [go_sem, Nat.lt_irrefl, List.take_length, hr]
theorem ke0 (x : GDefinition) (hs : x.st.length < 1048577) (op : ByteArray) : Sat Tryz.prog 122 [qA0 x.enc, ql0 op] (slV ((zk0 x.st op).map zO0)) := by
 obtain ⟨r, hr⟩ : ∃ r, r = zk0 x.st op := ⟨_, rfl⟩
 rw [← hr]
 obtain ⟨⟨so, ops⟩, ru, st⟩ := x
 simp only at hs hr
 refine soc zE0 zB0 Tryz.func122 ?_
 simp -implicitDefEqProofs (disch := omega) only [go_sem, GDefinition.enc, GSignature.enc, zj0, List.cons_append, List.nil_append, List.append_nil]
 refine zA0 (ι := Nat) (fun i => match zk0 (st.take i) op with
   | [] => mk 26 [(9, slV (st.map GStrict.enc)), (1, ql0 op), (5, .one .nil), (10, zD0 st.length), (11, zD0 i)] []
   | q :: qs => mk 26 [(9, slV (st.map GStrict.enc)), (1, ql0 op), (5, .one (.own 23 (q :: qs).length)), (10, zD0 st.length), (11, zD0 i)] [(23, .arr 3 1 (rowsOf zO0 (q :: qs)) false)])
  (fun i => i ≤ st.length) (fun i => st.length - i) 0 (Nat.zero_le _) ?_ zE0 zB0 (by decide +kernel) ?_
 ·exact lek
 ·intro i hi
  have hln := yE0 st op i
  rcases Nat.lt_or_ge i st.length with hlt | hge
  ·have hg := zC0 (ec := GStrict.enc) hlt
   have ht := kw0 st op i hlt
   generalize st[i] = u at hg ht
   obtain ⟨a, b⟩ := u
   simp only [GStrict.enc, encS, zO0, List.cons_append, List.nil_append] at hg
   simp only at ht
   generalize zk0 (st.take i) op = acc at ht hln
   cases acc with
   | nil =>
    simp -implicitDefEqProofs (disch := omega) only [go_sem, hg, hlt]
    refine ⟨fun h => ⟨by simp, fun _ => ⟨i + 1, hlt, by omega, ?_⟩⟩, fun h => ⟨i + 1, hlt, by omega, ?_⟩⟩
    ·rw [if_pos h] at ht
     rw [ht]
     exact zG0 (by simp [go_sem]) (by simp [go_sem, rowsOf, zO0])
    ·rw [if_neg (by simpa using h)] at ht
     rw [ht]
     exact lek
   | cons q qs =>
    simp -implicitDefEqProofs (disch := omega) only [go_sem, hg, hlt]
    simp only [List.length_cons] at hln
    refine ⟨fun h => ⟨⟨by simp, by omega, by omega⟩, fun _ => ⟨i + 1, hlt, by omega, ?_⟩⟩, fun h => ⟨i + 1, hlt, by omega, ?_⟩⟩
    ·rw [if_pos h] at ht
     rw [ht]
     exact zG0 (by simp [go_sem]) (by simp [go_sem]; exact zq0 b)
    ·rw [if_neg (by simpa using h), List.append_nil] at ht
     rw [ht]
     exact lek
  ·have : i = st.length := by omega
   subst this
   rw [List.take_length, ← hr]
   cases r with
   | nil => simp -implicitDefEqProofs (disch := omega) only [go_sem, Nat.lt_irrefl]
   | cons q qs => simp -implicitDefEqProofs (disch := omega) only [go_sem, Nat.lt_irrefl]
end Go.Ai
namespace Go.Ai
open Go.Proofs
set_option maxRecDepth 100000
def ne0 (xs : List Int) (n : Int) : Bool := xs.any (· == n)
theorem zk1 (xs : List Int) (n : Int) (i : Nat) (h : i < xs.length) : ne0 (xs.drop i) n = (xs[i] == n || ne0 (xs.drop (i + 1)) n) := by
 unfold ne0; rw [List.drop_eq_getElem_cons h]; simp only [List.any_cons]
theorem dx0 (xs : List Int) (hl : xs.length ≤ maxLen) (n : Int) : Sat Tryz.prog 60 [slV (xs.map zO0), zD0 n] (boolV (ne0 xs n)) := by
 simp only [maxLen] at hl
 refine soc zE0 zB0 Tryz.func60 ?_
 simp -implicitDefEqProofs (disch := omega) only [go_sem]
 refine zA0 (ι := Nat) (fun i => mk 18 [(0, slV (xs.map zO0)), (1, zD0 n), (5, zD0 i)] []) (fun i => i ≤ xs.length ∧ ne0 (xs.drop i) n = ne0 xs n) (fun i => xs.length - i) 0 ⟨Nat.zero_le _, by simp⟩ ?_ zE0 zB0 (by decide +kernel) ?_
 ·exact lek
 ·rintro i ⟨hi, he⟩
  rcases Nat.lt_or_ge i xs.length with hlt | hge
  ·have hg := zC0 (ec := zO0) hlt
   rw [zk1 xs n i hlt] at he
   generalize xs[i] = x at hg he
   simp only [zO0] at hg
   simp -implicitDefEqProofs (disch := omega) only [go_sem, hg, hlt]
   refine ⟨fun h => by grind, fun h => ⟨i + 1, ⟨hlt, by grind⟩, by omega, lek⟩⟩
  ·have e1 : xs.drop i = [] := List.drop_of_length_le hge
   rw [e1] at he
   simp -implicitDefEqProofs (disch := omega) only [go_sem, Nat.not_lt.2 hge]
   rw [← he]; rfl
def wb1 (n : Int) : List Int → Int → Int
 | [], _ => -1
 | x :: xs, k => if n = x then k else wb1 n xs (k + 1)
theorem zm1 (xs : List Int) (n : Int) (i : Nat) (h : i < xs.length) (k : Int) : wb1 n (xs.drop i) k = if n = xs[i] then k else wb1 n (xs.drop (i + 1)) (k + 1) := by
 rw [List.drop_eq_getElem_cons h]; simp only [wb1]
theorem nh0 (n : Int) : ∀ (xs : List Int) (k : Int), 0 ≤ k → decide (0 ≤ wb1 n xs k) = ne0 xs n
 | [], k, _ => by simp [wb1, ne0]
 | x :: xs, k, hk => by
  have := nh0 n xs (k + 1) (by omega)
  simp only [wb1, ne0, List.any_cons] at this ⊢
  split
  ·rename_i h; subst h; simp [hk]
  ·rename_i h
   have : (x == n) = false := by simpa using fun e => h e.symm
   simp_all
theorem pr0 (xs : List Int) (hl : xs.length ≤ maxLen) (n : Int) : Sat Tryz.prog 121 [slV (xs.map zO0), zD0 n] (zD0 (wb1 n xs 0)) := by
 simp only [maxLen] at hl
 refine soc zE0 zB0 Tryz.func121 ?_
 simp -implicitDefEqProofs (disch := omega) only [go_sem]
 refine zA0 (ι := Nat) (fun i => mk 19 [(0, slV (xs.map zO0)), (1, zD0 n), (7, zD0 xs.length), (8, zD0 i)] []) (fun i => i ≤ xs.length ∧ wb1 n (xs.drop i) i = wb1 n xs 0) (fun i => xs.length - i) 0 ⟨Nat.zero_le _, by simp⟩ ?_ zE0 zB0 (by decide +kernel) ?_
 ·exact lek
 ·rintro i ⟨hi, he⟩
  rcases Nat.lt_or_ge i xs.length with hlt | hge
  ·have hg := zC0 (ec := zO0) hlt
   rw [zm1 xs n i hlt] at he
   generalize xs[i] = x at hg he
   simp only [zO0] at hg
   simp -implicitDefEqProofs (disch := omega) only [go_sem, hg, hlt]
   refine ⟨fun h => by grind, fun h => ⟨i + 1, ⟨hlt, by grind⟩, by omega, lek⟩⟩
  ·have e1 : xs.drop i = [] := List.drop_of_length_le hge
   rw [e1] at he
   simp -implicitDefEqProofs (disch := omega) only [go_sem, Nat.not_lt.2 hge]
   rw [← he]; rfl
theorem kq0 (xs : List Int) (hl : xs.length ≤ maxLen) (n : Int) : Sat Tryz.prog 57 [slV (xs.map zO0), zD0 n] (boolV (ne0 xs n)) := by
 rw [← nh0 n xs 0 (by omega)]
 refine soc zE0 zB0 Tryz.func57 ?_
 simp -implicitDefEqProofs (disch := omega) only [go_sem]
 refine CallK.mk (pr0 xs hl n) ?_
 simp -implicitDefEqProofs (disch := omega) only [go_sem]
def termAt : Tm → List Int → Option Tm
 | t, [] => some t
 | t, n :: p => if h : 0 ≤ n ∧ n.toNat < t.args.length then termAt (t.args[n.toNat]'h.2) p else none
theorem yX0 (k n : Int) (s : ByteArray) (ts : List Tm) (x : Int) (p : List Int) (h0 : 0 ≤ x) (h : x.toNat < ts.length) : termAt (.mk k n s ts) (x :: p) = termAt (ts[x.toNat]) p := by
 exact (termAt.eq_2 (.mk k n s ts) x p).trans (dif_pos (c := 0 ≤ x ∧ x.toNat < ts.length) ⟨h0, h⟩)
theorem yY0 (k n : Int) (s : ByteArray) (ts : List Tm) (x : Int) (p : List Int) (h : ¬ (0 ≤ x ∧ x.toNat < ts.length)) : termAt (.mk k n s ts) (x :: p) = none := by
 unfold termAt; exact dif_neg h
theorem qy0 (t : Tm) : termAt t [] = some t := by unfold termAt; rfl
def dc1 : Tm := .mk 0 0 ⟨⟨[]⟩⟩ []
theorem jt0 (t : Tm) (hs : t.size < 1048577) (p : List Int) (hp : p.length ≤ maxLen) : Sat Tryz.prog 59 [tmV t, slV (p.map zO0)] (.tup [tmV ((termAt t p).getD dc1), boolV (termAt t p).isSome]) := by
 obtain ⟨r, hr⟩ : ∃ r, r = termAt t p := ⟨_, rfl⟩
 rw [← hr]
 simp only [maxLen] at hp
 obtain ⟨k, n, s, ts⟩ := t
 refine soc zE0 zB0 Tryz.func59 ?_
 simp -implicitDefEqProofs (disch := omega) only [go_sem, Tm.enc]
 refine zA0 (ι := Nat × Tm) (fun i => mk 34 [(1, slV (p.map zO0)), (2, .one (.ptr 2 0)), (4, .one (.ptr 4 0)), (5, boolV false), (6, zD0 i.1)] [(2, .var (i.2.enc.map .c)), (4, .var zT)])
  (fun i => i.1 ≤ p.length ∧ i.2.size < 1048577 ∧ termAt i.2 (p.drop i.1) = r) (fun i => p.length - i.1) (0, .mk k n s ts) ⟨Nat.zero_le _, hs, hr.symm⟩ ?_ zE0 zB0 (by decide +kernel) ?_
 ·exact zG0 (by simp [go_sem]) (by simp [go_sem, Tm.enc, zT])
 ·rintro ⟨i, k, n, s, ts⟩ ⟨hi, hsz, he⟩
  simp only at hi hsz he
  have hlt2 : ts.length < 1048577 := by have := zH0 ts; simp only [Tm.size] at hsz; omega
  rcases Nat.lt_or_ge i p.length with hlt | hge
  ·have hg := zC0 (ec := zO0) hlt
   rw [List.drop_eq_getElem_cons hlt] at he
   generalize p[i] = x at hg he
   simp only [zO0] at hg
   simp -implicitDefEqProofs (disch := omega) only [go_sem, hg, hlt, Tm.enc]
   refine CallK.mk (yi0 _ _ _) ?_
   simp -implicitDefEqProofs (disch := omega) only [go_sem, hg, hlt]
   refine ⟨fun h => ?_, fun h => ?_⟩
   ·rw [yY0 k n s ts x _ (by simp at h; omega)] at he
    subst he
    rfl
   ·simp only [Bool.and_eq_true, decide_eq_true_eq] at h
    have hx : x.toNat < ts.length := by omega
    rw [yX0 k n s ts x _ h.1 hx] at he
    have hq := zF0 ts x.toNat hx
    have hm := zT0 ts _ (List.getElem_mem hx)
    simp only [Tm.size] at hsz
    generalize ts[x.toNat] = u at he hq hm
    refine ⟨⟨h.1, by omega, ?_⟩, fun _ => ?_⟩
    ·rw [hq]; exact enc_len u
    ·simp -implicitDefEqProofs (disch := omega) only [go_sem, hq]
     exact ⟨(i + 1, u), ⟨hlt, by simp only; omega, he⟩, by simp only; omega, zG0 (by simp [go_sem]) (by simp [go_sem, zT])⟩
  ·have e1 : p.drop i = [] := List.drop_of_length_le hge
   rw [e1, qy0] at he
   subst he
   simp -implicitDefEqProofs (disch := omega) only [go_sem, Nat.not_lt.2 hge, Tm.enc]
   refine CallK.mk (jd0 (.mk k n s ts) hsz) ?_
   simp -implicitDefEqProofs (disch := omega) only [go_sem, Tm.enc]
   rfl
def isSP (st : List GStrict) : Tm → List Int → Bool
 | _, [] => true
 | t, x :: p => if h : 0 ≤ x ∧ x.toNat < t.args.length then (match t with | .mk k _ s _ => k == 2 && ne0 (zk0 st s) x) && isSP st (t.args[x.toNat]'h.2) p else false
theorem bu0 (st : List GStrict) (k n : Int) (s : ByteArray) (ts : List Tm) (x : Int) (p : List Int) (h0 : 0 ≤ x) (h : x.toNat < ts.length) : isSP st (.mk k n s ts) (x :: p) = (k == 2 && ne0 (zk0 st s) x && isSP st ts[x.toNat] p) := by
 exact (isSP.eq_2 st (.mk k n s ts) x p).trans (dif_pos (c := 0 ≤ x ∧ x.toNat < ts.length) ⟨h0, h⟩)
theorem kf0 (st : List GStrict) (k n : Int) (s : ByteArray) (ts : List Tm) (x : Int) (p : List Int) (h : ¬ (0 ≤ x ∧ x.toNat < ts.length)) : isSP st (.mk k n s ts) (x :: p) = false := by
 exact (isSP.eq_2 st (.mk k n s ts) x p).trans (dif_neg (c := 0 ≤ x ∧ x.toNat < ts.length) h)
theorem nn0 (st : List GStrict) (t : Tm) : isSP st t [] = true := by unfold isSP; rfl
theorem yr0 : ∀ (p : List Int) (t : Tm) (q : List Int), termAt t (p ++ q) = (termAt t p).bind (fun u => termAt u q)
 | [], t, q => by simp [qy0]
 | x :: p, .mk k n s ts, q => by
  by_cases h : 0 ≤ x ∧ x.toNat < ts.length
  ·rw [List.cons_append, yX0 k n s ts x _ h.1 h.2, yX0 k n s ts x _ h.1 h.2]; exact yr0 p _ q
  ·rw [List.cons_append, yY0 k n s ts x _ h, yY0 k n s ts x _ h]; rfl
theorem fB0 : ∀ (p : List Int) (t u : Tm), termAt t p = some u → u.size ≤ t.size
 | [], t, u, h => by rw [qy0] at h; obtain rfl := Option.some.inj h; exact Nat.le_refl _
 | x :: p, .mk k n s ts, u, h => by
  by_cases hh : 0 ≤ x ∧ x.toNat < ts.length
  ·rw [yX0 k n s ts x _ hh.1 hh.2] at h
   have := fB0 p _ u h
   have := zT0 ts _ (List.getElem_mem hh.2)
   simp only [Tm.size]; omega
  ·rw [yY0 k n s ts x _ hh] at h; cases h
theorem xY0 (d : GDefinition) (hs : d.st.length < 1048577) (k n : Int) (s : ByteArray) (ts : List Tm) : Sat Tryz.prog 58 [qA0 d.enc, tmV (.mk k n s ts)] (slV ((if k = 2 then zk0 d.st s else []).map zO0)) := by
 obtain ⟨r, hr⟩ : ∃ r, r = (if k = 2 then zk0 d.st s else []) := ⟨_, rfl⟩
 rw [← hr]
 have hlen : d.enc.length = 4 := GDefinition.enc_len d
 refine soc zE0 zB0 Tryz.func58 ?_
 obtain ⟨⟨so, ops⟩, ru, st⟩ := d
 simp -implicitDefEqProofs only [go_sem, GDefinition.enc, GSignature.enc, zj0, Tm.enc, List.cons_append, List.nil_append, List.append_nil]
 refine ⟨fun h => ?_, fun h => ?_⟩
 ·rw [hr, if_neg h]; rfl
 ·have h : k = 2 := by simpa using h
  refine CallK.mk (ke0 ⟨⟨so, ops⟩, ru, st⟩ hs s) ?_
  simp -implicitDefEqProofs only [go_sem]
  rw [hr, if_pos h]
theorem dl0 (d : GDefinition) (hs : d.st.length < 1048577) (t : Tm) (hw : t.size < 1048577) (p : List Int) (hp : p.length ≤ maxLen) : Sat Tryz.prog 23 [qA0 d.enc, tmV t, slV (p.map zO0)] (boolV (isSP d.st t p)) := by
 obtain ⟨r, hr⟩ : ∃ r, r = isSP d.st t p := ⟨_, rfl⟩
 rw [← hr]
 simp only [maxLen] at hp
 obtain ⟨k, n, s, ts⟩ := t
 refine soc zE0 zB0 Tryz.func23 ?_
 simp -implicitDefEqProofs (disch := omega) only [go_sem, Tm.enc]
 refine zA0 (ι := Nat × Tm) (fun i => mk 38 [(3, .one (.ptr 3 0)), (4, .one (.ptr 4 0)), (9, slV (p.map zO0)), (10, zD0 p.length), (11, zD0 i.1)] [(3, .var (d.enc.map .c)), (4, .var (i.2.enc.map .c))])
  (fun i => i.1 ≤ p.length ∧ i.2.size < 1048577 ∧ isSP d.st i.2 (p.drop i.1) = r) (fun i => p.length - i.1) (0, .mk k n s ts) ⟨Nat.zero_le _, hw, hr.symm⟩ ?_ zE0 zB0 (by decide +kernel) ?_
 ·exact zG0 (by simp [go_sem]) (by simp [go_sem, Tm.enc])
 ·rintro ⟨i, k, n, s, ts⟩ ⟨hi, hsz, he⟩
  simp only at hi hsz he
  have hlt2 : ts.length < 1048577 := by have := zH0 ts; simp only [Tm.size] at hsz; omega
  rcases Nat.lt_or_ge i p.length with hlt | hge
  ·have hg := zC0 (ec := zO0) hlt
   rw [List.drop_eq_getElem_cons hlt] at he
   generalize p[i] = x at hg he
   simp only [zO0] at hg
   simp -implicitDefEqProofs (disch := omega) only [go_sem, hg, hlt, Tm.enc]
   refine ⟨fun h1 => ⟨fun h2 => ?_, fun h2 => ?_⟩, fun h1 => ?_⟩
   ·have hx0 : 0 ≤ x := by omega
    have hx : x.toNat < ts.length := by omega
    rw [bu0 d.st k n s ts x _ hx0 hx] at he
    refine CallK.mk (xY0 d hs k n s ts) ?_
    simp -implicitDefEqProofs (disch := omega) only [go_sem]
    refine CallK.mk (kq0 _ ?_ x) ?_
    ·have := yE0 d.st s d.st.length
     rw [List.take_length] at this
     simp only [maxLen]
     split
     ·omega
     ·simp
    simp -implicitDefEqProofs (disch := omega) only [go_sem]
    have hq := zF0 ts x.toNat hx
    have hm := zT0 ts _ (List.getElem_mem hx)
    simp only [Tm.size] at hsz
    generalize ts[x.toNat] = u at he hq hm
    refine ⟨fun h3 => ?_, fun h3 => ?_⟩
    ·rw [← he]
     by_cases e : k = 2
     ·rw [if_pos e] at h3; simp [h3]
     ·simp [e]
    ·have hk : k = 2 ∧ ne0 (zk0 d.st s) x = true := by
      by_cases e : k = 2
      ·rw [if_pos e] at h3; exact ⟨e, h3⟩
      ·rw [if_neg e] at h3; simp [ne0] at h3
     rw [hk.1, hk.2] at he
     refine ⟨⟨hx0, by omega, ?_⟩, fun _ => ?_⟩
     ·rw [hq]; exact enc_len u
     ·simp -implicitDefEqProofs (disch := omega) only [go_sem, hq]
      exact ⟨(i + 1, u), ⟨hlt, by simp only; omega, by simpa using he⟩, by simp only; omega, lek⟩
   ·rw [← he, kf0 d.st k n s ts x _ (by omega)]
   ·rw [← he, kf0 d.st k n s ts x _ (by omega)]
  ·have e1 : p.drop i = [] := List.drop_of_length_le hge
   rw [e1, nn0] at he
   subst he
   simp -implicitDefEqProofs (disch := omega) only [go_sem, Nat.not_lt.2 hge, Tm.enc]
theorem gd0 (d : GDefinition) (hs : d.st.length < 1048577) (t : Tm) (hw : t.size < 1048577) (p : List Int) (hp : p.length ≤ maxLen) : Sat Tryz.prog 24 [qA0 d.enc, tmV t, slV (p.map zO0)] (boolV (isSP d.st t p)) := by
 obtain ⟨r, hr⟩ : ∃ r, r = isSP d.st t p := ⟨_, rfl⟩
 rw [← hr]
 have hp' := hp
 simp only [maxLen] at hp
 refine soc zE0 zB0 Tryz.func24 ?_
 simp -implicitDefEqProofs (disch := omega) only [go_sem]
 refine zA0 (ι := Nat) (fun i => mk 52 [(2, slV (p.map zO0)), (3, .one (.ptr 3 0)), (4, .one (.ptr 4 0)), (7, zD0 i)] [(3, .var (d.enc.map .c)), (4, .var (t.enc.map .c))])
  (fun i => i ≤ p.length ∧ (∀ u, termAt t (p.take i) = some u → isSP d.st u (p.drop i) = r) ∧ (termAt t (p.take i) = none → r = false)) (fun i => p.length - i) 0 ⟨Nat.zero_le _, fun u hu => by rw [List.take_zero, qy0] at hu; obtain rfl := Option.some.inj hu; exact hr.symm, fun hu => by rw [List.take_zero, qy0] at hu; cases hu⟩ ?_ zE0 zB0 (by decide +kernel) ?_
 ·exact lek
 ·rintro i ⟨hi, he, hn⟩
  rcases Nat.lt_or_ge i p.length with hlt | hge
  ·have hg := zC0 (ec := zO0) hlt
   have htk : p.take (i + 1) = p.take i ++ [p[i]] := by rw [List.take_add_one, List.getElem?_eq_getElem hlt]; rfl
   have hlen : (p.take i).length ≤ maxLen := by rw [List.length_take]; omega
   have hdrop := List.drop_eq_getElem_cons hlt
   simp -implicitDefEqProofs (disch := omega) only [go_sem, hlt]
   refine ⟨⟨hi, by simp [zO0]⟩, fun _ => ?_⟩
   rw [← List.map_take]
   refine CallK.mk (jt0 t hw (p.take i) hlen) ?_
   generalize p[i] = x at hg htk hdrop
   simp only [zO0] at hg
   cases hta : termAt t (p.take i) with
   | none =>
    have := hn hta
    subst this
    simp only [Option.getD_none, Option.isSome_none, dc1, Tm.enc, List.map_cons, List.map_nil]
    simp -implicitDefEqProofs (disch := omega) only [go_sem, hg, hlt]
   | some u =>
    have hu := he u hta
    have hus := fB0 _ _ _ hta
    obtain ⟨k, n, s, ts⟩ := u
    simp only [Option.getD_some, Option.isSome_some]
    simp -implicitDefEqProofs (disch := omega) only [go_sem, hg, hlt, Tm.enc]
    rw [hdrop] at hu
    refine ⟨fun h1 => ?_, fun h1 => ?_⟩
    ·have hk : k = 2 := by simpa using h1
     refine CallK.mk (ks0 d hs s) ?_
     simp -implicitDefEqProofs (disch := omega) only [go_sem, hg, hlt]
     have hsl := yE0 d.st s d.st.length
     rw [List.take_length] at hsl
     refine CallK.mk (dx0 _ (by simp only [maxLen]; omega) x) ?_
     simp -implicitDefEqProofs (disch := omega) only [go_sem]
     refine ⟨fun h2 => ?_, fun h2 => ⟨i + 1, ⟨hlt, fun u hq => ?_, fun hq => ?_⟩, by omega, lek⟩⟩
     ·rw [← hu]
      by_cases hx : 0 ≤ x ∧ x.toNat < ts.length
      ·rw [bu0 d.st k n s ts x _ hx.1 hx.2, h2]; simp
      ·rw [kf0 d.st k n s ts x _ hx]
     ·rw [htk, yr0, hta, Option.bind_some] at hq
      by_cases hx : 0 ≤ x ∧ x.toNat < ts.length
      ·rw [yX0 k n s ts x _ hx.1 hx.2, qy0] at hq
       obtain rfl := Option.some.inj hq
       rw [← hu, bu0 d.st k n s ts x _ hx.1 hx.2, h2, hk]; simp
      ·rw [yY0 k n s ts x _ hx] at hq; cases hq
     ·rw [htk, yr0, hta, Option.bind_some] at hq
      by_cases hx : 0 ≤ x ∧ x.toNat < ts.length
      ·rw [yX0 k n s ts x _ hx.1 hx.2, qy0] at hq; cases hq
      ·rw [← hu, kf0 d.st k n s ts x _ hx]
    ·rw [← hu]
     by_cases hx : 0 ≤ x ∧ x.toNat < ts.length
     ·rw [bu0 d.st k n s ts x _ hx.1 hx.2]; simp [h1]
     ·rw [kf0 d.st k n s ts x _ hx]
  ·have : i = p.length := by omega
   subst this
   rw [List.take_length] at he hn
   simp -implicitDefEqProofs (disch := omega) only [go_sem, Nat.lt_irrefl]
   refine CallK.mk (jt0 t hw p hp') ?_
   simp -implicitDefEqProofs (disch := omega) only [go_sem]
   cases hta : termAt t p with
   | none => rw [hn hta]; rfl
   | some u =>
    have := he u hta
    rw [List.drop_length, nn0] at this
    rw [← this]; rfl
end Go.Ai
