/- EqualDefinition. -/
import Derived.Test.YtmddjojbaompiaaGreatAiD1
import Derived.Test.YtmddjojbaompiaaGreatAiG1
set_option linter.unusedVariables false
set_option linter.unusedSimpArgs false
namespace Go.Ai
open Go.Proofs
set_option maxRecDepth 100000
end Go.Ai
/- Strict positions. -/
namespace Go.Ai
open Go.Proofs
set_option maxRecDepth 100000
def strictOf (st : List GStrict) (op : ByteArray) : List Int := (st.filter (fun s => s.op.toList == op.toList)).map (·.ar)
theorem strictOf_take (st : List GStrict) (op : ByteArray) (i : Nat) (h : i < st.length) : strictOf (st.take (i + 1)) op = strictOf (st.take i) op ++ (if st[i].op.toList = op.toList then [st[i].ar] else []) := by
 unfold strictOf
 rw [List.take_add_one, List.getElem?_eq_getElem h]
 simp only [Option.toList, List.filter_append, List.map_append]
 congr 1
 by_cases e : st[i].op.toList = op.toList <;> simp [e]
theorem strictOf_len (st : List GStrict) (op : ByteArray) (i : Nat) : (strictOf (st.take i) op).length ≤ st.length := by
 unfold strictOf
 rw [List.length_map]
 refine Nat.le_trans (List.length_filter_le _ _) ?_
 rw [List.length_take]; omega
theorem specStrictArgs_sat (x : GDefinition) (hs : x.st.length < 1048577) (op : ByteArray) : Sat Tryz.prog 22 [aggV x.enc, strV op] (slV ((strictOf x.st op).map encI)) := by
 obtain ⟨r, hr⟩ : ∃ r, r = strictOf x.st op := ⟨_, rfl⟩
 rw [← hr]
 obtain ⟨⟨so, ops⟩, ru, st⟩ := x
 simp only at hs hr
 refine sat_of_code tbOk mixed Tryz.func22 rfl rfl rfl (by decide +kernel) (by decide +kernel) (Nat.le_of_ble_eq_true rfl) ?_
 simp -implicitDefEqProofs (disch := omega) only [go_sem, GDefinition.enc, GSignature.enc, encL, List.cons_append, List.nil_append, List.append_nil]
 refine loopA_rule (ι := Nat) (fun i => mk 33 [(2, .one (.ptr 2 0)), (1, strV op), (5, .one (.own 7 (strictOf (st.take i) op).length)), (6, intV i)] [(2, .var [.c (.sl (so.map encS)), .c (.sl (ops.map GOp.enc)), .c (.sl (ru.map GRule.enc)), .c (.sl (st.map GStrict.enc))]), (7, .arr 3 1 (rowsOf encI (strictOf (st.take i) op)) false)])
  (fun i => i ≤ st.length) (fun i => st.length - i) 0 (Nat.zero_le _) ?_ tbOk mixed (by decide +kernel) ?_
 ·exact le_mk (by simp [go_sem, strictOf]) (by simp [go_sem, strictOf, rowsOf])
 ·intro i hi
  have hln := strictOf_len st op i
  rcases Nat.lt_or_ge i st.length with hlt | hge
  ·have hg := map_getD (ec := GStrict.enc) hlt
   have ht := strictOf_take st op i hlt
   generalize st[i] = u at hg ht
   obtain ⟨a, b⟩ := u
   simp only [GStrict.enc, encS, encI, List.cons_append, List.nil_append] at hg
   simp only at ht
   simp -implicitDefEqProofs (disch := omega) only [go_sem, hg, hlt]
   refine ⟨fun h => ⟨⟨by simp, by omega, by omega⟩, fun _ => ⟨i + 1, hlt, by omega, le_mk ?_ ?_⟩⟩, fun h => ⟨i + 1, hlt, by omega, le_mk ?_ ?_⟩⟩
   ·rw [if_pos h] at ht; simp [go_sem, ht]
   ·rw [if_pos h] at ht; simp [go_sem, ht]; exact rowsOf_snoc b
   ·rw [if_neg (by simpa using h), List.append_nil] at ht; simp [go_sem, ht]
   ·rw [if_neg (by simpa using h), List.append_nil] at ht; simp [go_sem, ht]
  ·have : i = st.length := by omega
   subst this
   simp -implicitDefEqProofs (disch := omega) only [go_sem, Nat.lt_irrefl, List.take_length, hr]
theorem implStrictArgs_sat (x : GDefinition) (hs : x.st.length < 1048577) (op : ByteArray) : Sat Tryz.prog 21 [aggV x.enc, strV op] (slV ((strictOf x.st op).map encI)) := by
 obtain ⟨r, hr⟩ : ∃ r, r = strictOf x.st op := ⟨_, rfl⟩
 rw [← hr]
 obtain ⟨⟨so, ops⟩, ru, st⟩ := x
 simp only at hs hr
 refine sat_of_code tbOk mixed Tryz.func21 rfl rfl rfl (by decide +kernel) (by decide +kernel) (Nat.le_of_ble_eq_true rfl) ?_
 simp -implicitDefEqProofs (disch := omega) only [go_sem, GDefinition.enc, GSignature.enc, encL, List.cons_append, List.nil_append, List.append_nil]
 refine loopA_rule (ι := Nat) (fun i => match strictOf (st.take i) op with
   | [] => mk 26 [(9, slV (st.map GStrict.enc)), (1, strV op), (5, .one .nil), (10, intV st.length), (11, intV i)] []
   | q :: qs => mk 26 [(9, slV (st.map GStrict.enc)), (1, strV op), (5, .one (.own 23 (q :: qs).length)), (10, intV st.length), (11, intV i)] [(23, .arr 3 1 (rowsOf encI (q :: qs)) false)])
  (fun i => i ≤ st.length) (fun i => st.length - i) 0 (Nat.zero_le _) ?_ tbOk mixed (by decide +kernel) ?_
 ·exact le_mk (by simp [go_sem]) (by simp [go_sem])
 ·intro i hi
  have hln := strictOf_len st op i
  rcases Nat.lt_or_ge i st.length with hlt | hge
  ·have hg := map_getD (ec := GStrict.enc) hlt
   have ht := strictOf_take st op i hlt
   generalize st[i] = u at hg ht
   obtain ⟨a, b⟩ := u
   simp only [GStrict.enc, encS, encI, List.cons_append, List.nil_append] at hg
   simp only at ht
   generalize strictOf (st.take i) op = acc at ht hln
   cases acc with
   | nil =>
    simp -implicitDefEqProofs (disch := omega) only [go_sem, hg, hlt]
    refine ⟨fun h => ⟨by simp, fun _ => ⟨i + 1, hlt, by omega, ?_⟩⟩, fun h => ⟨i + 1, hlt, by omega, ?_⟩⟩
    ·rw [if_pos h] at ht
     rw [ht]
     exact le_mk (by simp [go_sem]) (by simp [go_sem, rowsOf, encI])
    ·rw [if_neg (by simpa using h)] at ht
     rw [ht]
     exact le_mk (by simp [go_sem]) (by simp [go_sem])
   | cons q qs =>
    simp -implicitDefEqProofs (disch := omega) only [go_sem, hg, hlt]
    simp only [List.length_cons] at hln
    refine ⟨fun h => ⟨⟨by simp, by omega, by omega⟩, fun _ => ⟨i + 1, hlt, by omega, ?_⟩⟩, fun h => ⟨i + 1, hlt, by omega, ?_⟩⟩
    ·rw [if_pos h] at ht
     rw [ht]
     exact le_mk (by simp [go_sem]) (by simp [go_sem]; exact rowsOf_snoc b)
    ·rw [if_neg (by simpa using h), List.append_nil] at ht
     rw [ht]
     exact le_mk (by simp [go_sem]) (by simp [go_sem])
  ·have : i = st.length := by omega
   subst this
   rw [List.take_length, ← hr]
   cases r with
   | nil => simp -implicitDefEqProofs (disch := omega) only [go_sem, Nat.lt_irrefl]
   | cons q qs => simp -implicitDefEqProofs (disch := omega) only [go_sem, Nat.lt_irrefl]
end Go.Ai
/- Strict positions: searches, copies, subterms. -/
namespace Go.Ai
open Go.Proofs
set_option maxRecDepth 100000
def hasI (xs : List Int) (n : Int) : Bool := xs.any (· == n)
theorem hasI_drop (xs : List Int) (n : Int) (i : Nat) (h : i < xs.length) : hasI (xs.drop i) n = (xs[i] == n || hasI (xs.drop (i + 1)) n) := by
 unfold hasI; rw [List.drop_eq_getElem_cons h]; simp only [List.any_cons]
theorem l1HasInt_sat (xs : List Int) (hl : xs.length ≤ maxLen) (n : Int) : Sat Tryz.prog 116 [slV (xs.map encI), intV n] (boolV (hasI xs n)) := by
 simp only [maxLen] at hl
 refine sat_of_code tbOk mixed Tryz.func116 rfl rfl rfl (by decide +kernel) (by decide +kernel) (Nat.le_of_ble_eq_true rfl) ?_
 simp -implicitDefEqProofs (disch := omega) only [go_sem]
 refine loopA_rule (ι := Nat) (fun i => mk 18 [(0, slV (xs.map encI)), (1, intV n), (5, intV i)] []) (fun i => i ≤ xs.length ∧ hasI (xs.drop i) n = hasI xs n) (fun i => xs.length - i) 0 ⟨Nat.zero_le _, by simp⟩ ?_ tbOk mixed (by decide +kernel) ?_
 ·exact le_mk (by simp [go_sem]) (by simp [go_sem])
 ·rintro i ⟨hi, he⟩
  rcases Nat.lt_or_ge i xs.length with hlt | hge
  ·have hg := map_getD (ec := encI) hlt
   rw [hasI_drop xs n i hlt] at he
   generalize xs[i] = x at hg he
   simp only [encI] at hg
   simp -implicitDefEqProofs (disch := omega) only [go_sem, hg, hlt]
   refine ⟨fun h => by grind, fun h => ⟨i + 1, ⟨hlt, by grind⟩, by omega, le_mk (by simp [go_sem]) (by simp [go_sem])⟩⟩
  ·have e1 : xs.drop i = [] := List.drop_of_length_le hge
   rw [e1] at he
   simp -implicitDefEqProofs (disch := omega) only [go_sem, Nat.not_lt.2 hge]
   rw [← he]; rfl
def idxI (n : Int) : List Int → Int → Int
 | [], _ => -1
 | x :: xs, k => if n = x then k else idxI n xs (k + 1)
def termAt : Tm → List Int → Option Tm
 | t, [] => some t
 | t, n :: p => if h : 0 ≤ n ∧ n.toNat < t.args.length then termAt (t.args[n.toNat]'h.2) p else none
theorem termAt_in (k n : Int) (s : ByteArray) (ts : List Tm) (x : Int) (p : List Int) (h0 : 0 ≤ x) (h : x.toNat < ts.length) : termAt (.mk k n s ts) (x :: p) = termAt (ts[x.toNat]) p := by
 exact (termAt.eq_2 (.mk k n s ts) x p).trans (dif_pos (c := 0 ≤ x ∧ x.toNat < ts.length) ⟨h0, h⟩)
theorem termAt_out (k n : Int) (s : ByteArray) (ts : List Tm) (x : Int) (p : List Int) (h : ¬ (0 ≤ x ∧ x.toNat < ts.length)) : termAt (.mk k n s ts) (x :: p) = none := by
 unfold termAt; exact dif_neg h
theorem termAt_nil (t : Tm) : termAt t [] = some t := by unfold termAt; rfl
def noTm : Tm := .mk 0 0 ⟨⟨[]⟩⟩ []
theorem specTermAt_sat (t : Tm) (hs : t.size < 1048577) (p : List Int) (hp : p.length ≤ maxLen) : Sat Tryz.prog 40 [tmV t, slV (p.map encI)] (.tup [tmV ((termAt t p).getD noTm), boolV (termAt t p).isSome]) := by
 obtain ⟨r, hr⟩ : ∃ r, r = termAt t p := ⟨_, rfl⟩
 rw [← hr]
 simp only [maxLen] at hp
 obtain ⟨k, n, s, ts⟩ := t
 refine sat_of_code tbOk mixed Tryz.func40 rfl rfl rfl (by decide +kernel) (by decide +kernel) (Nat.le_of_ble_eq_true rfl) ?_
 simp -implicitDefEqProofs (disch := omega) only [go_sem, Tm.enc]
 refine loopA_rule (ι := Nat × Tm) (fun i => mk 34 [(1, slV (p.map encI)), (2, .one (.ptr 2 0)), (4, .one (.ptr 4 0)), (5, boolV false), (6, intV i.1)] [(2, .var (i.2.enc.map .c)), (4, .var zT)])
  (fun i => i.1 ≤ p.length ∧ i.2.size < 1048577 ∧ termAt i.2 (p.drop i.1) = r) (fun i => p.length - i.1) (0, .mk k n s ts) ⟨Nat.zero_le _, hs, hr.symm⟩ ?_ tbOk mixed (by decide +kernel) ?_
 ·exact le_mk (by simp [go_sem]) (by simp [go_sem, Tm.enc, zT])
 ·rintro ⟨i, k, n, s, ts⟩ ⟨hi, hsz, he⟩
  simp only at hi hsz he
  have hlt2 : ts.length < 1048577 := by have := len_sizes ts; simp only [Tm.size] at hsz; omega
  rcases Nat.lt_or_ge i p.length with hlt | hge
  ·have hg := map_getD (ec := encI) hlt
   rw [List.drop_eq_getElem_cons hlt] at he
   generalize p[i] = x at hg he
   simp only [encI] at hg
   simp -implicitDefEqProofs (disch := omega) only [go_sem, hg, hlt, Tm.enc]
   refine CallK.mk (l1In_sat _ _ _) ?_
   simp -implicitDefEqProofs (disch := omega) only [go_sem, hg, hlt]
   refine ⟨fun h => ?_, fun h => ?_⟩
   ·rw [termAt_out k n s ts x _ (by simp at h; omega)] at he
    subst he
    rfl
   ·simp only [Bool.and_eq_true, decide_eq_true_eq] at h
    have hx : x.toNat < ts.length := by omega
    rw [termAt_in k n s ts x _ h.1 hx] at he
    have hq := encs_getD ts x.toNat hx
    have hm := size_mem ts _ (List.getElem_mem hx)
    simp only [Tm.size] at hsz
    generalize ts[x.toNat] = u at he hq hm
    refine ⟨⟨h.1, by omega, ?_⟩, fun _ => ?_⟩
    ·rw [hq]; exact enc_len u
    ·simp -implicitDefEqProofs (disch := omega) only [go_sem, hq]
     exact ⟨(i + 1, u), ⟨hlt, by simp only; omega, he⟩, by simp only; omega, le_mk (by simp [go_sem]) (by simp [go_sem, zT])⟩
  ·have e1 : p.drop i = [] := List.drop_of_length_le hge
   rw [e1, termAt_nil] at he
   subst he
   simp -implicitDefEqProofs (disch := omega) only [go_sem, Nat.not_lt.2 hge, Tm.enc]
   refine CallK.mk (l3Copy_sat (.mk k n s ts) hsz) ?_
   simp -implicitDefEqProofs (disch := omega) only [go_sem, Tm.enc]
   rfl
end Go.Ai
/- Strict positions: spec, impl, the law. -/
namespace Go.Ai
open Go.Proofs
set_option maxRecDepth 100000
def isSP (st : List GStrict) : Tm → List Int → Bool
 | _, [] => true
 | t, x :: p => if h : 0 ≤ x ∧ x.toNat < t.args.length then (match t with | .mk k _ s _ => k == 2 && hasI (strictOf st s) x) && isSP st (t.args[x.toNat]'h.2) p else false
theorem isSP_in (st : List GStrict) (k n : Int) (s : ByteArray) (ts : List Tm) (x : Int) (p : List Int) (h0 : 0 ≤ x) (h : x.toNat < ts.length) : isSP st (.mk k n s ts) (x :: p) = (k == 2 && hasI (strictOf st s) x && isSP st ts[x.toNat] p) := by
 exact (isSP.eq_2 st (.mk k n s ts) x p).trans (dif_pos (c := 0 ≤ x ∧ x.toNat < ts.length) ⟨h0, h⟩)
theorem isSP_out (st : List GStrict) (k n : Int) (s : ByteArray) (ts : List Tm) (x : Int) (p : List Int) (h : ¬ (0 ≤ x ∧ x.toNat < ts.length)) : isSP st (.mk k n s ts) (x :: p) = false := by
 exact (isSP.eq_2 st (.mk k n s ts) x p).trans (dif_neg (c := 0 ≤ x ∧ x.toNat < ts.length) h)
theorem isSP_nil (st : List GStrict) (t : Tm) : isSP st t [] = true := by unfold isSP; rfl
theorem termAt_append : ∀ (p : List Int) (t : Tm) (q : List Int), termAt t (p ++ q) = (termAt t p).bind (fun u => termAt u q)
 | [], t, q => by simp [termAt_nil]
 | x :: p, .mk k n s ts, q => by
  by_cases h : 0 ≤ x ∧ x.toNat < ts.length
  ·rw [List.cons_append, termAt_in k n s ts x _ h.1 h.2, termAt_in k n s ts x _ h.1 h.2]; exact termAt_append p _ q
  ·rw [List.cons_append, termAt_out k n s ts x _ h, termAt_out k n s ts x _ h]; rfl
theorem termAt_size : ∀ (p : List Int) (t u : Tm), termAt t p = some u → u.size ≤ t.size
 | [], t, u, h => by rw [termAt_nil] at h; obtain rfl := Option.some.inj h; exact Nat.le_refl _
 | x :: p, .mk k n s ts, u, h => by
  by_cases hh : 0 ≤ x ∧ x.toNat < ts.length
  ·rw [termAt_in k n s ts x _ hh.1 hh.2] at h
   have := termAt_size p _ u h
   have := size_mem ts _ (List.getElem_mem hh.2)
   simp only [Tm.size]; omega
  ·rw [termAt_out k n s ts x _ hh] at h; cases h
theorem implStrictOf_sat (d : GDefinition) (hs : d.st.length < 1048577) (k n : Int) (s : ByteArray) (ts : List Tm) : Sat Tryz.prog 176 [aggV d.enc, tmV (.mk k n s ts)] (slV ((if k = 2 then strictOf d.st s else []).map encI)) := by
 obtain ⟨r, hr⟩ : ∃ r, r = (if k = 2 then strictOf d.st s else []) := ⟨_, rfl⟩
 rw [← hr]
 have hlen : d.enc.length = 4 := GDefinition.enc_len d
 refine sat_of_code tbOk mixed Tryz.func176 rfl rfl rfl (by decide +kernel) (by decide +kernel) (Nat.le_of_ble_eq_true rfl) ?_
 obtain ⟨⟨so, ops⟩, ru, st⟩ := d
 simp -implicitDefEqProofs (disch := omega) only [go_sem, GDefinition.enc, GSignature.enc, encL, Tm.enc, List.cons_append, List.nil_append, List.append_nil]
 refine ⟨fun h => ?_, fun h => ?_⟩
 ·rw [hr, if_neg h]; rfl
 ·have h : k = 2 := by simpa using h
  refine CallK.mk (implStrictArgs_sat ⟨⟨so, ops⟩, ru, st⟩ hs s) ?_
  simp -implicitDefEqProofs (disch := omega) only [go_sem]
  rw [hr, if_pos h]
theorem specIsSP_sat (d : GDefinition) (hs : d.st.length < 1048577) (t : Tm) (hw : t.size < 1048577) (p : List Int) (hp : p.length ≤ maxLen) : Sat Tryz.prog 42 [aggV d.enc, tmV t, slV (p.map encI)] (boolV (isSP d.st t p)) := by
 obtain ⟨r, hr⟩ : ∃ r, r = isSP d.st t p := ⟨_, rfl⟩
 rw [← hr]
 have hp' := hp
 simp only [maxLen] at hp
 refine sat_of_code tbOk mixed Tryz.func42 rfl rfl rfl (by decide +kernel) (by decide +kernel) (Nat.le_of_ble_eq_true rfl) ?_
 simp -implicitDefEqProofs (disch := omega) only [go_sem]
 refine loopA_rule (ι := Nat) (fun i => mk 52 [(2, slV (p.map encI)), (3, .one (.ptr 3 0)), (4, .one (.ptr 4 0)), (7, intV i)] [(3, .var (d.enc.map .c)), (4, .var (t.enc.map .c))])
  (fun i => i ≤ p.length ∧ (∀ u, termAt t (p.take i) = some u → isSP d.st u (p.drop i) = r) ∧ (termAt t (p.take i) = none → r = false)) (fun i => p.length - i) 0 ⟨Nat.zero_le _, fun u hu => by rw [List.take_zero, termAt_nil] at hu; obtain rfl := Option.some.inj hu; exact hr.symm, fun hu => by rw [List.take_zero, termAt_nil] at hu; cases hu⟩ ?_ tbOk mixed (by decide +kernel) ?_
 ·exact le_mk (by simp [go_sem]) (by simp [go_sem])
 ·rintro i ⟨hi, he, hn⟩
  rcases Nat.lt_or_ge i p.length with hlt | hge
  ·have hg := map_getD (ec := encI) hlt
   have htk : p.take (i + 1) = p.take i ++ [p[i]] := by rw [List.take_add_one, List.getElem?_eq_getElem hlt]; rfl
   have hlen : (p.take i).length ≤ maxLen := by rw [List.length_take]; omega
   have hdrop := List.drop_eq_getElem_cons hlt
   simp -implicitDefEqProofs (disch := omega) only [go_sem, hlt]
   refine ⟨⟨hi, by simp [encI]⟩, fun _ => ?_⟩
   rw [← List.map_take]
   refine CallK.mk (specTermAt_sat t hw (p.take i) hlen) ?_
   generalize p[i] = x at hg htk hdrop
   simp only [encI] at hg
   cases hta : termAt t (p.take i) with
   | none =>
    have := hn hta
    subst this
    simp only [Option.getD_none, Option.isSome_none, noTm, Tm.enc, List.map_cons, List.map_nil]
    simp -implicitDefEqProofs (disch := omega) only [go_sem, hg, hlt]
   | some u =>
    have hu := he u hta
    have hus := termAt_size _ _ _ hta
    obtain ⟨k, n, s, ts⟩ := u
    simp only [Option.getD_some, Option.isSome_some]
    simp -implicitDefEqProofs (disch := omega) only [go_sem, hg, hlt, Tm.enc]
    rw [hdrop] at hu
    refine ⟨fun h1 => ?_, fun h1 => ?_⟩
    ·have hk : k = 2 := by simpa using h1
     refine CallK.mk (specStrictArgs_sat d hs s) ?_
     simp -implicitDefEqProofs (disch := omega) only [go_sem, hg, hlt]
     have hsl := strictOf_len d.st s d.st.length
     rw [List.take_length] at hsl
     refine CallK.mk (l1HasInt_sat _ (by simp only [maxLen]; omega) x) ?_
     simp -implicitDefEqProofs (disch := omega) only [go_sem]
     refine ⟨fun h2 => ?_, fun h2 => ⟨i + 1, ⟨hlt, fun u hq => ?_, fun hq => ?_⟩, by omega, le_mk (by simp [go_sem]) (by simp [go_sem])⟩⟩
     ·rw [← hu]
      by_cases hx : 0 ≤ x ∧ x.toNat < ts.length
      ·rw [isSP_in d.st k n s ts x _ hx.1 hx.2, h2]; simp
      ·rw [isSP_out d.st k n s ts x _ hx]
     ·rw [htk, termAt_append, hta, Option.bind_some] at hq
      by_cases hx : 0 ≤ x ∧ x.toNat < ts.length
      ·rw [termAt_in k n s ts x _ hx.1 hx.2, termAt_nil] at hq
       obtain rfl := Option.some.inj hq
       rw [← hu, isSP_in d.st k n s ts x _ hx.1 hx.2, h2, hk]; simp
      ·rw [termAt_out k n s ts x _ hx] at hq; cases hq
     ·rw [htk, termAt_append, hta, Option.bind_some] at hq
      by_cases hx : 0 ≤ x ∧ x.toNat < ts.length
      ·rw [termAt_in k n s ts x _ hx.1 hx.2, termAt_nil] at hq; cases hq
      ·rw [← hu, isSP_out d.st k n s ts x _ hx]
    ·rw [← hu]
     by_cases hx : 0 ≤ x ∧ x.toNat < ts.length
     ·rw [isSP_in d.st k n s ts x _ hx.1 hx.2]; simp [h1]
     ·rw [isSP_out d.st k n s ts x _ hx]
  ·have : i = p.length := by omega
   subst this
   rw [List.take_length] at he hn
   simp -implicitDefEqProofs (disch := omega) only [go_sem, Nat.lt_irrefl]
   refine CallK.mk (specTermAt_sat t hw p hp') ?_
   simp -implicitDefEqProofs (disch := omega) only [go_sem]
   cases hta : termAt t p with
   | none => rw [hn hta]; rfl
   | some u =>
    have := he u hta
    rw [List.drop_length, isSP_nil] at this
    rw [← this]; rfl
end Go.Ai
