/- EqualDefinition. -/
import Derived.Test.YtmddjojbaompiaaGreatAiD1
import Derived.Test.YtmddjojbaompiaaGreatAiN1
import Derived.Test.YtmddjojbaompiaaGreatAiG1
set_option linter.unusedVariables false
set_option linter.unusedSimpArgs false
namespace Go.Ai
open Go.Proofs
set_option maxRecDepth 100000
end Go.Ai
/- Strict positions. -/
namespace Go.Ai
open Go.Proofs
set_option maxRecDepth 100000
def strictOf (st : List GStrict) (op : ByteArray) : List Int := (st.filter (fun s => s.op.toList == op.toList)).map (·.ar)
theorem strictOf_take (st : List GStrict) (op : ByteArray) (i : Nat) (h : i < st.length) : strictOf (st.take (i + 1)) op = strictOf (st.take i) op ++ (if st[i].op.toList = op.toList then [st[i].ar] else []) := by
 unfold strictOf
 rw [List.take_add_one, List.getElem?_eq_getElem h]
 simp only [Option.toList, List.filter_append, List.map_append]
 congr 1
 by_cases e : st[i].op.toList = op.toList <;> simp [e]
theorem strictOf_len (st : List GStrict) (op : ByteArray) (i : Nat) : (strictOf (st.take i) op).length ≤ st.length := by
 unfold strictOf
 rw [List.length_map]
 refine Nat.le_trans (List.length_filter_le _ _) ?_
 rw [List.length_take]; omega
theorem specStrictArgs_sat (x : GDefinition) (hs : x.st.length < 1048577) (op : ByteArray) : Sat Tryz.prog 22 [aggV x.enc, strV op] (slV ((strictOf x.st op).map encI)) := by
 obtain ⟨r, hr⟩ : ∃ r, r = strictOf x.st op := ⟨_, rfl⟩
 rw [← hr]
 obtain ⟨⟨so, ops⟩, ru, st⟩ := x
 simp only at hs hr
 refine sat_of_code tbOk mixed Tryz.func22 rfl rfl rfl (by decide +kernel) (by decide +kernel) (Nat.le_of_ble_eq_true rfl) ?_
 simp -implicitDefEqProofs (disch := omega) only [go_sem, GDefinition.enc, GSignature.enc, encL, List.cons_append, List.nil_append, List.append_nil]
 refine loopA_rule (ι := Nat) (fun i => mk 33 [(2, .one (.ptr 2 0)), (1, strV op), (5, .one (.own 7 (strictOf (st.take i) op).length)), (6, intV i)] [(2, .var [.c (.sl (so.map encS)), .c (.sl (ops.map GOp.enc)), .c (.sl (ru.map GRule.enc)), .c (.sl (st.map GStrict.enc))]), (7, .arr 3 1 (rowsOf encI (strictOf (st.take i) op)) false)])
  (fun i => i ≤ st.length) (fun i => st.length - i) 0 (Nat.zero_le _) ?_ tbOk mixed (by decide +kernel) ?_
 ·exact le_mk (by simp [go_sem, strictOf]) (by simp [go_sem, strictOf, rowsOf])
 ·intro i hi
  have hln := strictOf_len st op i
  rcases Nat.lt_or_ge i st.length with hlt | hge
  ·have hg := map_getD (ec := GStrict.enc) hlt
   have ht := strictOf_take st op i hlt
   generalize st[i] = u at hg ht
   obtain ⟨a, b⟩ := u
   simp only [GStrict.enc, encS, encI, List.cons_append, List.nil_append] at hg
   simp only at ht
   simp -implicitDefEqProofs (disch := omega) only [go_sem, hg, hlt]
   refine ⟨fun h => ⟨⟨by simp, by omega, by omega⟩, fun _ => ⟨i + 1, hlt, by omega, le_mk ?_ ?_⟩⟩, fun h => ⟨i + 1, hlt, by omega, le_mk ?_ ?_⟩⟩
   ·rw [if_pos h] at ht; simp [go_sem, ht]
   ·rw [if_pos h] at ht; simp [go_sem, ht]; exact rowsOf_snoc b
   ·rw [if_neg (by simpa using h), List.append_nil] at ht; simp [go_sem, ht]
   ·rw [if_neg (by simpa using h), List.append_nil] at ht; simp [go_sem, ht]
  ·have : i = st.length := by omega
   subst this
   simp -implicitDefEqProofs (disch := omega) only [go_sem, Nat.lt_irrefl, List.take_length, hr]
theorem implStrictArgs_sat (x : GDefinition) (hs : x.st.length < 1048577) (op : ByteArray) : Sat Tryz.prog 21 [aggV x.enc, strV op] (slV ((strictOf x.st op).map encI)) := by
 obtain ⟨r, hr⟩ : ∃ r, r = strictOf x.st op := ⟨_, rfl⟩
 rw [← hr]
 obtain ⟨⟨so, ops⟩, ru, st⟩ := x
 simp only at hs hr
 refine sat_of_code tbOk mixed Tryz.func21 rfl rfl rfl (by decide +kernel) (by decide +kernel) (Nat.le_of_ble_eq_true rfl) ?_
 simp -implicitDefEqProofs (disch := omega) only [go_sem, GDefinition.enc, GSignature.enc, encL, List.cons_append, List.nil_append, List.append_nil]
 refine loopA_rule (ι := Nat) (fun i => match strictOf (st.take i) op with
   | [] => mk 26 [(9, slV (st.map GStrict.enc)), (1, strV op), (5, .one .nil), (10, intV st.length), (11, intV i)] []
   | q :: qs => mk 26 [(9, slV (st.map GStrict.enc)), (1, strV op), (5, .one (.own 23 (q :: qs).length)), (10, intV st.length), (11, intV i)] [(23, .arr 3 1 (rowsOf encI (q :: qs)) false)])
  (fun i => i ≤ st.length) (fun i => st.length - i) 0 (Nat.zero_le _) ?_ tbOk mixed (by decide +kernel) ?_
 ·exact le_mk (by simp [go_sem]) (by simp [go_sem])
 ·intro i hi
  have hln := strictOf_len st op i
  rcases Nat.lt_or_ge i st.length with hlt | hge
  ·have hg := map_getD (ec := GStrict.enc) hlt
   have ht := strictOf_take st op i hlt
   generalize st[i] = u at hg ht
   obtain ⟨a, b⟩ := u
   simp only [GStrict.enc, encS, encI, List.cons_append, List.nil_append] at hg
   simp only at ht
   generalize strictOf (st.take i) op = acc at ht hln
   cases acc with
   | nil =>
    simp -implicitDefEqProofs (disch := omega) only [go_sem, hg, hlt]
    refine ⟨fun h => ⟨by simp, fun _ => ⟨i + 1, hlt, by omega, ?_⟩⟩, fun h => ⟨i + 1, hlt, by omega, ?_⟩⟩
    ·rw [if_pos h] at ht
     rw [ht]
     exact le_mk (by simp [go_sem]) (by simp [go_sem, rowsOf, encI])
    ·rw [if_neg (by simpa using h)] at ht
     rw [ht]
     exact le_mk (by simp [go_sem]) (by simp [go_sem])
   | cons q qs =>
    simp -implicitDefEqProofs (disch := omega) only [go_sem, hg, hlt]
    simp only [List.length_cons] at hln
    refine ⟨fun h => ⟨⟨by simp, by omega, by omega⟩, fun _ => ⟨i + 1, hlt, by omega, ?_⟩⟩, fun h => ⟨i + 1, hlt, by omega, ?_⟩⟩
    ·rw [if_pos h] at ht
     rw [ht]
     exact le_mk (by simp [go_sem]) (by simp [go_sem]; exact rowsOf_snoc b)
    ·rw [if_neg (by simpa using h), List.append_nil] at ht
     rw [ht]
     exact le_mk (by simp [go_sem]) (by simp [go_sem])
  ·have : i = st.length := by omega
   subst this
   rw [List.take_length, ← hr]
   cases r with
   | nil => simp -implicitDefEqProofs (disch := omega) only [go_sem, Nat.lt_irrefl]
   | cons q qs => simp -implicitDefEqProofs (disch := omega) only [go_sem, Nat.lt_irrefl]
end Go.Ai
/- RulesFor and StrictArgs: owned results, and the laws. -/
namespace Go.Ai
open Go.Proofs
set_option maxRecDepth 100000
def Tm.kd : Tm → Int
 | .mk k _ _ _ => k
def Tm.nm : Tm → ByteArray
 | .mk _ _ s _ => s
def isFor (op : ByteArray) (r : GRule) : Bool := r.le.kd == 2 && r.le.nm.toList == op.toList
def rfor (op : ByteArray) : List GRule → Nat → List Int
 | [], _ => []
 | r :: rs, i => if isFor op r = true then (i : Int) :: rfor op rs (i + 1) else rfor op rs (i + 1)
end Go.Ai
/- Strict positions: searches, copies, subterms. -/
namespace Go.Ai
open Go.Proofs
set_option maxRecDepth 100000
def hasI (xs : List Int) (n : Int) : Bool := xs.any (· == n)
def idxI (n : Int) : List Int → Int → Int
 | [], _ => -1
 | x :: xs, k => if n = x then k else idxI n xs (k + 1)
def termAt : Tm → List Int → Option Tm
 | t, [] => some t
 | t, n :: p => if h : 0 ≤ n ∧ n.toNat < t.args.length then termAt (t.args[n.toNat]'h.2) p else none
def noTm : Tm := .mk 0 0 ⟨⟨[]⟩⟩ []
end Go.Ai
/- Strict positions: spec, impl, the law. -/
namespace Go.Ai
open Go.Proofs
set_option maxRecDepth 100000
def isSP (st : List GStrict) : Tm → List Int → Bool
 | _, [] => true
 | t, x :: p => if h : 0 ≤ x ∧ x.toNat < t.args.length then (match t with | .mk k _ s _ => k == 2 && hasI (strictOf st s) x) && isSP st (t.args[x.toNat]'h.2) p else false
theorem implStrictOf_sat (d : GDefinition) (hs : d.st.length < 1048577) (k n : Int) (s : ByteArray) (ts : List Tm) : Sat Tryz.prog 176 [aggV d.enc, tmV (.mk k n s ts)] (slV ((if k = 2 then strictOf d.st s else []).map encI)) := by
 obtain ⟨r, hr⟩ : ∃ r, r = (if k = 2 then strictOf d.st s else []) := ⟨_, rfl⟩
 rw [← hr]
 have hlen : d.enc.length = 4 := GDefinition.enc_len d
 refine sat_of_code tbOk mixed Tryz.func176 rfl rfl rfl (by decide +kernel) (by decide +kernel) (Nat.le_of_ble_eq_true rfl) ?_
 obtain ⟨⟨so, ops⟩, ru, st⟩ := d
 simp -implicitDefEqProofs (disch := omega) only [go_sem, GDefinition.enc, GSignature.enc, encL, Tm.enc, List.cons_append, List.nil_append, List.append_nil]
 refine ⟨fun h => ?_, fun h => ?_⟩
 ·rw [hr, if_neg h]; rfl
 ·have h : k = 2 := by simpa using h
  refine CallK.mk (implStrictArgs_sat ⟨⟨so, ops⟩, ru, st⟩ hs s) ?_
  simp -implicitDefEqProofs (disch := omega) only [go_sem]
  rw [hr, if_pos h]
end Go.Ai
