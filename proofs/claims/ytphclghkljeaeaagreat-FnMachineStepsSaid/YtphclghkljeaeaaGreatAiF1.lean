/- EqualDefinition. -/
import Derived.Test.YtphclghkljeaeaaGreatAiD1
import Derived.Test.YtphclghkljeaeaaGreatAiN1
import Derived.Test.YtphclghkljeaeaaGreatAiG1
set_option linter.unusedVariables false
set_option linter.unusedSimpArgs false
namespace Go.Ai
open Go.Proofs
set_option maxRecDepth 100000
def zF0 (st : List GStrict) (op : ByteArray) : List Int := (st.filter (fun s => s.op.toList == op.toList)).map (·.ar)
theorem vh0 (st : List GStrict) (op : ByteArray) (i : Nat) (h : i < st.length) : zF0 (st.take (i + 1)) op = zF0 (st.take i) op ++ (if st[i].op.toList = op.toList then [st[i].ar] else []) := by
 unfold zF0
 rw [List.take_add_one, List.getElem?_eq_getElem h]
 simp only [Option.toList, List.filter_append, List.map_append]
 congr 1
 by_cases e : st[i].op.toList = op.toList <;> simp [e]
theorem qM0 (st : List GStrict) (op : ByteArray) (i : Nat) : (zF0 (st.take i) op).length ≤ st.length := by
 unfold zF0
 rw [List.length_map]
 refine Nat.le_trans (List.length_filter_le _ _) ?_
 rw [List.length_take]; omega
theorem vb0 (x : GDefinition) (hs : x.st.length < 1048577) (op : ByteArray) : Sat Tryz.prog 140 [zn0 x.enc, qg0 op] (slV ((zF0 x.st op).map encI)) := by
 obtain ⟨r, hr⟩ : ∃ r, r = zF0 x.st op := ⟨_, rfl⟩
 rw [← hr]
 obtain ⟨⟨so, ops⟩, ru, st⟩ := x
 simp only at hs hr
 refine soc zE0 zA0 Tryz.func140 ?_
 refine nj1 ?_
 refine zB0 (ι := Nat) (fun i => mk 33 [(2, .one (.ptr 2 0)), (1, qg0 op), (5, .one (.own 7 (zF0 (st.take i) op).length)), (6, zH0 i)] [(2, .var [.c (.sl (so.map encS)), .c (.sl (ops.map GOp.enc)), .c (.sl (ru.map GRule.enc)), .c (.sl (st.map GStrict.enc))]), (7, .arr 3 1 (rowsOf encI (zF0 (st.take i) op)) false)])
  (fun i => i ≤ st.length) (fun i => st.length - i) 0 (Nat.zero_le _) ?_ zE0 zA0 (by decide +kernel) ?_
 ·exact le_mk (by simp [go_sem, zF0]) (by simp [go_sem, zF0, rowsOf])
 ·intro i hi
  have hln := qM0 st op i
  rcases Nat.lt_or_ge i st.length with hlt | hge
  ·have hg := zD0 (ec := GStrict.enc) hlt
   have ht := vh0 st op i hlt
   generalize st[i] = u at hg ht
   obtain ⟨a, b⟩ := u
   simp only [GStrict.enc, encS, encI, List.cons_append, List.nil_append] at hg
   simp only at ht
   refine jL1 ?_
   refine ⟨fun h => ⟨⟨by simp, by omega, by omega⟩, fun _ => ⟨i + 1, hlt, by omega, le_mk ?_ ?_⟩⟩, fun h => ⟨i + 1, hlt, by omega, le_mk ?_ ?_⟩⟩
   ·rw [if_pos h] at ht; simp [go_sem, ht]
   ·rw [if_pos h] at ht; simp [go_sem, ht]; exact rowsOf_snoc b
   ·rw [if_neg (by simpa using h), List.append_nil] at ht; simp [go_sem, ht]
   ·rw [if_neg (by simpa using h), List.append_nil] at ht; simp [go_sem, ht]
  ·have : i = st.length := by omega
   subst this
   simp -implicitDefEqProofs (disch := omega) only [go_sem, Nat.lt_irrefl, List.take_length, hr]
theorem vT0 (x : GDefinition) (hs : x.st.length < 1048577) (op : ByteArray) : Sat Tryz.prog 197 [zn0 x.enc, qg0 op] (slV ((zF0 x.st op).map encI)) := by
 obtain ⟨r, hr⟩ : ∃ r, r = zF0 x.st op := ⟨_, rfl⟩
 rw [← hr]
 obtain ⟨⟨so, ops⟩, ru, st⟩ := x
 simp only at hs hr
 refine soc zE0 zA0 Tryz.func197 ?_
 refine nj1 ?_
 refine zB0 (ι := Nat) (fun i => match zF0 (st.take i) op with
   | [] => mk 26 [(9, slV (st.map GStrict.enc)), (1, qg0 op), (5, .one .nil), (10, zH0 st.length), (11, zH0 i)] []
   | q :: qs => mk 26 [(9, slV (st.map GStrict.enc)), (1, qg0 op), (5, .one (.own 23 (q :: qs).length)), (10, zH0 st.length), (11, zH0 i)] [(23, .arr 3 1 (rowsOf encI (q :: qs)) false)])
  (fun i => i ≤ st.length) (fun i => st.length - i) 0 (Nat.zero_le _) ?_ zE0 zA0 (by decide +kernel) ?_
 ·exact lek
 ·intro i hi
  have hln := qM0 st op i
  rcases Nat.lt_or_ge i st.length with hlt | hge
  ·have hg := zD0 (ec := GStrict.enc) hlt
   have ht := vh0 st op i hlt
   generalize st[i] = u at hg ht
   obtain ⟨a, b⟩ := u
   simp only [GStrict.enc, encS, encI, List.cons_append, List.nil_append] at hg
   simp only at ht
   generalize zF0 (st.take i) op = acc at ht hln
   cases acc with
   | nil =>
    refine jL1 ?_
    refine ⟨fun h => ⟨by simp, fun _ => ⟨i + 1, hlt, by omega, ?_⟩⟩, fun h => ⟨i + 1, hlt, by omega, ?_⟩⟩
    ·rw [if_pos h] at ht
     rw [ht]
     exact le_mk (by simp [go_sem]) (by simp [go_sem, rowsOf, encI])
    ·rw [if_neg (by simpa using h)] at ht
     rw [ht]
     exact lek
   | cons q qs =>
    refine jL1 ?_
    simp only [List.length_cons] at hln
    refine ⟨fun h => ⟨⟨by simp, by omega, by omega⟩, fun _ => ⟨i + 1, hlt, by omega, ?_⟩⟩, fun h => ⟨i + 1, hlt, by omega, ?_⟩⟩
    ·rw [if_pos h] at ht
     rw [ht]
     exact le_mk (by simp [go_sem]) (by simp [go_sem]; exact rowsOf_snoc b)
    ·rw [if_neg (by simpa using h), List.append_nil] at ht
     rw [ht]
     exact lek
  ·have : i = st.length := by omega
   subst this
   rw [List.take_length, ← hr]
   cases r with
   | nil => simp -implicitDefEqProofs (disch := omega) only [go_sem, Nat.lt_irrefl]
   | cons q qs => simp -implicitDefEqProofs (disch := omega) only [go_sem, Nat.lt_irrefl]
end Go.Ai
namespace Go.Ai
open Go.Proofs
set_option maxRecDepth 100000
def Tm.kd : Tm → Int
 | .mk k _ _ _ => k
def Tm.nm : Tm → ByteArray
 | .mk _ _ s _ => s
def bh1 (op : ByteArray) (r : GRule) : Bool := r.le.kd == 2 && r.le.nm.toList == op.toList
def nn1 (op : ByteArray) : List GRule → Nat → List Int
 | [], _ => []
 | r :: rs, i => if bh1 op r = true then (i : Int) :: nn1 op rs (i + 1) else nn1 op rs (i + 1)
def rH1 (xs : List Int) (n : Int) : Bool := xs.any (· == n)
def rI1 (n : Int) : List Int → Int → Int
 | [], _ => -1
 | x :: xs, k => if n = x then k else rI1 n xs (k + 1)
def fT1 : Tm → List Int → Option Tm
 | t, [] => some t
 | t, n :: p => if h : 0 ≤ n ∧ n.toNat < t.args.length then fT1 (t.args[n.toNat]'h.2) p else none
def tD1 : Tm := .mk 0 0 ⟨⟨[]⟩⟩ []
end Go.Ai
namespace Go.Ai
open Go.Proofs
set_option maxRecDepth 100000
def rK1 (st : List GStrict) : Tm → List Int → Bool
 | _, [] => true
 | t, x :: p => if h : 0 ≤ x ∧ x.toNat < t.args.length then (match t with | .mk k _ s _ => k == 2 && rH1 (zF0 st s) x) && rK1 st (t.args[x.toNat]'h.2) p else false
theorem qQ0 (d : GDefinition) (hs : d.st.length < 1048577) (k n : Int) (s : ByteArray) (ts : List Tm) : Sat Tryz.prog 122 [zn0 d.enc, tmV (.mk k n s ts)] (slV ((if k = 2 then zF0 d.st s else []).map encI)) := by
 obtain ⟨r, hr⟩ : ∃ r, r = (if k = 2 then zF0 d.st s else []) := ⟨_, rfl⟩
 rw [← hr]
 have hlen : d.enc.length = 4 := GDefinition.enc_len d
 refine soc zE0 zA0 Tryz.func122 ?_
 obtain ⟨⟨so, ops⟩, ru, st⟩ := d
 simp -implicitDefEqProofs only [go_sem, GDefinition.enc, GSignature.enc, encL, Tm.enc, List.cons_append, List.nil_append, List.append_nil]
 refine ⟨fun h => ?_, fun h => ?_⟩
 ·rw [hr, if_neg h]; rfl
 ·have h : k = 2 := by simpa using h
  refine c8' (vT0 ⟨⟨so, ops⟩, ru, st⟩ hs s) ?_
  rw [hr, if_pos h]
end Go.Ai
