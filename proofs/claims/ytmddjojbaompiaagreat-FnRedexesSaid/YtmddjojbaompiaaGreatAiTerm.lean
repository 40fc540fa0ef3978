/- Terms as plain data: size, equality, what is asked of them. No program in sight. -/
import Derived.Test.YtmddjojbaompiaaGreatAiRead
set_option linter.unusedVariables false
set_option linter.unusedSimpArgs false
namespace Go.Ai
abbrev intV (n : Int) : AV := .one (.c (.v (.int .i64 n)))
abbrev strV (s : ByteArray) : AV := .one (.c (.v (.string s)))
abbrev boolV (b : Bool) : AV := .one (.c (.v (.bool b)))
abbrev slV (rows : List (List C)) : AV := .one (.c (.sl rows))
abbrev aggV (cs : List C) : AV := .agg (cs.map .c)
abbrev iC (n : Int) : AC := .c (.v (.int .i64 n))
abbrev sC (s : ByteArray) : AC := .c (.v (.string s))
abbrev tC (ts : List Tm) : AC := .c (.sl (Tm.encs ts))
abbrev tmV (t : Tm) : AV := .agg (t.enc.map .c)
abbrev tmsV (ts : List Tm) : AV := .one (.c (.sl (Tm.encs ts)))
def Tm.args : Tm → List Tm
 | .mk _ _ _ ts => ts
theorem encs_map (ts : List Tm) : Tm.encs ts = ts.map Tm.enc := by
 induction ts with
 | nil => rfl
 | cons t ts ih => simp [Tm.encs, ih]
theorem encs_len (ts : List Tm) : (Tm.encs ts).length = ts.length := by rw [encs_map]; simp
theorem enc_len (t : Tm) : t.enc.length = 4 := by cases t; rfl
theorem enc_take (t : Tm) : t.enc.take 4 = t.enc := List.take_of_length_le (by rw [enc_len]; exact Nat.le_refl _)
theorem encs_getD (ts : List Tm) (i : Nat) (h : i < ts.length) : (Tm.encs ts).getD i [] = (ts[i]).enc := by
 rw [encs_map]; simp [List.getD, h]
mutual
def Tm.size : Tm → Nat
 | .mk _ _ s ts => s.size + Tm.sizes ts
def Tm.sizes : List Tm → Nat
 | [] => 0
 | a :: ts => 1 + a.size + Tm.sizes ts
end
theorem sizes_drop (ts : List Tm) (i : Nat) (h : i < ts.length) : Tm.sizes (ts.drop i) = 1 + (ts[i]).size + Tm.sizes (ts.drop (i + 1)) := by
 rw [List.drop_eq_getElem_cons h]; simp only [Tm.sizes]
theorem len_sizes (ts : List Tm) : ts.length ≤ Tm.sizes ts := by
 induction ts with
 | nil => simp
 | cons t ts ih => simp [Tm.sizes]; omega
theorem size_mem (ts : List Tm) : ∀ t, t ∈ ts → t.size < Tm.sizes ts := by
 induction ts with
 | nil => intro t h; cases h
 | cons a ts ih =>
  intro t h
  simp only [Tm.sizes]
  rcases List.mem_cons.1 h with rfl | h
  ·omega
  ·have := ih t h; omega
mutual
def Tm.wf : Tm → Prop
 | .mk k n s ts => (Lit.int .i64 k).wf = true ∧ (Lit.int .i64 n).wf = true ∧ s.size ≤ maxLen ∧ ts.length ≤ maxLen ∧ Tm.wfs ts
def Tm.wfs : List Tm → Prop
 | [] => True
 | a :: ts => a.wf ∧ Tm.wfs ts
end
theorem wfs_iff (ts : List Tm) : Tm.wfs ts ↔ ∀ t, t ∈ ts → t.wf := by
 induction ts with
 | nil => simp [Tm.wfs]
 | cons a ts ih => simp [Tm.wfs, ih]
mutual
def Tm.eqb : Tm → Tm → Bool
 | .mk k n s ts, .mk k' n' s' ts' => k == k' && (n == n' && (s.toList == s'.toList && Tm.eqbs ts ts'))
def Tm.eqbs : List Tm → List Tm → Bool
 | [], [] => true
 | a :: ts, b :: ts' => a.eqb b && Tm.eqbs ts ts'
 | _, _ => false
end
theorem Tm.eqb_refl : ∀ t : Tm, t.eqb t = true := by
 refine Tm.ind (fun k n s ts ih => ?_)
 have : Tm.eqbs ts ts = true := by
  induction ts with
  | nil => rfl
  | cons a ts ih2 => simp [Tm.eqbs, ih a (by simp), ih2 (fun b hb => ih b (by simp [hb]))]
 simp [Tm.eqb, this]
theorem eqbs_len : ∀ (ts us : List Tm), ts.length ≠ us.length → Tm.eqbs ts us = false
 | [], [], h => by simp at h
 | [], _ :: _, _ => rfl
 | _ :: _, [], _ => rfl
 | a :: ts, b :: us, h => by simp [Tm.eqbs, eqbs_len ts us (by simpa using h)]
theorem eqbs_drop (ts us : List Tm) (i : Nat) (h : i < ts.length) (h' : i < us.length) : Tm.eqbs (ts.drop i) (us.drop i) = ((ts[i]).eqb us[i] && Tm.eqbs (ts.drop (i + 1)) (us.drop (i + 1))) := by
 rw [List.drop_eq_getElem_cons h, List.drop_eq_getElem_cons h']; simp only [Tm.eqbs]
def szR (n : Nat) (b : Int) : Int := if (n : Int) ≤ b then b - n else -1
theorem encm_take (t : Tm) : (t.enc.map AC.c).take 4 = t.enc.map AC.c := List.take_of_length_le (by rw [List.length_map, enc_len]; exact Nat.le_refl _)
attribute [go_sem] enc_len enc_take encm_take encs_len List.length_map
end Go.Ai
