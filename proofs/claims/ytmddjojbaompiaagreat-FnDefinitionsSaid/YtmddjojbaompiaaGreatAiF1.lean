/- RulesFor and StrictArgs: owned results, and the laws. -/
import Derived.Test.YtmddjojbaompiaaGreatAiN1
import Derived.Test.YtmddjojbaompiaaGreatAiE1
set_option linter.unusedVariables false
set_option linter.unusedSimpArgs false
namespace Go.Ai
open Go.Proofs
set_option maxRecDepth 100000
def Tm.kd : Tm → Int
 | .mk k _ _ _ => k
def Tm.nm : Tm → ByteArray
 | .mk _ _ s _ => s
def isFor (op : ByteArray) (r : GRule) : Bool := r.le.kd == 2 && r.le.nm.toList == op.toList
def rfor (op : ByteArray) : List GRule → Nat → List Int
 | [], _ => []
 | r :: rs, i => if isFor op r = true then (i : Int) :: rfor op rs (i + 1) else rfor op rs (i + 1)
theorem rfor_snoc (op : ByteArray) (r : GRule) : ∀ (rs : List GRule) (i : Nat), rfor op (rs ++ [r]) i = rfor op rs i ++ (if isFor op r = true then [((i + rs.length : Nat) : Int)] else [])
 | [], i => by simp only [List.nil_append, rfor]; split <;> simp
 | q :: rs, i => by
  simp only [List.cons_append, rfor, rfor_snoc op r rs (i + 1), List.length_cons]
  have e : i + 1 + rs.length = i + (rs.length + 1) := by omega
  rw [e]
  split <;> simp
theorem rfor_take (op : ByteArray) (rs : List GRule) (i : Nat) (h : i < rs.length) : rfor op (rs.take (i + 1)) 0 = rfor op (rs.take i) 0 ++ (if isFor op rs[i] = true then [(i : Int)] else []) := by
 rw [List.take_succ_eq_append_getElem h, rfor_snoc, List.length_take]
 have : 0 + min i rs.length = i := by omega
 rw [this]
theorem rfor_len (op : ByteArray) : ∀ (rs : List GRule) (i : Nat), (rfor op rs i).length ≤ rs.length
 | [], _ => by simp [rfor]
 | r :: rs, i => by
  have := rfor_len op rs (i + 1)
  simp only [rfor, List.length_cons]; split <;> simp <;> omega
theorem specRulesFor_sat (x : GDefinition) (hs : x.ru.length < 1048577) (op : ByteArray) : Sat Tryz.prog 23 [aggV x.enc, strV op] (slV ((rfor op x.ru 0).map encI)) := by
 obtain ⟨r, hr⟩ : ∃ r, r = rfor op x.ru 0 := ⟨_, rfl⟩
 rw [← hr]
 obtain ⟨⟨so, ops⟩, ru, st⟩ := x
 simp only at hs hr
 refine sat_of_code tbOk mixed Tryz.func23 rfl rfl rfl (by decide +kernel) (by decide +kernel) (Nat.le_of_ble_eq_true rfl) ?_
 simp -implicitDefEqProofs (disch := omega) only [go_sem, GDefinition.enc, GSignature.enc, encL, List.cons_append, List.nil_append, List.append_nil]
 refine loopA_rule (ι := Nat) (fun i => mk 39 [(2, .one (.ptr 2 0)), (1, strV op), (5, .one (.own 7 (rfor op (ru.take i) 0).length)), (6, intV i)] [(2, .var [.c (.sl (so.map encS)), .c (.sl (ops.map GOp.enc)), .c (.sl (ru.map GRule.enc)), .c (.sl (st.map GStrict.enc))]), (7, .arr 3 1 (rowsOf encI (rfor op (ru.take i) 0)) false)])
  (fun i => i ≤ ru.length) (fun i => ru.length - i) 0 (Nat.zero_le _) ?_ tbOk mixed (by decide +kernel) ?_
 ·exact le_mk (by simp [go_sem, rfor]) (by simp [go_sem, rfor, rowsOf])
 ·intro i hi
  have hln := rfor_len op (ru.take i) 0
  rw [List.length_take] at hln
  rcases Nat.lt_or_ge i ru.length with hlt | hge
  ·have hg := map_getD (ec := GRule.enc) hlt
   have ht := rfor_take op ru i hlt
   generalize ru[i] = u at hg ht
   obtain ⟨na, ⟨lk, ln, ls, lt⟩, ⟨rk, rn, rs, rt⟩, gu⟩ := u
   simp only [GRule.enc, Tm.enc, encS, encI, encL, List.cons_append, List.nil_append] at hg
   simp only [isFor, Tm.kd, Tm.nm] at ht
   simp -implicitDefEqProofs (disch := omega) only [go_sem, hg, hlt]
   refine ⟨fun h => ⟨fun h2 => ⟨⟨by simp, by omega, by omega⟩, fun _ => ⟨i + 1, hlt, by omega, le_mk ?_ ?_⟩⟩, fun h2 => ⟨i + 1, hlt, by omega, le_mk ?_ ?_⟩⟩, fun h => ⟨i + 1, hlt, by omega, le_mk ?_ ?_⟩⟩
   ·simp [go_sem, ht, h, h2]
   ·simp [go_sem, ht, h, h2]; exact rowsOf_snoc (ec := encI) (i : Int)
   ·simp [go_sem, ht, h, h2]
   ·simp [go_sem, ht, h, h2]
   ·simp [go_sem, ht, h]
   ·simp [go_sem, ht, h]
  ·have : i = ru.length := by omega
   subst this
   simp -implicitDefEqProofs (disch := omega) only [go_sem, Nat.lt_irrefl, List.take_length, hr]
theorem rowsI_isO (xs : List Int) : ∀ r, r ∈ rowsOf encI xs → ∀ x, x ∈ r → isO x = true := by
 intro r hr x hx
 obtain ⟨y, _, rfl⟩ := List.mem_map.1 hr
 simp [encI] at hx
 subst hx; rfl
theorem implRulesForF_sat (x : GDefinition) (hs : x.ru.length < 1048577) (op : ByteArray) : SatF Tryz.prog 16 [aggV x.enc, strV op] (slV ((rfor op x.ru 0).map encI)) := by
 obtain ⟨r, hr⟩ : ∃ r, r = rfor op x.ru 0 := ⟨_, rfl⟩
 rw [← hr]
 obtain ⟨⟨so, ops⟩, ru, st⟩ := x
 simp only at hs hr
 refine satF_of_code [slV (r.map encI)] rfl (fun _ h => by cases h) tbOk mixed Tryz.func16 rfl rfl rfl (by decide +kernel) (by decide +kernel) (Nat.le_of_ble_eq_true rfl) ?_
 simp -implicitDefEqProofs (disch := omega) only [go_sem, GDefinition.enc, GSignature.enc, encL, List.cons_append, List.nil_append, List.append_nil]
 refine loopA_rule (ι := Nat) (fun i => match rfor op (ru.take i) 0 with
   | [] => mk 33 [(9, slV (ru.map GRule.enc)), (1, strV op), (5, .one .nil), (10, intV ru.length), (11, intV i)] []
   | q :: qs => mk 33 [(9, slV (ru.map GRule.enc)), (1, strV op), (5, .one (.own 30 (q :: qs).length)), (10, intV ru.length), (11, intV i)] [(30, .arr 3 1 (rowsOf encI (q :: qs)) false)])
  (fun i => i ≤ ru.length) (fun i => ru.length - i) 0 (Nat.zero_le _) ?_ tbOk mixed (by decide +kernel) ?_
 ·exact le_mk (by simp [go_sem]) (by simp [go_sem])
 ·intro i hi
  have hln := rfor_len op (ru.take i) 0
  rw [List.length_take] at hln
  rcases Nat.lt_or_ge i ru.length with hlt | hge
  ·have hg := map_getD (ec := GRule.enc) hlt
   have ht := rfor_take op ru i hlt
   generalize ru[i] = u at hg ht
   obtain ⟨na, ⟨lk, ln, ls, lt⟩, ⟨rk, rn, rs, rt⟩, gu⟩ := u
   simp only [GRule.enc, Tm.enc, encS, encI, encL, List.cons_append, List.nil_append] at hg
   simp only [isFor, Tm.kd, Tm.nm] at ht
   generalize rfor op (ru.take i) 0 = acc at ht hln
   cases acc with
   | nil =>
    simp -implicitDefEqProofs (disch := omega) only [go_sem, hg, hlt]
    refine ⟨fun h => ⟨fun h2 => ⟨by simp, fun _ => ⟨i + 1, hlt, by omega, ?_⟩⟩, fun h2 => ⟨i + 1, hlt, by omega, ?_⟩⟩, fun h => ⟨i + 1, hlt, by omega, ?_⟩⟩
    ·have ht : rfor op (ru.take (i + 1)) 0 = [(i : Int)] := by simpa [h, h2] using ht
     rw [ht]; exact le_mk (by simp [go_sem]) (by simp [go_sem, rowsOf, encI])
    ·have ht : rfor op (ru.take (i + 1)) 0 = [] := by simpa [h, h2] using ht
     rw [ht]; exact le_mk (by simp [go_sem]) (by simp [go_sem])
    ·have ht : rfor op (ru.take (i + 1)) 0 = [] := by simpa [h] using ht
     rw [ht]; exact le_mk (by simp [go_sem]) (by simp [go_sem])
   | cons q qs =>
    simp -implicitDefEqProofs (disch := omega) only [go_sem, hg, hlt]
    simp only [List.length_cons] at hln
    refine ⟨fun h => ⟨fun h2 => ⟨⟨by simp, by omega, by omega⟩, fun _ => ⟨i + 1, hlt, by omega, ?_⟩⟩, fun h2 => ⟨i + 1, hlt, by omega, ?_⟩⟩, fun h => ⟨i + 1, hlt, by omega, ?_⟩⟩
    ·have ht : rfor op (ru.take (i + 1)) 0 = q :: (qs ++ [(i : Int)]) := by simpa [h, h2] using ht
     rw [ht]; exact le_mk (by simp [go_sem]) (by simp [go_sem]; exact rowsOf_snoc (ec := encI) (i : Int))
    ·have ht : rfor op (ru.take (i + 1)) 0 = q :: qs := by simpa [h, h2] using ht
     rw [ht]; exact le_mk (by simp [go_sem]) (by simp [go_sem])
    ·have ht : rfor op (ru.take (i + 1)) 0 = q :: qs := by simpa [h] using ht
     rw [ht]; exact le_mk (by simp [go_sem]) (by simp [go_sem])
  ·have : i = ru.length := by omega
   subst this
   rw [List.take_length, ← hr]
   cases r with
   | nil => simp -implicitDefEqProofs (disch := omega) only [go_sem, Nat.lt_irrefl]
   | cons q qs =>
    simp -implicitDefEqProofs (disch := omega) only [go_sem, Nat.lt_irrefl]
    exact rowsI_isO _
end Go.Ai
