/- RulesFor and StrictArgs: owned results, and the laws. -/
import Derived.Test.YtdjleacnjijbjaaAiN1
import Derived.Test.YtdjleacnjijbjaaAiE1
namespace Go.Ai
set_option linter.unusedVariables false
set_option linter.unusedSimpArgs false
open Go.Proofs
set_option maxRecDepth 100000

def Tm.kd : Tm → Int
  | .mk k _ _ _ => k
def Tm.nm : Tm → ByteArray
  | .mk _ _ s _ => s
def isFor (op : ByteArray) (r : GRule) : Bool := r.le.kd == 2 && r.le.nm.toList == op.toList
def rfor (op : ByteArray) : List GRule → Nat → List Int
  | [], _ => []
  | r :: rs, i => if isFor op r = true then (i : Int) :: rfor op rs (i + 1) else rfor op rs (i + 1)
theorem rfor_snoc (op : ByteArray) (r : GRule) : ∀ (rs : List GRule) (i : Nat), rfor op (rs ++ [r]) i = rfor op rs i ++ (if isFor op r = true then [((i + rs.length : Nat) : Int)] else [])
  | [], i => by simp only [List.nil_append, rfor]; split <;> simp
  | q :: rs, i => by
    simp only [List.cons_append, rfor, rfor_snoc op r rs (i + 1), List.length_cons]
    have e : i + 1 + rs.length = i + (rs.length + 1) := by omega
    rw [e]
    split <;> simp
theorem rfor_take (op : ByteArray) (rs : List GRule) (i : Nat) (h : i < rs.length) : rfor op (rs.take (i + 1)) 0 = rfor op (rs.take i) 0 ++ (if isFor op rs[i] = true then [(i : Int)] else []) := by
  rw [List.take_succ_eq_append_getElem h, rfor_snoc, List.length_take]
  have : 0 + min i rs.length = i := by omega
  rw [this]
theorem rfor_len (op : ByteArray) : ∀ (rs : List GRule) (i : Nat), (rfor op rs i).length ≤ rs.length
  | [], _ => by simp [rfor]
  | r :: rs, i => by
    have := rfor_len op rs (i + 1)
    simp only [rfor, List.length_cons]; split <;> simp <;> omega

theorem specRulesFor_sat (x : GDefinition) (hs : x.ru.length < 1048577) (op : ByteArray) : Sat Try.prog 54 [aggV x.enc, strV op] (slV ((rfor op x.ru 0).map encI)) := by
  obtain ⟨r, hr⟩ : ∃ r, r = rfor op x.ru 0 := ⟨_, rfl⟩
  rw [← hr]
  obtain ⟨⟨so, ops⟩, ru, st⟩ := x
  simp only at hs hr
  refine sat_of_code tbOk mixed Try.func54 rfl rfl rfl (by decide +kernel) (by decide +kernel) (Nat.le_of_ble_eq_true rfl) ?_
  simp -implicitDefEqProofs (disch := omega) only [go_sem, ↓reduceIte, reduceCtorEq, Nat.reduceEqDiff, Nat.reduceLT, Nat.reduceLeDiff, Nat.reduceAdd, Nat.reduceSub, Nat.reduceMul, IntWalk.i64_in, AV.one.injEq, AC.c.injEq, C.v.injEq, Value.int.injEq, Value.bool.injEq, beq_self_eq_true, bne_self_eq_false, GDefinition.enc, GSignature.enc, encL, List.cons_append, List.nil_append, List.append_nil]
  refine loopA_rule (ι := Nat) (fun i => mk 39 [(2, .one (.ptr 2 0)), (1, strV op), (5, .one (.own 7 (rfor op (ru.take i) 0).length)), (6, intV i)] [(2, .var [.c (.sl (so.map encS)), .c (.sl (ops.map GOp.enc)), .c (.sl (ru.map GRule.enc)), .c (.sl (st.map GStrict.enc))]), (7, .arr 3 1 (rowsOf encI (rfor op (ru.take i) 0)) false)])
    (fun i => i ≤ ru.length) (fun i => ru.length - i) 0 (Nat.zero_le _) ?_ tbOk mixed (by decide +kernel) ?_
  · exact le_mk (by simp [go_sem, rfor]) (by simp [go_sem, rfor, rowsOf])
  · intro i hi
    have hln := rfor_len op (ru.take i) 0
    rw [List.length_take] at hln
    rcases Nat.lt_or_ge i ru.length with hlt | hge
    · have hg := map_getD (ec := GRule.enc) hlt
      have ht := rfor_take op ru i hlt
      generalize ru[i] = u at hg ht
      obtain ⟨na, ⟨lk, ln, ls, lt⟩, ⟨rk, rn, rs, rt⟩, gu⟩ := u
      simp only [GRule.enc, Tm.enc, encS, encI, encL, List.cons_append, List.nil_append] at hg
      simp only [isFor, Tm.kd, Tm.nm] at ht
      simp -implicitDefEqProofs (disch := omega) only [go_sem, ↓reduceIte, reduceCtorEq, Nat.reduceEqDiff, Nat.reduceLT, Nat.reduceLeDiff, Nat.reduceAdd, Nat.reduceSub, Nat.reduceMul, IntWalk.i64_in, AV.one.injEq, AC.c.injEq, C.v.injEq, Value.int.injEq, Value.bool.injEq, beq_self_eq_true, bne_self_eq_false, hg, hlt]
      refine ⟨fun h => ⟨fun h2 => ⟨⟨by simp, by omega, by omega⟩, fun _ => ⟨i + 1, hlt, by omega, le_mk ?_ ?_⟩⟩, fun h2 => ⟨i + 1, hlt, by omega, le_mk ?_ ?_⟩⟩, fun h => ⟨i + 1, hlt, by omega, le_mk ?_ ?_⟩⟩
      · simp [go_sem, ht, h, h2]
      · simp [go_sem, ht, h, h2]; exact rowsOf_snoc (ec := encI) (i : Int)
      · simp [go_sem, ht, h, h2]
      · simp [go_sem, ht, h, h2]
      · simp [go_sem, ht, h]
      · simp [go_sem, ht, h]
    · have : i = ru.length := by omega
      subst this
      simp -implicitDefEqProofs (disch := omega) only [go_sem, ↓reduceIte, reduceCtorEq, Nat.reduceEqDiff, Nat.reduceLT, Nat.reduceLeDiff, Nat.reduceAdd, Nat.reduceSub, Nat.reduceMul, IntWalk.i64_in, AV.one.injEq, AC.c.injEq, C.v.injEq, Value.int.injEq, Value.bool.injEq, beq_self_eq_true, bne_self_eq_false, Nat.lt_irrefl, List.take_length, hr]

/-- Rows of plain numbers own what they hold. -/
theorem rowsI_isO (xs : List Int) : ∀ r, r ∈ rowsOf encI xs → ∀ x, x ∈ r → isO x = true := by
  intro r hr x hx
  obtain ⟨y, _, rfl⟩ := List.mem_map.1 hr
  simp [encI] at hx
  subst hx; rfl
theorem rowsS_isO (xs : List ByteArray) : ∀ r, r ∈ rowsOf encS xs → ∀ x, x ∈ r → isO x = true := by
  intro r hr x hx
  obtain ⟨y, _, rfl⟩ := List.mem_map.1 hr
  simp [encS] at hx
  subst hx; rfl

theorem implRulesForF_sat (x : GDefinition) (hs : x.ru.length < 1048577) (op : ByteArray) : SatF Try.prog 55 [aggV x.enc, strV op] (slV ((rfor op x.ru 0).map encI)) := by
  obtain ⟨r, hr⟩ : ∃ r, r = rfor op x.ru 0 := ⟨_, rfl⟩
  rw [← hr]
  obtain ⟨⟨so, ops⟩, ru, st⟩ := x
  simp only at hs hr
  refine satF_of_code [slV (r.map encI)] rfl (fun _ h => by cases h) tbOk mixed Try.func55 rfl rfl rfl (by decide +kernel) (by decide +kernel) (Nat.le_of_ble_eq_true rfl) ?_
  simp -implicitDefEqProofs (disch := omega) only [go_sem, ↓reduceIte, reduceCtorEq, Nat.reduceEqDiff, Nat.reduceLT, Nat.reduceLeDiff, Nat.reduceAdd, Nat.reduceSub, Nat.reduceMul, IntWalk.i64_in, AV.one.injEq, AC.c.injEq, C.v.injEq, Value.int.injEq, Value.bool.injEq, beq_self_eq_true, bne_self_eq_false, GDefinition.enc, GSignature.enc, encL, List.cons_append, List.nil_append, List.append_nil]
  refine loopA_rule (ι := Nat) (fun i => match rfor op (ru.take i) 0 with
      | [] => mk 33 [(9, slV (ru.map GRule.enc)), (1, strV op), (5, .one .nil), (10, intV ru.length), (11, intV i)] []
      | q :: qs => mk 33 [(9, slV (ru.map GRule.enc)), (1, strV op), (5, .one (.own 30 (q :: qs).length)), (10, intV ru.length), (11, intV i)] [(30, .arr 3 1 (rowsOf encI (q :: qs)) false)])
    (fun i => i ≤ ru.length) (fun i => ru.length - i) 0 (Nat.zero_le _) ?_ tbOk mixed (by decide +kernel) ?_
  · exact le_mk (by simp [go_sem]) (by simp [go_sem])
  · intro i hi
    have hln := rfor_len op (ru.take i) 0
    rw [List.length_take] at hln
    rcases Nat.lt_or_ge i ru.length with hlt | hge
    · have hg := map_getD (ec := GRule.enc) hlt
      have ht := rfor_take op ru i hlt
      generalize ru[i] = u at hg ht
      obtain ⟨na, ⟨lk, ln, ls, lt⟩, ⟨rk, rn, rs, rt⟩, gu⟩ := u
      simp only [GRule.enc, Tm.enc, encS, encI, encL, List.cons_append, List.nil_append] at hg
      simp only [isFor, Tm.kd, Tm.nm] at ht
      generalize rfor op (ru.take i) 0 = acc at ht hln
      cases acc with
      | nil =>
        simp -implicitDefEqProofs (disch := omega) only [go_sem, ↓reduceIte, reduceCtorEq, Nat.reduceEqDiff, Nat.reduceLT, Nat.reduceLeDiff, Nat.reduceAdd, Nat.reduceSub, Nat.reduceMul, IntWalk.i64_in, AV.one.injEq, AC.c.injEq, C.v.injEq, Value.int.injEq, Value.bool.injEq, beq_self_eq_true, bne_self_eq_false, hg, hlt]
        refine ⟨fun h => ⟨fun h2 => ⟨by simp, fun _ => ⟨i + 1, hlt, by omega, ?_⟩⟩, fun h2 => ⟨i + 1, hlt, by omega, ?_⟩⟩, fun h => ⟨i + 1, hlt, by omega, ?_⟩⟩
        · have ht : rfor op (ru.take (i + 1)) 0 = [(i : Int)] := by simpa [h, h2] using ht
          rw [ht]; exact le_mk (by simp [go_sem]) (by simp [go_sem, rowsOf, encI])
        · have ht : rfor op (ru.take (i + 1)) 0 = [] := by simpa [h, h2] using ht
          rw [ht]; exact le_mk (by simp [go_sem]) (by simp [go_sem])
        · have ht : rfor op (ru.take (i + 1)) 0 = [] := by simpa [h] using ht
          rw [ht]; exact le_mk (by simp [go_sem]) (by simp [go_sem])
      | cons q qs =>
        simp -implicitDefEqProofs (disch := omega) only [go_sem, ↓reduceIte, reduceCtorEq, Nat.reduceEqDiff, Nat.reduceLT, Nat.reduceLeDiff, Nat.reduceAdd, Nat.reduceSub, Nat.reduceMul, IntWalk.i64_in, AV.one.injEq, AC.c.injEq, C.v.injEq, Value.int.injEq, Value.bool.injEq, beq_self_eq_true, bne_self_eq_false, hg, hlt]
        simp only [List.length_cons] at hln
        refine ⟨fun h => ⟨fun h2 => ⟨⟨by simp, by omega, by omega⟩, fun _ => ⟨i + 1, hlt, by omega, ?_⟩⟩, fun h2 => ⟨i + 1, hlt, by omega, ?_⟩⟩, fun h => ⟨i + 1, hlt, by omega, ?_⟩⟩
        · have ht : rfor op (ru.take (i + 1)) 0 = q :: (qs ++ [(i : Int)]) := by simpa [h, h2] using ht
          rw [ht]; exact le_mk (by simp [go_sem]) (by simp [go_sem]; exact rowsOf_snoc (ec := encI) (i : Int))
        · have ht : rfor op (ru.take (i + 1)) 0 = q :: qs := by simpa [h, h2] using ht
          rw [ht]; exact le_mk (by simp [go_sem]) (by simp [go_sem])
        · have ht : rfor op (ru.take (i + 1)) 0 = q :: qs := by simpa [h] using ht
          rw [ht]; exact le_mk (by simp [go_sem]) (by simp [go_sem])
    · have : i = ru.length := by omega
      subst this
      rw [List.take_length, ← hr]
      cases r with
      | nil => simp -implicitDefEqProofs (disch := omega) only [go_sem, ↓reduceIte, reduceCtorEq, Nat.reduceEqDiff, Nat.reduceLT, Nat.reduceLeDiff, Nat.reduceAdd, Nat.reduceSub, Nat.reduceMul, IntWalk.i64_in, AV.one.injEq, AC.c.injEq, C.v.injEq, Value.int.injEq, Value.bool.injEq, beq_self_eq_true, bne_self_eq_false, Nat.lt_irrefl]
      | cons q qs =>
        simp -implicitDefEqProofs (disch := omega) only [go_sem, ↓reduceIte, reduceCtorEq, Nat.reduceEqDiff, Nat.reduceLT, Nat.reduceLeDiff, Nat.reduceAdd, Nat.reduceSub, Nat.reduceMul, IntWalk.i64_in, AV.one.injEq, AC.c.injEq, C.v.injEq, Value.int.injEq, Value.bool.injEq, beq_self_eq_true, bne_self_eq_false, Nat.lt_irrefl]
        exact rowsI_isO _

theorem implStrictArgsF_sat (x : GDefinition) (hs : x.st.length < 1048577) (op : ByteArray) : SatF Try.prog 58 [aggV x.enc, strV op] (slV ((strictOf x.st op).map encI)) := by
  obtain ⟨r, hr⟩ : ∃ r, r = strictOf x.st op := ⟨_, rfl⟩
  rw [← hr]
  obtain ⟨⟨so, ops⟩, ru, st⟩ := x
  simp only at hs hr
  refine satF_of_code [slV (r.map encI)] rfl (fun _ h => by cases h) tbOk mixed Try.func58 rfl rfl rfl (by decide +kernel) (by decide +kernel) (Nat.le_of_ble_eq_true rfl) ?_
  simp -implicitDefEqProofs (disch := omega) only [go_sem, ↓reduceIte, reduceCtorEq, Nat.reduceEqDiff, Nat.reduceLT, Nat.reduceLeDiff, Nat.reduceAdd, Nat.reduceSub, Nat.reduceMul, IntWalk.i64_in, AV.one.injEq, AC.c.injEq, C.v.injEq, Value.int.injEq, Value.bool.injEq, beq_self_eq_true, bne_self_eq_false, GDefinition.enc, GSignature.enc, encL, List.cons_append, List.nil_append, List.append_nil]
  refine loopA_rule (ι := Nat) (fun i => match strictOf (st.take i) op with
      | [] => mk 26 [(9, slV (st.map GStrict.enc)), (1, strV op), (5, .one .nil), (10, intV st.length), (11, intV i)] []
      | q :: qs => mk 26 [(9, slV (st.map GStrict.enc)), (1, strV op), (5, .one (.own 23 (q :: qs).length)), (10, intV st.length), (11, intV i)] [(23, .arr 3 1 (rowsOf encI (q :: qs)) false)])
    (fun i => i ≤ st.length) (fun i => st.length - i) 0 (Nat.zero_le _) ?_ tbOk mixed (by decide +kernel) ?_
  · exact le_mk (by simp [go_sem]) (by simp [go_sem])
  · intro i hi
    have hln := strictOf_len st op i
    rcases Nat.lt_or_ge i st.length with hlt | hge
    · have hg := map_getD (ec := GStrict.enc) hlt
      have ht := strictOf_take st op i hlt
      generalize st[i] = u at hg ht
      obtain ⟨a, b⟩ := u
      simp only [GStrict.enc, encS, encI, List.cons_append, List.nil_append] at hg
      simp only at ht
      generalize strictOf (st.take i) op = acc at ht hln
      cases acc with
      | nil =>
        simp -implicitDefEqProofs (disch := omega) only [go_sem, ↓reduceIte, reduceCtorEq, Nat.reduceEqDiff, Nat.reduceLT, Nat.reduceLeDiff, Nat.reduceAdd, Nat.reduceSub, Nat.reduceMul, IntWalk.i64_in, AV.one.injEq, AC.c.injEq, C.v.injEq, Value.int.injEq, Value.bool.injEq, beq_self_eq_true, bne_self_eq_false, hg, hlt]
        refine ⟨fun h => ⟨by simp, fun _ => ⟨i + 1, hlt, by omega, ?_⟩⟩, fun h => ⟨i + 1, hlt, by omega, ?_⟩⟩
        · rw [if_pos h] at ht
          rw [ht]
          exact le_mk (by simp [go_sem]) (by simp [go_sem, rowsOf, encI])
        · rw [if_neg (by simpa using h)] at ht
          rw [ht]
          exact le_mk (by simp [go_sem]) (by simp [go_sem])
      | cons q qs =>
        simp -implicitDefEqProofs (disch := omega) only [go_sem, ↓reduceIte, reduceCtorEq, Nat.reduceEqDiff, Nat.reduceLT, Nat.reduceLeDiff, Nat.reduceAdd, Nat.reduceSub, Nat.reduceMul, IntWalk.i64_in, AV.one.injEq, AC.c.injEq, C.v.injEq, Value.int.injEq, Value.bool.injEq, beq_self_eq_true, bne_self_eq_false, hg, hlt]
        simp only [List.length_cons] at hln
        refine ⟨fun h => ⟨⟨by simp, by omega, by omega⟩, fun _ => ⟨i + 1, hlt, by omega, ?_⟩⟩, fun h => ⟨i + 1, hlt, by omega, ?_⟩⟩
        · rw [if_pos h] at ht
          rw [ht]
          exact le_mk (by simp [go_sem]) (by simp [go_sem]; exact rowsOf_snoc b)
        · rw [if_neg (by simpa using h), List.append_nil] at ht
          rw [ht]
          exact le_mk (by simp [go_sem]) (by simp [go_sem])
    · have : i = st.length := by omega
      subst this
      rw [List.take_length, ← hr]
      cases r with
      | nil => simp -implicitDefEqProofs (disch := omega) only [go_sem, ↓reduceIte, reduceCtorEq, Nat.reduceEqDiff, Nat.reduceLT, Nat.reduceLeDiff, Nat.reduceAdd, Nat.reduceSub, Nat.reduceMul, IntWalk.i64_in, AV.one.injEq, AC.c.injEq, C.v.injEq, Value.int.injEq, Value.bool.injEq, beq_self_eq_true, bne_self_eq_false, Nat.lt_irrefl]
      | cons q qs =>
        simp -implicitDefEqProofs (disch := omega) only [go_sem, ↓reduceIte, reduceCtorEq, Nat.reduceEqDiff, Nat.reduceLT, Nat.reduceLeDiff, Nat.reduceAdd, Nat.reduceSub, Nat.reduceMul, IntWalk.i64_in, AV.one.injEq, AC.c.injEq, C.v.injEq, Value.int.injEq, Value.bool.injEq, beq_self_eq_true, bne_self_eq_false, Nat.lt_irrefl]
        exact rowsI_isO _

theorem rfor_mem (op : ByteArray) : ∀ (rs : List GRule) (i : Nat) (n : Int), n ∈ rfor op rs i → 0 ≤ n ∧ n ≤ i + rs.length
  | [], _, _, h => by simp [rfor] at h
  | r :: rs, i, n, h => by
    simp only [rfor] at h
    have := rfor_mem op rs (i + 1) n
    simp only [List.length_cons]
    split at h
    · rcases List.mem_cons.1 h with h | h
      · omega
      · have := this h; omega
    · have := this h; omega
theorem wfI_of (n : Int) (h : -4611686018427387904 ≤ n) (h' : n ≤ 4611686018427387904) : wfI n := by
  have h1 : IntKind.i64.min = -9223372036854775808 := rfl
  have h2 : IntKind.i64.max = 9223372036854775807 := rfl
  simp only [wfI, Lit.wf, h1, h2, Bool.and_eq_true, decide_eq_true_eq]
  omega
theorem strictOf_wf (st : List GStrict) (op : ByteArray) (h : wfL GStrict.wf st) : ∀ n, n ∈ strictOf st op → wfI n := by
  intro n hn
  unfold strictOf at hn
  obtain ⟨s, hs, rfl⟩ := List.mem_map.1 hn
  exact (h.2 s (List.mem_filter.1 hs).1).2
end Go.Ai
