/- Strict positions: searches, copies, subterms. -/
import Derived.Test.YtdjleacnjijbjaaAiE1
namespace Go.Ai
set_option linter.unusedVariables false
set_option linter.unusedSimpArgs false
open Go.Proofs
set_option maxRecDepth 100000

theorem l1In_sat (a b c : Int) : Sat Try.prog 61 [intV a, intV b, intV c] (boolV (decide (b ≤ a) && decide (a ≤ c))) := by
  obtain ⟨r, hr⟩ : ∃ r, r = (decide (b ≤ a) && decide (a ≤ c)) := ⟨_, rfl⟩
  rw [← hr]
  refine sat_of_code tbOk mixed Try.func61 rfl rfl rfl (by decide +kernel) (by decide +kernel) (Nat.le_of_ble_eq_true rfl) ?_
  simp -implicitDefEqProofs (disch := omega) only [go_sem, ↓reduceIte, reduceCtorEq, Nat.reduceEqDiff, Nat.reduceLT, Nat.reduceLeDiff, Nat.reduceAdd, Nat.reduceSub, Nat.reduceMul, IntWalk.i64_in, AV.one.injEq, AC.c.injEq, C.v.injEq, Value.int.injEq, Value.bool.injEq, beq_self_eq_true, bne_self_eq_false]
  grind

def hasI (xs : List Int) (n : Int) : Bool := xs.any (· == n)
theorem hasI_drop (xs : List Int) (n : Int) (i : Nat) (h : i < xs.length) : hasI (xs.drop i) n = (xs[i] == n || hasI (xs.drop (i + 1)) n) := by
  unfold hasI; rw [List.drop_eq_getElem_cons h]; simp only [List.any_cons]
theorem l1HasInt_sat (xs : List Int) (hl : xs.length ≤ maxLen) (n : Int) : Sat Try.prog 89 [slV (xs.map encI), intV n] (boolV (hasI xs n)) := by
  simp only [maxLen] at hl
  refine sat_of_code tbOk mixed Try.func89 rfl rfl rfl (by decide +kernel) (by decide +kernel) (Nat.le_of_ble_eq_true rfl) ?_
  simp -implicitDefEqProofs (disch := omega) only [go_sem, ↓reduceIte, reduceCtorEq, Nat.reduceEqDiff, Nat.reduceLT, Nat.reduceLeDiff, Nat.reduceAdd, Nat.reduceSub, Nat.reduceMul, IntWalk.i64_in, AV.one.injEq, AC.c.injEq, C.v.injEq, Value.int.injEq, Value.bool.injEq, beq_self_eq_true, bne_self_eq_false]
  refine loopA_rule (ι := Nat) (fun i => mk 18 [(0, slV (xs.map encI)), (1, intV n), (5, intV i)] []) (fun i => i ≤ xs.length ∧ hasI (xs.drop i) n = hasI xs n) (fun i => xs.length - i) 0 ⟨Nat.zero_le _, by simp⟩ ?_ tbOk mixed (by decide +kernel) ?_
  · exact le_mk (by simp [go_sem]) (by simp [go_sem])
  · rintro i ⟨hi, he⟩
    rcases Nat.lt_or_ge i xs.length with hlt | hge
    · have hg := map_getD (ec := encI) hlt
      rw [hasI_drop xs n i hlt] at he
      generalize xs[i] = x at hg he
      simp only [encI] at hg
      simp -implicitDefEqProofs (disch := omega) only [go_sem, ↓reduceIte, reduceCtorEq, Nat.reduceEqDiff, Nat.reduceLT, Nat.reduceLeDiff, Nat.reduceAdd, Nat.reduceSub, Nat.reduceMul, IntWalk.i64_in, AV.one.injEq, AC.c.injEq, C.v.injEq, Value.int.injEq, Value.bool.injEq, beq_self_eq_true, bne_self_eq_false, hg, hlt]
      refine ⟨fun h => by grind, fun h => ⟨i + 1, ⟨hlt, by grind⟩, by omega, le_mk (by simp [go_sem]) (by simp [go_sem])⟩⟩
    · have e1 : xs.drop i = [] := List.drop_of_length_le hge
      rw [e1] at he
      simp -implicitDefEqProofs (disch := omega) only [go_sem, ↓reduceIte, reduceCtorEq, Nat.reduceEqDiff, Nat.reduceLT, Nat.reduceLeDiff, Nat.reduceAdd, Nat.reduceSub, Nat.reduceMul, IntWalk.i64_in, AV.one.injEq, AC.c.injEq, C.v.injEq, Value.int.injEq, Value.bool.injEq, beq_self_eq_true, bne_self_eq_false, Nat.not_lt.2 hge]
      rw [← he]; rfl

def idxI (n : Int) : List Int → Int → Int
  | [], _ => -1
  | x :: xs, k => if n = x then k else idxI n xs (k + 1)
theorem idxI_drop (xs : List Int) (n : Int) (i : Nat) (h : i < xs.length) (k : Int) : idxI n (xs.drop i) k = if n = xs[i] then k else idxI n (xs.drop (i + 1)) (k + 1) := by
  rw [List.drop_eq_getElem_cons h]; simp only [idxI]
theorem idxI_has (n : Int) : ∀ (xs : List Int) (k : Int), 0 ≤ k → decide (0 ≤ idxI n xs k) = hasI xs n
  | [], k, _ => by simp [idxI, hasI]
  | x :: xs, k, hk => by
    have := idxI_has n xs (k + 1) (by omega)
    simp only [idxI, hasI, List.any_cons] at this ⊢
    split
    · rename_i h; subst h; simp [hk]
    · rename_i h
      have : (x == n) = false := by simpa using fun e => h e.symm
      simp_all
theorem slicesIndex_sat (xs : List Int) (hl : xs.length ≤ maxLen) (n : Int) : Sat Try.prog 140 [slV (xs.map encI), intV n] (intV (idxI n xs 0)) := by
  simp only [maxLen] at hl
  refine sat_of_code tbOk mixed Try.func140 rfl rfl rfl (by decide +kernel) (by decide +kernel) (Nat.le_of_ble_eq_true rfl) ?_
  simp -implicitDefEqProofs (disch := omega) only [go_sem, ↓reduceIte, reduceCtorEq, Nat.reduceEqDiff, Nat.reduceLT, Nat.reduceLeDiff, Nat.reduceAdd, Nat.reduceSub, Nat.reduceMul, IntWalk.i64_in, AV.one.injEq, AC.c.injEq, C.v.injEq, Value.int.injEq, Value.bool.injEq, beq_self_eq_true, bne_self_eq_false]
  refine loopA_rule (ι := Nat) (fun i => mk 19 [(0, slV (xs.map encI)), (1, intV n), (7, intV xs.length), (8, intV i)] []) (fun i => i ≤ xs.length ∧ idxI n (xs.drop i) i = idxI n xs 0) (fun i => xs.length - i) 0 ⟨Nat.zero_le _, by simp⟩ ?_ tbOk mixed (by decide +kernel) ?_
  · exact le_mk (by simp [go_sem]) (by simp [go_sem])
  · rintro i ⟨hi, he⟩
    rcases Nat.lt_or_ge i xs.length with hlt | hge
    · have hg := map_getD (ec := encI) hlt
      rw [idxI_drop xs n i hlt] at he
      generalize xs[i] = x at hg he
      simp only [encI] at hg
      simp -implicitDefEqProofs (disch := omega) only [go_sem, ↓reduceIte, reduceCtorEq, Nat.reduceEqDiff, Nat.reduceLT, Nat.reduceLeDiff, Nat.reduceAdd, Nat.reduceSub, Nat.reduceMul, IntWalk.i64_in, AV.one.injEq, AC.c.injEq, C.v.injEq, Value.int.injEq, Value.bool.injEq, beq_self_eq_true, bne_self_eq_false, hg, hlt]
      refine ⟨fun h => by grind, fun h => ⟨i + 1, ⟨hlt, by grind⟩, by omega, le_mk (by simp [go_sem]) (by simp [go_sem])⟩⟩
    · have e1 : xs.drop i = [] := List.drop_of_length_le hge
      rw [e1] at he
      simp -implicitDefEqProofs (disch := omega) only [go_sem, ↓reduceIte, reduceCtorEq, Nat.reduceEqDiff, Nat.reduceLT, Nat.reduceLeDiff, Nat.reduceAdd, Nat.reduceSub, Nat.reduceMul, IntWalk.i64_in, AV.one.injEq, AC.c.injEq, C.v.injEq, Value.int.injEq, Value.bool.injEq, beq_self_eq_true, bne_self_eq_false, Nat.not_lt.2 hge]
      rw [← he]; rfl
theorem slicesContains_sat (xs : List Int) (hl : xs.length ≤ maxLen) (n : Int) : Sat Try.prog 93 [slV (xs.map encI), intV n] (boolV (hasI xs n)) := by
  rw [← idxI_has n xs 0 (by omega)]
  refine sat_of_code tbOk mixed Try.func93 rfl rfl rfl (by decide +kernel) (by decide +kernel) (Nat.le_of_ble_eq_true rfl) ?_
  simp -implicitDefEqProofs (disch := omega) only [go_sem, ↓reduceIte, reduceCtorEq, Nat.reduceEqDiff, Nat.reduceLT, Nat.reduceLeDiff, Nat.reduceAdd, Nat.reduceSub, Nat.reduceMul, IntWalk.i64_in, AV.one.injEq, AC.c.injEq, C.v.injEq, Value.int.injEq, Value.bool.injEq, beq_self_eq_true, bne_self_eq_false]
  refine CallK.mk (slicesIndex_sat xs hl n) ?_
  simp -implicitDefEqProofs (disch := omega) only [go_sem, ↓reduceIte, reduceCtorEq, Nat.reduceEqDiff, Nat.reduceLT, Nat.reduceLeDiff, Nat.reduceAdd, Nat.reduceSub, Nat.reduceMul, IntWalk.i64_in, AV.one.injEq, AC.c.injEq, C.v.injEq, Value.int.injEq, Value.bool.injEq, beq_self_eq_true, bne_self_eq_false]

theorem l3Copy_1 (k n : Int) (s : ByteArray) (ts : List Tm) (hl : ts.length < 1048577) (ih : ∀ t, t ∈ ts → Sat Try.prog 136 [tmV t] (tmV t)) : Sat Try.prog 136 [tmV (.mk k n s ts)] (tmV (.mk k n s ts)) := by
  refine sat_of_code tbOk mixed Try.func136 rfl rfl rfl (by decide +kernel) (by decide +kernel) (Nat.le_of_ble_eq_true rfl) ?_
  simp -implicitDefEqProofs (disch := omega) only [go_sem, ↓reduceIte, reduceCtorEq, Nat.reduceEqDiff, Nat.reduceLT, Nat.reduceLeDiff, Nat.reduceAdd, Nat.reduceSub, Nat.reduceMul, IntWalk.i64_in, AV.one.injEq, AC.c.injEq, C.v.injEq, Value.int.injEq, Value.bool.injEq, beq_self_eq_true, bne_self_eq_false, Tm.enc]
  refine loopA_rule (ι := Nat) (fun i => mk 25 [(1, .one (.ptr 1 0)), (2, .one (.ptr 2 0)), (3, .one (.own 5 (ts.take i).length)), (4, intV i)] [(1, .var [iC k, iC n, sC s, tC ts]), (2, .var zT), (5, .arr 48 4 (rowsOf Tm.enc (ts.take i)) false)])
    (fun i => i ≤ ts.length) (fun i => ts.length - i) 0 (Nat.zero_le _) ?_ tbOk mixed (by decide +kernel) ?_
  · exact le_mk (by simp [go_sem]) (by simp [go_sem, rowsOf])
  · intro i hi
    have hln : (ts.take i).length ≤ ts.length := by rw [List.length_take]; omega
    rcases Nat.lt_or_ge i ts.length with hlt | hge
    · have hg := encs_getD ts i hlt
      have ht : ts.take (i + 1) = ts.take i ++ [ts[i]] := by rw [List.take_add_one, List.getElem?_eq_getElem hlt]; rfl
      simp -implicitDefEqProofs (disch := omega) only [go_sem, ↓reduceIte, reduceCtorEq, Nat.reduceEqDiff, Nat.reduceLT, Nat.reduceLeDiff, Nat.reduceAdd, Nat.reduceSub, Nat.reduceMul, IntWalk.i64_in, AV.one.injEq, AC.c.injEq, C.v.injEq, Value.int.injEq, Value.bool.injEq, beq_self_eq_true, bne_self_eq_false, hg, hlt]
      refine CallK.mk (ih _ (List.getElem_mem hlt)) ?_
      simp -implicitDefEqProofs (disch := omega) only [go_sem, ↓reduceIte, reduceCtorEq, Nat.reduceEqDiff, Nat.reduceLT, Nat.reduceLeDiff, Nat.reduceAdd, Nat.reduceSub, Nat.reduceMul, IntWalk.i64_in, AV.one.injEq, AC.c.injEq, C.v.injEq, Value.int.injEq, Value.bool.injEq, beq_self_eq_true, bne_self_eq_false]
      refine ⟨⟨by simp [enc_len], by omega, by omega⟩, fun _ => ⟨i + 1, hlt, by omega, ?_⟩⟩
      rw [ht]
      generalize ts.take i = acc
      generalize ts[i] = a
      exact le_mk (by simp [go_sem]) (by simp [go_sem, zT]; exact rowsOf_snoc a)
    · have : i = ts.length := by omega
      subst this
      simp -implicitDefEqProofs (disch := omega) only [go_sem, ↓reduceIte, reduceCtorEq, Nat.reduceEqDiff, Nat.reduceLT, Nat.reduceLeDiff, Nat.reduceAdd, Nat.reduceSub, Nat.reduceMul, IntWalk.i64_in, AV.one.injEq, AC.c.injEq, C.v.injEq, Value.int.injEq, Value.bool.injEq, beq_self_eq_true, bne_self_eq_false, Nat.lt_irrefl, List.take_length]
      rw [← encs_map]; rfl
theorem l3Copy_sat : ∀ (t : Tm), t.size < 1048577 → Sat Try.prog 136 [tmV t] (tmV t) := by
  refine Tm.ind (fun k n s ts ih h => l3Copy_1 k n s ts ?_ (fun t ht => ih t ht ?_))
  · have := len_sizes ts; simp only [Tm.size] at h; omega
  · have := size_mem ts t ht; simp only [Tm.size] at h; omega

/-! ### spec.TermAt -/
def Tm.args : Tm → List Tm
  | .mk _ _ _ ts => ts
def termAt : Tm → List Int → Option Tm
  | t, [] => some t
  | t, n :: p => if h : 0 ≤ n ∧ n.toNat < t.args.length then termAt (t.args[n.toNat]'h.2) p else none
theorem termAt_in (k n : Int) (s : ByteArray) (ts : List Tm) (x : Int) (p : List Int) (h0 : 0 ≤ x) (h : x.toNat < ts.length) : termAt (.mk k n s ts) (x :: p) = termAt (ts[x.toNat]) p := by
  exact (termAt.eq_2 (.mk k n s ts) x p).trans (dif_pos (c := 0 ≤ x ∧ x.toNat < ts.length) ⟨h0, h⟩)
theorem termAt_out (k n : Int) (s : ByteArray) (ts : List Tm) (x : Int) (p : List Int) (h : ¬ (0 ≤ x ∧ x.toNat < ts.length)) : termAt (.mk k n s ts) (x :: p) = none := by
  unfold termAt; exact dif_neg h
theorem termAt_nil (t : Tm) : termAt t [] = some t := by unfold termAt; rfl
def noTm : Tm := .mk 0 0 ⟨⟨[]⟩⟩ []
theorem specTermAt_sat (t : Tm) (hs : t.size < 1048577) (p : List Int) (hp : p.length ≤ maxLen) : Sat Try.prog 88 [tmV t, slV (p.map encI)] (.tup [tmV ((termAt t p).getD noTm), boolV (termAt t p).isSome]) := by
  obtain ⟨r, hr⟩ : ∃ r, r = termAt t p := ⟨_, rfl⟩
  rw [← hr]
  simp only [maxLen] at hp
  obtain ⟨k, n, s, ts⟩ := t
  refine sat_of_code tbOk mixed Try.func88 rfl rfl rfl (by decide +kernel) (by decide +kernel) (Nat.le_of_ble_eq_true rfl) ?_
  simp -implicitDefEqProofs (disch := omega) only [go_sem, ↓reduceIte, reduceCtorEq, Nat.reduceEqDiff, Nat.reduceLT, Nat.reduceLeDiff, Nat.reduceAdd, Nat.reduceSub, Nat.reduceMul, IntWalk.i64_in, AV.one.injEq, AC.c.injEq, C.v.injEq, Value.int.injEq, Value.bool.injEq, beq_self_eq_true, bne_self_eq_false, Tm.enc]
  refine loopA_rule (ι := Nat × Tm) (fun i => mk 34 [(1, slV (p.map encI)), (2, .one (.ptr 2 0)), (4, .one (.ptr 4 0)), (5, boolV false), (6, intV i.1)] [(2, .var (i.2.enc.map .c)), (4, .var zT)])
    (fun i => i.1 ≤ p.length ∧ i.2.size < 1048577 ∧ termAt i.2 (p.drop i.1) = r) (fun i => p.length - i.1) (0, .mk k n s ts) ⟨Nat.zero_le _, hs, hr.symm⟩ ?_ tbOk mixed (by decide +kernel) ?_
  · exact le_mk (by simp [go_sem]) (by simp [go_sem, Tm.enc, zT])
  · rintro ⟨i, k, n, s, ts⟩ ⟨hi, hsz, he⟩
    simp only at hi hsz he
    have hlt2 : ts.length < 1048577 := by have := len_sizes ts; simp only [Tm.size] at hsz; omega
    rcases Nat.lt_or_ge i p.length with hlt | hge
    · have hg := map_getD (ec := encI) hlt
      rw [List.drop_eq_getElem_cons hlt] at he
      generalize p[i] = x at hg he
      simp only [encI] at hg
      simp -implicitDefEqProofs (disch := omega) only [go_sem, ↓reduceIte, reduceCtorEq, Nat.reduceEqDiff, Nat.reduceLT, Nat.reduceLeDiff, Nat.reduceAdd, Nat.reduceSub, Nat.reduceMul, IntWalk.i64_in, AV.one.injEq, AC.c.injEq, C.v.injEq, Value.int.injEq, Value.bool.injEq, beq_self_eq_true, bne_self_eq_false, hg, hlt, Tm.enc]
      refine CallK.mk (l1In_sat _ _ _) ?_
      simp -implicitDefEqProofs (disch := omega) only [go_sem, ↓reduceIte, reduceCtorEq, Nat.reduceEqDiff, Nat.reduceLT, Nat.reduceLeDiff, Nat.reduceAdd, Nat.reduceSub, Nat.reduceMul, IntWalk.i64_in, AV.one.injEq, AC.c.injEq, C.v.injEq, Value.int.injEq, Value.bool.injEq, beq_self_eq_true, bne_self_eq_false, hg, hlt]
      refine ⟨fun h => ?_, fun h => ?_⟩
      · rw [termAt_out k n s ts x _ (by simp at h; omega)] at he
        subst he
        rfl
      · simp only [Bool.and_eq_true, decide_eq_true_eq] at h
        have hx : x.toNat < ts.length := by omega
        rw [termAt_in k n s ts x _ h.1 hx] at he
        have hq := encs_getD ts x.toNat hx
        have hm := size_mem ts _ (List.getElem_mem hx)
        simp only [Tm.size] at hsz
        generalize ts[x.toNat] = u at he hq hm
        refine ⟨⟨h.1, by omega, ?_⟩, fun _ => ?_⟩
        · rw [hq]; exact enc_len u
        · simp -implicitDefEqProofs (disch := omega) only [go_sem, ↓reduceIte, reduceCtorEq, Nat.reduceEqDiff, Nat.reduceLT, Nat.reduceLeDiff, Nat.reduceAdd, Nat.reduceSub, Nat.reduceMul, IntWalk.i64_in, AV.one.injEq, AC.c.injEq, C.v.injEq, Value.int.injEq, Value.bool.injEq, beq_self_eq_true, bne_self_eq_false, hq]
          exact ⟨(i + 1, u), ⟨hlt, by simp only; omega, he⟩, by simp only; omega, le_mk (by simp [go_sem]) (by simp [go_sem, zT])⟩
    · have e1 : p.drop i = [] := List.drop_of_length_le hge
      rw [e1, termAt_nil] at he
      subst he
      simp -implicitDefEqProofs (disch := omega) only [go_sem, ↓reduceIte, reduceCtorEq, Nat.reduceEqDiff, Nat.reduceLT, Nat.reduceLeDiff, Nat.reduceAdd, Nat.reduceSub, Nat.reduceMul, IntWalk.i64_in, AV.one.injEq, AC.c.injEq, C.v.injEq, Value.int.injEq, Value.bool.injEq, beq_self_eq_true, bne_self_eq_false, Nat.not_lt.2 hge, Tm.enc]
      refine CallK.mk (l3Copy_sat (.mk k n s ts) hsz) ?_
      simp -implicitDefEqProofs (disch := omega) only [go_sem, ↓reduceIte, reduceCtorEq, Nat.reduceEqDiff, Nat.reduceLT, Nat.reduceLeDiff, Nat.reduceAdd, Nat.reduceSub, Nat.reduceMul, IntWalk.i64_in, AV.one.injEq, AC.c.injEq, C.v.injEq, Value.int.injEq, Value.bool.injEq, beq_self_eq_true, bne_self_eq_false, Tm.enc]
      rfl
end Go.Ai
