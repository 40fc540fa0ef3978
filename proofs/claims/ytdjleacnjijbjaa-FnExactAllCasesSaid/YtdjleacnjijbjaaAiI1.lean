/- Words: isWord, builtins, what they compute; ReduceWords. -/
import Derived.Test.YtdjleacnjijbjaaAiG1
import Derived.Test.YtdjleacnjijbjaaAiV2
namespace Go.Ai
set_option linter.unusedVariables false
set_option linter.unusedSimpArgs false
open Go.Proofs
set_option maxRecDepth 100000

def sPlus : ByteArray := ⟨#[112, 108, 117, 115]⟩
def sMinus : ByteArray := ⟨#[109, 105, 110, 117, 115]⟩
def sTimes : ByteArray := ⟨#[116, 105, 109, 101, 115]⟩
def isBi (s : ByteArray) : Bool := eqS s sPlus || eqS s sMinus || eqS s sTimes
theorem specIsBuiltin_sat (s : ByteArray) : Sat Try.prog 158 [strV s] (boolV (isBi s)) := by
  obtain ⟨r, hr⟩ : ∃ r, r = isBi s := ⟨_, rfl⟩
  rw [← hr]
  simp only [isBi, eqS, sPlus, sMinus, sTimes] at hr
  refine sat_of_code tbOk mixed Try.func158 rfl rfl rfl (by decide +kernel) (by decide +kernel) (Nat.le_of_ble_eq_true rfl) ?_
  simp -implicitDefEqProofs (disch := omega) only [go_sem, ↓reduceIte, reduceCtorEq, Nat.reduceEqDiff, Nat.reduceLT, Nat.reduceLeDiff, Nat.reduceAdd, Nat.reduceSub, Nat.reduceMul, IntWalk.i64_in, AV.one.injEq, AC.c.injEq, C.v.injEq, Value.int.injEq, Value.bool.injEq, beq_self_eq_true, bne_self_eq_false]
  grind
theorem implIsBuiltin_sat (s : ByteArray) : Sat Try.prog 125 [strV s] (boolV (isBi s)) := by
  obtain ⟨r, hr⟩ : ∃ r, r = isBi s := ⟨_, rfl⟩
  rw [← hr]
  simp only [isBi, eqS, sPlus, sMinus, sTimes] at hr
  refine sat_of_code tbOk mixed Try.func125 rfl rfl rfl (by decide +kernel) (by decide +kernel) (Nat.le_of_ble_eq_true rfl) ?_
  simp -implicitDefEqProofs (disch := omega) only [go_sem, ↓reduceIte, reduceCtorEq, Nat.reduceEqDiff, Nat.reduceLT, Nat.reduceLeDiff, Nat.reduceAdd, Nat.reduceSub, Nat.reduceMul, IntWalk.i64_in, AV.one.injEq, AC.c.injEq, C.v.injEq, Value.int.injEq, Value.bool.injEq, beq_self_eq_true, bne_self_eq_false]
  grind
def isWd : Tm → Bool
  | .mk k n s ts => k == 3 && decide (0 ≤ n) && decide (n < 4) && eqS s ⟨#[]⟩ && (ts.length == 0)
theorem specIsWord_sat (t : Tm) (h : t.size < 100000000) : Sat Try.prog 150 [tmV t] (boolV (isWd t)) := by
  obtain ⟨r, hr⟩ : ∃ r, r = isWd t := ⟨_, rfl⟩
  rw [← hr]
  obtain ⟨k, n, s, ts⟩ := t
  have hl : ts.length < 100000000 := by have := len_sizes ts; simp only [Tm.size] at h; omega
  simp only [isWd, eqS] at hr
  refine sat_of_code tbOk mixed Try.func150 rfl rfl rfl (by decide +kernel) (by decide +kernel) (Nat.le_of_ble_eq_true rfl) ?_
  simp -implicitDefEqProofs (disch := omega) only [go_sem, ↓reduceIte, reduceCtorEq, Nat.reduceEqDiff, Nat.reduceLT, Nat.reduceLeDiff, Nat.reduceAdd, Nat.reduceSub, Nat.reduceMul, IntWalk.i64_in, AV.one.injEq, AC.c.injEq, C.v.injEq, Value.int.injEq, Value.bool.injEq, beq_self_eq_true, bne_self_eq_false, Tm.enc]
  refine ⟨fun h1 => CallK.mk (l1In_sat n 0 3) ?_, fun h1 => by grind⟩
  have hz : ((ts.length : Int) == 0) = (ts.length == 0) := by cases ts <;> simp <;> omega
  simp -implicitDefEqProofs (disch := omega) only [go_sem, ↓reduceIte, reduceCtorEq, Nat.reduceEqDiff, Nat.reduceLT, Nat.reduceLeDiff, Nat.reduceAdd, Nat.reduceSub, Nat.reduceMul, IntWalk.i64_in, AV.one.injEq, AC.c.injEq, C.v.injEq, Value.int.injEq, Value.bool.injEq, beq_self_eq_true, bne_self_eq_false, Tm.enc, enc_len, hz]
  grind
theorem implIsWord_sat (t : Tm) (h : t.size < 100000000) : Sat Try.prog 126 [tmV t] (boolV (isWd t)) := by
  obtain ⟨r, hr⟩ : ∃ r, r = isWd t := ⟨_, rfl⟩
  rw [← hr]
  obtain ⟨k, n, s, ts⟩ := t
  have hl : ts.length < 100000000 := by have := len_sizes ts; simp only [Tm.size] at h; omega
  simp only [isWd, eqS] at hr
  have hz : ((ts.length : Int) == 0) = (ts.length == 0) := by cases ts <;> simp <;> omega
  refine sat_of_code tbOk mixed Try.func126 rfl rfl rfl (by decide +kernel) (by decide +kernel) (Nat.le_of_ble_eq_true rfl) ?_
  simp -implicitDefEqProofs (disch := omega) only [go_sem, ↓reduceIte, reduceCtorEq, Nat.reduceEqDiff, Nat.reduceLT, Nat.reduceLeDiff, Nat.reduceAdd, Nat.reduceSub, Nat.reduceMul, IntWalk.i64_in, AV.one.injEq, AC.c.injEq, C.v.injEq, Value.int.injEq, Value.bool.injEq, beq_self_eq_true, bne_self_eq_false, Tm.enc, enc_len, hz]
  grind
def opW (s : ByteArray) (a b : Int) : Int := if eqS s sPlus then (a + b) % 4 else if eqS s sMinus then (a - b + 4) % 4 else a * b % 4
theorem op_eq (a b : Int) (ha : 0 ≤ a ∧ a < 4) (hb : 0 ≤ b ∧ b < 4) : (IntKind.i64.wrap ((a + b).tmod 4 + 4)).tmod 4 = (a + b) % 4 ∧ (IntKind.i64.wrap ((a - b).tmod 4 + 4)).tmod 4 = (a - b + 4) % 4 ∧
    (IntKind.i64.wrap ((IntKind.i64.wrap (a * b)).tmod 4 + 4)).tmod 4 = a * b % 4 ∧ (a + b).tmod 4 = (a + b) % 4 ∧ (a - b + 4).tmod 4 = (a - b + 4) % 4 ∧ (IntKind.i64.wrap (a * b)).tmod 4 = a * b % 4 := by
  have h1 : a = 0 ∨ a = 1 ∨ a = 2 ∨ a = 3 := by omega
  have h2 : b = 0 ∨ b = 1 ∨ b = 2 ∨ b = 3 := by omega
  rcases h1 with rfl | rfl | rfl | rfl <;> rcases h2 with rfl | rfl | rfl | rfl <;> decide +kernel
theorem specOp_sat (s : ByteArray) (a b : Int) (ha : 0 ≤ a ∧ a < 4) (hb : 0 ≤ b ∧ b < 4) : Sat Try.prog 159 [strV s, intV a, intV b] (intV (opW s a b)) := by
  obtain ⟨r, hr⟩ : ∃ r, r = opW s a b := ⟨_, rfl⟩
  rw [← hr]
  simp only [opW, eqS, sPlus, sMinus] at hr
  obtain ⟨e1, e2, e3, e4, e5, e6⟩ := op_eq a b ha hb
  refine sat_of_code tbOk mixed Try.func159 rfl rfl rfl (by decide +kernel) (by decide +kernel) (Nat.le_of_ble_eq_true rfl) ?_
  simp -implicitDefEqProofs (disch := omega) only [go_sem, ↓reduceIte, reduceCtorEq, Nat.reduceEqDiff, Nat.reduceLT, Nat.reduceLeDiff, Nat.reduceAdd, Nat.reduceSub, Nat.reduceMul, IntWalk.i64_in, AV.one.injEq, AC.c.injEq, C.v.injEq, Value.int.injEq, Value.bool.injEq, beq_self_eq_true, bne_self_eq_false, e1, e2, e3]
  grind
theorem implCompute_sat (s : ByteArray) (a b : Int) (ha : 0 ≤ a ∧ a < 4) (hb : 0 ≤ b ∧ b < 4) : Sat Try.prog 127 [strV s, intV a, intV b] (intV (opW s a b)) := by
  obtain ⟨r, hr⟩ : ∃ r, r = opW s a b := ⟨_, rfl⟩
  rw [← hr]
  simp only [opW, eqS, sPlus, sMinus] at hr
  obtain ⟨e1, e2, e3, e4, e5, e6⟩ := op_eq a b ha hb
  refine sat_of_code tbOk mixed Try.func127 rfl rfl rfl (by decide +kernel) (by decide +kernel) (Nat.le_of_ble_eq_true rfl) ?_
  simp -implicitDefEqProofs (disch := omega) only [go_sem, ↓reduceIte, reduceCtorEq, Nat.reduceEqDiff, Nat.reduceLT, Nat.reduceLeDiff, Nat.reduceAdd, Nat.reduceSub, Nat.reduceMul, IntWalk.i64_in, AV.one.injEq, AC.c.injEq, C.v.injEq, Value.int.injEq, Value.bool.injEq, beq_self_eq_true, bne_self_eq_false, e4, e5, e6]
  grind
end Go.Ai
