/- Words: isWord, builtins, what they compute; ReduceWords. -/
import Derived.Test.YtmddjojbaompiaaGreatAiG1
import Derived.Test.YtmddjojbaompiaaGreatAiV2
set_option linter.unusedVariables false
set_option linter.unusedSimpArgs false
namespace Go.Ai
open Go.Proofs
set_option maxRecDepth 100000
def sPlus : ByteArray := ⟨#[112, 108, 117, 115]⟩
def sMinus : ByteArray := ⟨#[109, 105, 110, 117, 115]⟩
def sTimes : ByteArray := ⟨#[116, 105, 109, 101, 115]⟩
def isBi (s : ByteArray) : Bool := eqS s sPlus || eqS s sMinus || eqS s sTimes
theorem specIsBuiltin_sat (s : ByteArray) : Sat Tryz.prog 135 [strV s] (boolV (isBi s)) := by
 obtain ⟨r, hr⟩ : ∃ r, r = isBi s := ⟨_, rfl⟩
 rw [← hr]
 simp only [isBi, eqS, sPlus, sMinus, sTimes] at hr
 refine sat_of_code tbOk mixed Tryz.func135 rfl rfl rfl (by decide +kernel) (by decide +kernel) (Nat.le_of_ble_eq_true rfl) ?_
 simp -implicitDefEqProofs (disch := omega) only [go_sem]
 grind
theorem implIsBuiltin_sat (s : ByteArray) : Sat Tryz.prog 58 [strV s] (boolV (isBi s)) := by
 obtain ⟨r, hr⟩ : ∃ r, r = isBi s := ⟨_, rfl⟩
 rw [← hr]
 simp only [isBi, eqS, sPlus, sMinus, sTimes] at hr
 refine sat_of_code tbOk mixed Tryz.func58 rfl rfl rfl (by decide +kernel) (by decide +kernel) (Nat.le_of_ble_eq_true rfl) ?_
 simp -implicitDefEqProofs (disch := omega) only [go_sem]
 grind
def isWd : Tm → Bool
 | .mk k n s ts => k == 3 && decide (0 ≤ n) && decide (n < 4) && eqS s ⟨#[]⟩ && (ts.length == 0)
theorem implIsWord_sat (t : Tm) (h : t.size < 100000000) : Sat Tryz.prog 168 [tmV t] (boolV (isWd t)) := by
 obtain ⟨r, hr⟩ : ∃ r, r = isWd t := ⟨_, rfl⟩
 rw [← hr]
 obtain ⟨k, n, s, ts⟩ := t
 have hl : ts.length < 100000000 := by have := len_sizes ts; simp only [Tm.size] at h; omega
 simp only [isWd, eqS] at hr
 have hz : ((ts.length : Int) == 0) = (ts.length == 0) := by cases ts <;> simp <;> omega
 refine sat_of_code tbOk mixed Tryz.func168 rfl rfl rfl (by decide +kernel) (by decide +kernel) (Nat.le_of_ble_eq_true rfl) ?_
 simp -implicitDefEqProofs (disch := omega) only [go_sem, Tm.enc, enc_len, hz]
 grind
def opW (s : ByteArray) (a b : Int) : Int := if eqS s sPlus then (a + b) % 4 else if eqS s sMinus then (a - b + 4) % 4 else a * b % 4
end Go.Ai
/- ReduceWords. -/
namespace Go.Ai
open Go.Proofs
set_option maxRecDepth 100000
def redTop (k n : Int) (s : ByteArray) (ts : List Tm) : Tm :=
 match ts with
 | [.mk k1 n1 s1 t1, .mk k2 n2 s2 t2] => if (k == 2 && n == 0 && isBi s && isWd (.mk k1 n1 s1 t1) && isWd (.mk k2 n2 s2 t2)) = true then wordT (opW s n1 n2) else .mk k n s ts
 | _ => .mk k n s ts
mutual
def Tm.red : Tm → Tm
 | .mk k n s ts => redTop k n s (Tm.reds ts)
def Tm.reds : List Tm → List Tm
 | [] => []
 | a :: ts => a.red :: Tm.reds ts
end
theorem reds_map : ∀ (ts : List Tm), Tm.reds ts = ts.map Tm.red
 | [] => rfl
 | a :: ts => by simp only [Tm.reds, List.map_cons, reds_map ts]
theorem wordT_size (n : Int) : (wordT n).size = 0 := rfl
theorem redTop_size (k n : Int) (s : ByteArray) (ts : List Tm) : (redTop k n s ts).size ≤ s.size + Tm.sizes ts := by
 unfold redTop
 split
 ·split
  ·rw [wordT_size]; omega
  ·simp only [Tm.size]; omega
 ·simp only [Tm.size]; omega
mutual
theorem red_size : ∀ (t : Tm), t.red.size ≤ t.size
 | .mk k n s ts => by
  have h1 := redTop_size k n s (Tm.reds ts)
  have h2 := reds_size ts
  simp only [Tm.red, Tm.size]; omega
theorem reds_size : ∀ (ts : List Tm), Tm.sizes (Tm.reds ts) ≤ Tm.sizes ts
 | [] => by simp [Tm.reds]
 | a :: ts => by
  have h1 := red_size a
  have h2 := reds_size ts
  simp only [Tm.reds, Tm.sizes]; omega
end
end Go.Ai
