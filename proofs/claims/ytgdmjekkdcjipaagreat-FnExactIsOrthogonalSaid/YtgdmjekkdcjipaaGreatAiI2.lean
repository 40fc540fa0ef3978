/- Words: isWord, builtins, what they compute; ReduceWords. -/
import Derived.Test.YtgdmjekkdcjipaaGreatAiG1
import Derived.Test.YtgdmjekkdcjipaaGreatAiV2
set_option linter.unusedVariables false
set_option linter.unusedSimpArgs false
namespace Go.Ai
open Go.Proofs
set_option maxRecDepth 100000
def yi1 : ByteArray := ⟨#[112, 108, 117, 115]⟩
def rH0 : ByteArray := ⟨#[109, 105, 110, 117, 115]⟩
def qu1 : ByteArray := ⟨#[116, 105, 109, 101, 115]⟩
def fY0 (s : ByteArray) : Bool := eqS s yi1 || eqS s rH0 || eqS s qu1
theorem qM0 (s : ByteArray) : Sat Tryz.prog 111 [ql0 s] (boolV (fY0 s)) := by
 obtain ⟨r, hr⟩ : ∃ r, r = fY0 s := ⟨_, rfl⟩
 rw [← hr]
 simp only [fY0, eqS, yi1, rH0, qu1] at hr
 refine soc zE0 zB0 Tryz.func111 ?_
 simp -implicitDefEqProofs only [go_sem]
 grind
theorem qI0 (s : ByteArray) : Sat Tryz.prog 87 [ql0 s] (boolV (fY0 s)) := by
 obtain ⟨r, hr⟩ : ∃ r, r = fY0 s := ⟨_, rfl⟩
 rw [← hr]
 simp only [fY0, eqS, yi1, rH0, qu1] at hr
 refine soc zE0 zB0 Tryz.func87 ?_
 simp -implicitDefEqProofs only [go_sem]
 grind
def jL1 : Tm → Bool
 | .mk k n s ts => k == 3 && decide (0 ≤ n) && decide (n < 4) && eqS s ⟨#[]⟩ && (ts.length == 0)
theorem fW0 (t : Tm) (h : t.size < 100000000) : Sat Tryz.prog 218 [tmV t] (boolV (jL1 t)) := by
 obtain ⟨r, hr⟩ : ∃ r, r = jL1 t := ⟨_, rfl⟩
 rw [← hr]
 obtain ⟨k, n, s, ts⟩ := t
 have hl : ts.length < 100000000 := by have := zH0 ts; simp only [Tm.size] at h; omega
 simp only [jL1, eqS] at hr
 have hz : ((ts.length : Int) == 0) = (ts.length == 0) := by cases ts <;> simp <;> omega
 refine soc zE0 zB0 Tryz.func218 ?_
 simp -implicitDefEqProofs only [go_sem, Tm.enc, enc_len, hz]
 grind
def opW (s : ByteArray) (a b : Int) : Int := if eqS s yi1 then (a + b) % 4 else if eqS s rH0 then (a - b + 4) % 4 else a * b % 4
def vy1 (k n : Int) (s : ByteArray) (ts : List Tm) : Tm :=
 match ts with
 | [.mk k1 n1 s1 t1, .mk k2 n2 s2 t2] => if (k == 2 && n == 0 && fY0 s && jL1 (.mk k1 n1 s1 t1) && jL1 (.mk k2 n2 s2 t2)) = true then xS1 (opW s n1 n2) else .mk k n s ts
 | _ => .mk k n s ts
mutual
def Tm.red : Tm → Tm
 | .mk k n s ts => vy1 k n s (Tm.reds ts)
def Tm.reds : List Tm → List Tm
 | [] => []
 | a :: ts => a.red :: Tm.reds ts
end
end Go.Ai
