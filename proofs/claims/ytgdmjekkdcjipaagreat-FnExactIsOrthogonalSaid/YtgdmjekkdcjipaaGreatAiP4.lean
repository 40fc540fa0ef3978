/- What fires, in the reference. -/
import Derived.Test.YtgdmjekkdcjipaaGreatAiQ3
set_option linter.unusedVariables false
set_option linter.unusedSimpArgs false
namespace Go.Ai
open Go.Proofs
set_option maxRecDepth 100000
theorem xf0 (bs : List GBind) (hbl : bs.length < 100000000) (hb : ∀ b, b ∈ bs → b.t.size < 1048577) (ns : List ByteArray) (hl : ns.length < 100000000) : Sat Tryz.prog 103 [slV (bs.map GBind.enc), slV (ns.map encS)] (slV ((qK0 bs (zr0 ns)).map GBind.enc)) := by
 have hs := yW0 ns hl
 have hsl := qF0 ns
 refine soc zE0 zB0 Tryz.func103 ?_
 simp -implicitDefEqProofs (disch := omega) only [go_sem]
 refine CallK.mk hs ?_
 obtain ⟨r, hr⟩ : ∃ r, r = qK0 bs (zr0 ns) := ⟨_, rfl⟩
 rw [← hr]
 generalize zr0 ns = xs at hr hsl
 simp -implicitDefEqProofs (disch := omega) only [go_sem]
 refine zA0 (ι := Nat) (fun i => mk 39 [(0, slV (bs.map GBind.enc)), (5, .one (.own 10 (qK0 bs (xs.take i)).length)), (6, slV (xs.map encS)), (7, zD0 i)] [(10, .arr 134 5 (rowsOf GBind.enc (qK0 bs (xs.take i))) false)])
  (fun i => i ≤ xs.length) (fun i => xs.length - i) 0 (Nat.zero_le _) ?_ zE0 zB0 (by decide +kernel) ?_
 ·exact zG0 (by simp [go_sem, qK0]) (by simp [go_sem, qK0, rowsOf])
 ·intro i hi
  have hln := kk0 bs (xs.take i)
  rw [List.length_take] at hln
  rcases Nat.lt_or_ge i xs.length with hlt | hge
  ·have hg := zC0 (ec := encS) hlt
   have ht := bF0 bs xs i hlt
   have hf := vo0 bs xs[i] hbl hb
   simp only [encS] at hg
   generalize xs[i] = v at hg ht hf
   simp -implicitDefEqProofs (disch := omega) only [go_sem, hg, hlt, List.length_map]
   refine CallK.mk hf ?_
   cases hq : bnd bs v with
   | none =>
    rw [hq] at ht
    simp only [List.append_nil] at ht
    simp -implicitDefEqProofs (disch := omega) only [go_sem, Option.getD_none, Option.isSome_none, wQ0, Tm.enc, Tm.encs, hg, hlt, List.length_map]
    refine ⟨i + 1, hlt, by omega, ?_⟩
    rw [ht]
    exact lek
   | some t =>
    rw [hq] at ht
    obtain ⟨tk, tn, tsn, tts⟩ := t
    simp -implicitDefEqProofs (disch := omega) only [go_sem, Option.getD_some, Option.isSome_some, Tm.enc, hg, hlt, List.length_map]
    refine ⟨⟨by simp, by omega, by omega⟩, fun _ => ⟨i + 1, hlt, by omega, ?_⟩⟩
    simp only at ht
    rw [ht]
    generalize qK0 bs (xs.take i) = acc
    exact zG0 (by simp [go_sem]) (by simp [go_sem]; rw [← zb0]; rfl)
  ·have : i = xs.length := by omega
   subst this
   simp -implicitDefEqProofs (disch := omega) only [go_sem, Nat.lt_irrefl, List.take_length, List.length_map]
   rw [hr]
end Go.Ai
