/- FnMachine. -/
import Derived.Test.YtphclghkljeaeaaGreatAiQL1
import Derived.Test.YtphclghkljeaeaaGreatAiDw16
import Derived.Test.YtphclghkljeaeaaGreatAiMS2
import Derived.Test.YtphclghkljeaeaaGreatAiEM
set_option linter.unusedVariables false
set_option linter.unusedSimpArgs false
namespace Go.Ai
open Go.Proofs
set_option maxRecDepth 100000
theorem bf0 (bs : List Int) (hb : ∀ x, x ∈ bs → 0 ≤ x ∧ x ≤ 255) : Sat Tryz.prog 5 [slV (bs.map bS0)] (boolV true) := by
 have hbig := rS0 bs _ rfl
 refine soc zE0 zA0 Tryz.func5 ?_
 refine qV0 ?_
 refine CallK.mk hbig ?_
 by_cases hl : 1048576 < bs.length
 ·rw [decide_eq_true hl]
  simp -implicitDefEqProofs (disch := omega) only [go_sem]
 rw [decide_eq_false hl]
 have hok : wU0 bs := ⟨by omega, hb⟩
 obtain ⟨d, t, f, gd, gt, gf, hd⟩ := xF0 bs hok
 have gts := gt.2
 have hds : d.size < 1048577 := by have := gd.2; omega
 have hdw := gd.1
 have htw := gt.1
 clear gd gt
 cases hg : runOk d t f with
 | false =>
  have h1 := (be0 d hds t (by omega) f hg).sat
  have h2 := bk0 d hds t (by omega) f hg
  have h3 := yF0 zeroM ⟨tv0, kU0 0 (by omega) (by omega), ⟨Nat.zero_le _, fun _ h => by cases h⟩, kU0 0 (by omega) (by omega)⟩ zeroM
  rw [GMachine.eqb_refl] at h3
  have h4 := vq0 d hds t (by omega) f hg
  obtain ⟨⟨dso, dop⟩, dru, dst⟩ := d
  obtain ⟨tk, tn, tz, ta⟩ := t
  refine qV0 ?_
  refine CallK.mk hd ?_
  refine cn1 ?_
  refine CallK.mk h1 ?_
  refine sl1 ?_
  refine CallK.mk h2 ?_
  refine sl1 ?_
  refine c0' h3 ?_
  refine CallK.mk h4 ?_
  simp -implicitDefEqProofs (disch := omega) only [go_sem, zeroT, Tm.enc, Tm.encs, List.cons_append, List.nil_append]
 | true =>
  have hg' := hg
  unfold runOk at hg'
  simp only [Bool.and_eq_true, decide_eq_true_eq] at hg'
  obtain ⟨hcf, hf0, hf1⟩ := hg'
  obtain ⟨n, rfl⟩ : ∃ n : Nat, f = (n : Int) := ⟨f.toNat, by omega⟩
  have hn : n ≤ 200 := by omega
  obtain ⟨R, T, c, h2, h1, hRw, hRs, hT, hTw, hrw, hrun⟩ := fZ1 d hdw hds t htw (by omega) n hn hcf
  have h1 := h1.sat
  have h3 := yF0 R hRw R
  rw [GMachine.eqb_refl] at h3
  have h4 := bJ0 d hdw hds t htw (by omega) hcf n hn
  generalize runF d n t 0 = z at h4 hrun
  obtain ⟨zs, zt, zc⟩ := z
  simp only [Prod.mk.injEq] at hrun
  obtain ⟨rfl, rfl⟩ := hrun
  have h5 := (kc0 d (by have := zs0 GStrict.size d.st; simp only [GDefinition.size] at hds; omega) R hRw hRs).sat
  rw [hT] at h5
  have h6 := wk0 zt hTw zt
  rw [Tm.eqb_refl] at h6
  simp only [Option.getD_some, Option.isSome_some] at h5
  clear hTw hT hRw hRs hg hcf hdw htw
  obtain ⟨⟨dso, dop⟩, dru, dst⟩ := d
  obtain ⟨tk, tn, tz, ta⟩ := t
  obtain ⟨⟨Rk, Rn, Rz, Ra⟩, Rx, Rf, Rr⟩ := R
  obtain ⟨uk, un, uz, ua⟩ := zt
  simp only at hrw
  subst hrw
  rw [machEnc] at h1 h2 h3 h5
  refine qV0 ?_
  refine CallK.mk hd ?_
  refine cn1 ?_
  refine c0' h1 ?_
  refine c0' h2 ?_
  refine c0' h3 ?_
  refine CallK.mk h4 ?_
  simp -implicitDefEqProofs (disch := omega) only [go_sem, Tm.enc, List.cons_append, List.nil_append]
  refine c4' h5 ?_
  refine CallK.mk h6 ?_
  simp -implicitDefEqProofs (disch := omega) only [go_sem]
end Go.Ai
