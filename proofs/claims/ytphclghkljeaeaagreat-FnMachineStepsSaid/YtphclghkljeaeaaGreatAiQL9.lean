/- FnMachineSteps. -/
import Derived.Test.YtphclghkljeaeaaGreatAiQL1
import Derived.Test.YtphclghkljeaeaaGreatAiDw17
import Derived.Test.YtphclghkljeaeaaGreatAiLM2
import Derived.Test.YtphclghkljeaeaaGreatAiEMs
set_option linter.unusedVariables false
set_option linter.unusedSimpArgs false
namespace Go.Ai
open Go.Proofs
set_option maxRecDepth 100000
theorem yl1 (d : GDefinition) (m : GMachine) (h : (zX0 d m).2 = false) : (zX0 d m).1 = m := by
 unfold zX0 at h ⊢
 split
 ·rename_i hg
  rw [if_pos hg] at h
  cases hm : zy0 d m with
  | none => rfl
  | some m' =>
   rw [hm] at h
   simp only at h ⊢
   split
   ·rename_i hv; rw [if_pos hv] at h; cases h
   ·rfl
 ·rfl
theorem xe1 (d : GDefinition) (m : GMachine) (h : (zX0 d m).2 = true) : zy0 d m = some (zX0 d m).1 ∧ (zY0 d m).isSome = true ∧ (zY0 d (zX0 d m).1).isSome = true := by
 unfold zX0 at h ⊢
 split at h
 case isFalse => cases h
 rename_i hg
 rw [if_pos hg]
 simp only [Bool.and_eq_true] at hg
 cases hm : zy0 d m with
 | none => rw [hm] at h; cases h
 | some m' =>
  rw [hm] at h
  simp only at h ⊢
  split at h
  case isFalse => cases h
  rename_i hv
  rw [if_pos hv]
  simp only [Bool.and_eq_true] at hv
  exact ⟨rfl, hg.1.1, hv.2⟩
theorem kq0 (bs : List Int) (hb : ∀ x, x ∈ bs → 0 ≤ x ∧ x ≤ 255) : Sat Tryz.prog 4 [slV (bs.map mC0)] (boolV true) := by
 have hbig := nO0 bs _ rfl
 refine svc [] zE0 zA0 Tryz.func4 ?_
 refine qI0 ?_
 refine CallK.mk hbig ?_
 by_cases hl : 1048576 < bs.length
 ·rw [decide_eq_true hl]
  simp -implicitDefEqProofs (disch := omega) only [go_sem]
 rw [decide_eq_false hl]
 have hok : wr0 bs := ⟨by omega, hb⟩
 obtain ⟨d, m, gd, gm, hd⟩ := vE0 bs hok
 obtain ⟨t, gt, ht⟩ := vD0 bs hok
 have gts := gt.2
 have hds : d.size < 1048577 := by have := gd.2; omega
 have hdst : d.st.length < 1048577 := by have := zz0 GStrict.size d.st; simp only [GDefinition.size] at hds; omega
 obtain ⟨mw, ms', mr0, mr1⟩ := gm
 have ms : m.size < 1048577 := by omega
 have h1 := (bB0 d gd.1 hds m mw ms).sat
 have h2 := cE0 d gd.1 hds m mw ms
 have hR := lk0 d gd.1 hds m mw ms
 have h3 := kS0 (zX0 d m).1 hR.2 (zX0 d m).1
 rw [GMachine.eqb_refl] at h3
 have h4 := (yA0 d hdst m mw ms).sat
 have hfz := jy0 m ms
 have hsz := fi0 d gd.1 hds m mw (by omega)
 have h5 := (yA0 d hdst (zX0 d m).1 hR.2 (by omega)).sat
 have h6 := (bA0 t (by omega)).sat
 have h7 := zu0 t gt.1 t
 rw [Tm.eqb_refl] at h7
 have htw := (pR0 d m mw).2
 have h8 := zu0 ((zY0 d m).getD zeroT) htw ((zY0 d m).getD zeroT)
 rw [Tm.eqb_refl] at h8
 cases hb2 : (zX0 d m).2 with
 | false =>
  have hs := yl1 d m hb2
  rw [hb2, hs] at h1 h2
  rw [hs] at h3 h5
  generalize (zY0 d m).isSome = b1 at h4 h5
  generalize (zY0 d m).getD zeroT = T at h4 h5
  clear htw h8 h6 h7 hR hsz hs hb2 mw ms ms' gd gt
  obtain ⟨⟨dso, dop⟩, dru, dst⟩ := d
  obtain ⟨⟨k, n, s, ts⟩, nx, fs, rw_⟩ := m
  obtain ⟨Tk, Tn, Tz, Ta⟩ := T
  rw [zN0] at *
  simp only [vU0] at h2
  refine qI0 ?_
  refine CallK.mk hd ?_
  refine na1 ?_
  refine c0' h1 ?_
  refine CallK.con [] [9101] rfl h2 (by simp [go_sem, GDefinition.enc, GSignature.enc, encS, encL]) ?_
  refine qI0 ?_
  refine c0' h3 ?_
  refine c0' h4 ?_
  refine c0' h5 ?_
  refine CallK.mk h3 ?_
  simp -implicitDefEqProofs (disch := omega) only [go_sem]
 | true =>
  obtain ⟨g1, g2, g3⟩ := xe1 d m hb2
  have hcase := wn1 d m _ g1
  rw [hb2] at h1 h2
  rw [g2] at h4
  rw [g3] at h5
  have hcase : ((zX0 d m).1.rw = m.rw ∧ (zY0 d (zX0 d m).1).getD zeroT = (zY0 d m).getD zeroT) ∨ (zX0 d m).1.rw = m.rw + 1 := by
   rcases hcase with ⟨_, e1, e2⟩ | ⟨_, _, e⟩
   ·exact .inl ⟨e1, by rw [e2]⟩
   ·right
    rw [e]
    simp only
    rw [IntWalk.i64_in _ (by omega)]
  generalize (zY0 d (zX0 d m).1).getD zeroT = T' at h5 hcase
  generalize (zY0 d m).getD zeroT = T at h4 h8 hcase
  generalize (zX0 d m).1 = m' at h1 h2 h3 h5 hcase
  clear htw hR hsz hb2 mw ms ms' gd gt g1 g2 g3
  obtain ⟨⟨dso, dop⟩, dru, dst⟩ := d
  obtain ⟨⟨k, n, s, ts⟩, nx, fs, rw_⟩ := m
  obtain ⟨⟨k', n', s', ts'⟩, nx', fs', rw_'⟩ := m'
  obtain ⟨Tk, Tn, Tz, Ta⟩ := T
  obtain ⟨Tk', Tn', Tz', Ta'⟩ := T'
  obtain ⟨tk, tn, tz, ta⟩ := t
  rw [zN0] at hd h4
  rw [zN0] at h3 h5
  rw [zN0, zN0] at h1
  rw [zN0] at h2
  simp only [vU0] at h2
  simp only [qo0, zN0, List.map_nil] at h6
  simp only at hcase mr0 mr1
  refine qI0 ?_
  refine CallK.mk hd ?_
  refine na1 ?_
  refine c0' h1 ?_
  refine CallK.con [] [9101] rfl h2 (by simp [go_sem, GDefinition.enc, GSignature.enc, encS, encL]) ?_
  refine qI0 ?_
  refine c0' h3 ?_
  refine c0' h4 ?_
  refine c0' h5 ?_
  refine CallK.mk ht ?_
  rcases hcase with ⟨e, hT⟩ | e
  ·subst e
   simp only [Tm.mk.injEq] at hT
   obtain ⟨rfl, rfl, rfl, rfl⟩ := hT
   refine jj0 ?_
   refine c0' h8 ?_
   refine c5' h6 ?_
   refine CallK.mk h7 ?_
   simp -implicitDefEqProofs (disch := omega) only [go_sem]
  ·have e2 : (rw_' == rw_) = false := by simp only [beq_eq_false_iff_ne, ne_eq]; omega
   have e3 : ¬ rw_' = rw_ := by omega
   subst e
   simp -implicitDefEqProofs (disch := omega) only [go_sem, Tm.enc, e2]
   refine CallK.mk h6 ?_
   simp -implicitDefEqProofs (disch := omega) only [go_sem, Tm.enc, e2]
   refine CallK.mk h7 ?_
   simp -implicitDefEqProofs (disch := omega) only [go_sem, e2]
end Go.Ai
