/- Substitutions of the program: bound, composed, restricted. -/
import Derived.Test.YtgdmjekkdcjipaaGreatAiUN4
import Derived.Test.YtgdmjekkdcjipaaGreatAiUN3
import Derived.Test.YtgdmjekkdcjipaaGreatAiP4
import Derived.Test.YtgdmjekkdcjipaaGreatAiRow2
set_option linter.unusedVariables false
set_option linter.unusedSimpArgs false
namespace Go.Ai
open Go.Proofs
set_option maxRecDepth 100000
theorem xU0 (bs : List GBind) (s : ByteArray) (hl : bs.length < 100000000) (hb : ∀ b, b ∈ bs → b.t.size < 1048577) : Sat Tryz.prog 158 [slV (bs.map GBind.enc), ql0 s] (.tup [tmV ((bnd bs s).getD wQ0), boolV (bnd bs s).isSome]) := by
 have hbd := pA0 bs s hl
 have hsz : ((bnd bs s).getD wQ0).size < 100000000 := by
  cases h : bnd bs s with
  | none => decide +kernel
  | some t => have := bX0 bs hb s t h; simp only [Option.getD_some]; omega
 have hcp := (yd0 ((bnd bs s).getD wQ0) hsz).sat
 generalize (bnd bs s).getD wQ0 = t at hbd hcp
 obtain ⟨k, n, z, ts⟩ := t
 refine soc zE0 zB0 Tryz.func158 ?_
 simp -implicitDefEqProofs (disch := omega) only [go_sem, Tm.enc]
 refine CallK.mk hbd ?_
 simp -implicitDefEqProofs (disch := omega) only [go_sem, Tm.enc]
 refine CallK.mk hcp ?_
 simp -implicitDefEqProofs (disch := omega) only [go_sem, Tm.enc]
 rfl
theorem xX0 (bs : List GBind) (hbl : bs.length < 100000000) (hb : ∀ b, b ∈ bs → b.t.size < 1048577) (ns : List ByteArray) (hl : ns.length < 100000000) : Sat Tryz.prog 92 [slV (bs.map GBind.enc), slV (ns.map encS)] (slV ((qK0 bs (qh0 ns)).map GBind.enc)) := by
 have hs := vS0 ns hl
 have hsl := yV0 ns
 refine soc zE0 zB0 Tryz.func92 ?_
 simp -implicitDefEqProofs (disch := omega) only [go_sem]
 refine CallK.mk hs ?_
 obtain ⟨r, hr⟩ : ∃ r, r = qK0 bs (qh0 ns) := ⟨_, rfl⟩
 rw [← hr]
 generalize qh0 ns = xs at hr hsl
 simp -implicitDefEqProofs (disch := omega) only [go_sem]
 refine zA0 (ι := Nat) (fun i => mk 32 [(0, slV (bs.map GBind.enc)), (5, .one (.own 9000 (qK0 bs (xs.take i)).length)), (11, slV (xs.map encS)), (12, zD0 xs.length), (13, zD0 i)] [(9000, .arr 134 5 (rowsOf GBind.enc (qK0 bs (xs.take i))) false)])
  (fun i => i ≤ xs.length) (fun i => xs.length - i) 0 (Nat.zero_le _) ?_ zE0 zB0 (by decide +kernel) ?_
 ·refine (yG0 (t := 5) 9000 134 5 rfl (by decide) rfl (by decide)).trans ?_
  exact zG0 (by simp [go_sem, qK0]) (by simp [go_sem, qK0, rowsOf])
 ·intro i hi
  have hln := kk0 bs (xs.take i)
  rw [List.length_take] at hln
  rcases Nat.lt_or_ge i xs.length with hlt | hge
  ·have hg := zC0 (ec := encS) hlt
   have ht := bF0 bs xs i hlt
   have hf := xU0 bs xs[i] hbl hb
   simp only [encS] at hg
   generalize xs[i] = v at hg ht hf
   simp -implicitDefEqProofs (disch := omega) only [go_sem, hg, hlt, List.length_map]
   refine CallK.mk hf ?_
   cases hq : bnd bs v with
   | none =>
    rw [hq] at ht
    simp only [List.append_nil] at ht
    simp -implicitDefEqProofs (disch := omega) only [go_sem, Option.getD_none, Option.isSome_none, wQ0, Tm.enc, Tm.encs, hg, hlt, List.length_map]
    refine ⟨i + 1, hlt, by omega, ?_⟩
    rw [ht]
    exact lek
   | some t =>
    rw [hq] at ht
    obtain ⟨tk, tn, tsn, tts⟩ := t
    simp -implicitDefEqProofs (disch := omega) only [go_sem, Option.getD_some, Option.isSome_some, Tm.enc, hg, hlt, List.length_map]
    refine ⟨⟨by simp, by omega, by omega⟩, fun _ => ⟨i + 1, hlt, by omega, ?_⟩⟩
    simp only at ht
    rw [ht]
    generalize qK0 bs (xs.take i) = acc
    exact zG0 (by simp [go_sem]) (by simp [go_sem]; rw [← zb0]; rfl)
  ·have : i = xs.length := by omega
   subst this
   simp -implicitDefEqProofs (disch := omega) only [go_sem, Nat.lt_irrefl, List.take_length, List.length_map]
   rw [hr]
theorem dO0 (na : ByteArray) (t : Tm) (h : t.size < 100000000) : Sat Tryz.prog 200 [qA0 (GBind.enc ⟨na, t⟩)] (qA0 (GBind.enc ⟨na, t⟩)) := by
 have hcp := (yd0 t h).sat
 obtain ⟨k, n, z, ts⟩ := t
 refine soc zE0 zB0 Tryz.func200 ?_
 simp -implicitDefEqProofs (disch := omega) only [go_sem, GBind.enc, Tm.enc, encS, List.cons_append, List.nil_append]
 refine CallK.mk hcp ?_
 simp -implicitDefEqProofs (disch := omega) only [go_sem, GBind.enc, Tm.enc, encS, List.cons_append, List.nil_append]
 rfl
theorem nS0 (a b : List GBind) (i : Nat) (h : i < a.length) : (a.take (i + 1)).map (fun x => (⟨x.na, x.t.sub b⟩ : GBind)) = (a.take i).map (fun x => (⟨x.na, x.t.sub b⟩ : GBind)) ++ [⟨a[i].na, a[i].t.sub b⟩] := by
 rw [List.take_add_one, List.getElem?_eq_getElem h, List.map_append]; rfl
theorem nR0 (a b : List GBind) (i : Nat) (h : i < b.length) : (b.take (i + 1)).filter (fun y => (bnd a y.na).isNone) = (b.take i).filter (fun y => (bnd a y.na).isNone) ++ (if (bnd a b[i].na).isNone then [b[i]] else []) := by
 rw [List.take_add_one, List.getElem?_eq_getElem h, Option.toList_some, List.filter_append]
 congr 1
 simp only [List.filter_cons, List.filter_nil]
theorem jH0 (a b : List GBind) (hal : a.length < 1000000) (hbl : b.length < 1000000) (ha : ∀ x, x ∈ a → x.t.size < 1048577) (hb : ∀ x, x ∈ b → x.t.size < 1048577) : Sat Tryz.prog 157 [slV (a.map GBind.enc), slV (b.map GBind.enc)] (slV ((comp a b).map GBind.enc)) := by
 obtain ⟨r, hr⟩ : ∃ r, r = comp a b := ⟨_, rfl⟩
 rw [← hr]
 refine soc zE0 zB0 Tryz.func157 ?_
 simp -implicitDefEqProofs (disch := omega) only [go_sem]
 obtain ⟨M, hM⟩ : ∃ M : Nat → List GBind, M = fun i => (a.take i).map (fun x => (⟨x.na, x.t.sub b⟩ : GBind)) := ⟨_, rfl⟩
 have hM0 : M 0 = [] := by rw [hM]; rfl
 have hMl : ∀ i, i ≤ a.length → (M i).length = i := by intro i hi; rw [hM]; simp; omega
 have hMs : ∀ i (h : i < a.length), M (i + 1) = M i ++ [⟨a[i].na, a[i].t.sub b⟩] := by intro i h; rw [hM]; exact nS0 a b i h
 have hMe : M a.length = a.map (fun x => (⟨x.na, x.t.sub b⟩ : GBind)) := by rw [hM]; simp
 clear hM
 refine zA0 (ι := Nat) (fun i => mk 51 [(0, slV (a.map GBind.enc)), (1, slV (b.map GBind.enc)), (5, .one (.own 9000 (M i).length)), (12, slV (a.map GBind.enc)), (13, zD0 a.length), (14, zD0 i)] [(9000, .arr 134 5 (rowsOf GBind.enc (M i)) false)])
  (fun i => i ≤ a.length) (fun i => a.length - i) 0 (Nat.zero_le _) ?_ zE0 zB0 (by decide +kernel) ?_
 ·refine (yG0 (t := 5) 9000 134 5 rfl (by decide) rfl (by decide)).trans ?_
  exact zG0 (by simp [go_sem, hM0]) (by simp [go_sem, hM0, rowsOf])
 ·intro i hi
  rcases Nat.lt_or_ge i a.length with hlt | hge
  ·have hg := zC0 (ec := GBind.enc) hlt
   have hs := hMs i hlt
   have hl := hMl i hi
   have hsu := (wV0 b (by omega) hb a[i].t (by have := ha _ (List.getElem_mem hlt); omega)).sat
   generalize a[i] = x at hg hs hsu
   obtain ⟨xna, xk, xn, xs, xt⟩ := x
   simp only [GBind.enc, Tm.enc, encS, List.cons_append, List.nil_append] at hg
   simp only at hs hsu
   generalize (Tm.mk xk xn xs xt).sub b = y at hs hsu
   obtain ⟨yk, yn, ys, yt⟩ := y
   simp -implicitDefEqProofs (disch := omega) only [go_sem, hg, hlt, List.length_map]
   refine CallK.mk hsu ?_
   simp -implicitDefEqProofs (disch := omega) only [go_sem, Tm.enc, hl]
   refine ⟨⟨by simp, by omega, by omega⟩, fun _ => ⟨i + 1, hlt, by omega, ?_⟩⟩
   have hl2 := hMl (i + 1) hlt
   rw [hl2, hs]
   generalize M i = acc at hl
   exact zG0 (by simp [go_sem]) (by simp [go_sem]; rw [← zb0]; rfl)
  ·have hi : i = a.length := by omega
   subst hi
   rw [hMe]
   have hml : (a.map (fun x => (⟨x.na, x.t.sub b⟩ : GBind))).length = a.length := List.length_map ..
   generalize hm1 : a.map (fun x => (⟨x.na, x.t.sub b⟩ : GBind)) = m1 at hml
   simp -implicitDefEqProofs (disch := omega) only [go_sem, Nat.lt_irrefl, List.length_map]
   obtain ⟨M2, hM2⟩ : ∃ M2 : Nat → List GBind, M2 = fun i => m1 ++ (b.take i).filter (fun y => (bnd a y.na).isNone) := ⟨_, rfl⟩
   have h20 : M2 0 = m1 := by rw [hM2]; simp
   have h2l : ∀ i, i ≤ b.length → (M2 i).length ≤ a.length + i := by
    intro i hi; rw [hM2]
    have := List.length_filter_le (fun y => (bnd a y.na).isNone) (b.take i)
    rw [List.length_take] at this
    simp only [List.length_append]; omega
   have h2s : ∀ i (h : i < b.length), M2 (i + 1) = M2 i ++ (if (bnd a b[i].na).isNone then [b[i]] else []) := by
    intro i h; rw [hM2]; simp only; rw [nR0 a b i h, List.append_assoc]
   have h2e : M2 b.length = r := by rw [hM2, hr, comp, ← hm1]; simp
   clear hM2
   refine zA0 (ι := Nat) (fun i => mk 51 [(0, slV (a.map GBind.enc)), (5, .one (.own 9000 (M2 i).length)), (29, slV (b.map GBind.enc)), (30, zD0 b.length), (31, zD0 i)] [(9000, .arr 134 5 (rowsOf GBind.enc (M2 i)) false)])
    (fun i => i ≤ b.length) (fun i => b.length - i) 0 (Nat.zero_le _) ?_ zE0 zB0 (by decide +kernel) ?_
   ·exact zG0 (by simp [go_sem, h20]) (by simp [go_sem, h20])
   ·intro i hi
    rcases Nat.lt_or_ge i b.length with hlt | hge
    ·have hg := zC0 (ec := GBind.enc) hlt
     have hs := h2s i hlt
     have hl := h2l i hi
     have hbd := pA0 a b[i].na (by omega)
     have hcb := dO0 b[i].na b[i].t (by have := hb _ (List.getElem_mem hlt); omega)
     generalize b[i] = x at hg hs hbd hcb
     obtain ⟨xna, xk, xn, xs, xt⟩ := x
     simp only [GBind.enc, Tm.enc, encS, List.cons_append, List.nil_append] at hg hcb
     simp only at hs hbd
     generalize ho : bnd a xna = o at hs hbd
     generalize o.getD wQ0 = y at hbd
     obtain ⟨yk, yn, ys, yt⟩ := y
     simp -implicitDefEqProofs (disch := omega) only [go_sem, hg, hlt, List.length_map]
     refine CallK.mk hbd ?_
     cases o with
     | some u =>
      simp only [Option.isNone_some, Bool.false_eq_true, if_false, List.append_nil] at hs
      simp -implicitDefEqProofs (disch := omega) only [go_sem, Tm.enc, Option.isSome_some]
      refine ⟨i + 1, hlt, by omega, ?_⟩
      rw [hs]
      exact lek
     | none =>
      simp only [Option.isNone_none, if_true] at hs
      simp -implicitDefEqProofs (disch := omega) only [go_sem, Tm.enc, Option.isSome_none]
      refine CallK.mk hcb ?_
      simp -implicitDefEqProofs (disch := omega) only [go_sem, Tm.enc, Option.isSome_none]
      refine ⟨⟨by simp, by omega, by omega⟩, fun _ => ⟨i + 1, hlt, by omega, ?_⟩⟩
      rw [hs]
      generalize M2 i = acc at hl
      exact zG0 (by simp [go_sem]) (by simp [go_sem]; rw [← zb0]; rfl)
    ·have hi : i = b.length := by omega
     subst hi
     rw [h2e]
     simp -implicitDefEqProofs (disch := omega) only [go_sem, Nat.lt_irrefl, List.length_map]
theorem pu0 (a b : List GBind) (hal : a.length < 1000000) (hbl : b.length < 1000000) (ha : ∀ x, x ∈ a → x.t.size < 1048577) (hb : ∀ x, x ∈ b → x.t.size < 1048577) : Sat Tryz.prog 220 [slV (a.map GBind.enc), slV (b.map GBind.enc)] (slV ((comp a b).map GBind.enc)) := by
 obtain ⟨r, hr⟩ : ∃ r, r = comp a b := ⟨_, rfl⟩
 rw [← hr]
 refine soc zE0 zB0 Tryz.func220 ?_
 simp -implicitDefEqProofs (disch := omega) only [go_sem]
 obtain ⟨M, hM⟩ : ∃ M : Nat → List GBind, M = fun i => (a.take i).map (fun x => (⟨x.na, x.t.sub b⟩ : GBind)) := ⟨_, rfl⟩
 have hM0 : M 0 = [] := by rw [hM]; rfl
 have hMl : ∀ i, i ≤ a.length → (M i).length = i := by intro i hi; rw [hM]; simp; omega
 have hMs : ∀ i (h : i < a.length), M (i + 1) = M i ++ [⟨a[i].na, a[i].t.sub b⟩] := by intro i h; rw [hM]; exact nS0 a b i h
 have hMe : M a.length = a.map (fun x => (⟨x.na, x.t.sub b⟩ : GBind)) := by rw [hM]; simp
 clear hM
 refine zA0 (ι := Nat) (fun i => mk 61 [(0, slV (a.map GBind.enc)), (1, slV (b.map GBind.enc)), (5, .one (.own 8 (M i).length)), (6, zD0 i)] [(8, .arr 134 5 (rowsOf GBind.enc (M i)) false)])
  (fun i => i ≤ a.length) (fun i => a.length - i) 0 (Nat.zero_le _) ?_ zE0 zB0 (by decide +kernel) ?_
 ·exact zG0 (by simp [go_sem, hM0]) (by simp [go_sem, hM0, rowsOf])
 ·intro i hi
  rcases Nat.lt_or_ge i a.length with hlt | hge
  ·have hg := zC0 (ec := GBind.enc) hlt
   have hs := hMs i hlt
   have hl := hMl i hi
   have hsu := wX0 b (by omega) hb a[i].t (by have := ha _ (List.getElem_mem hlt); omega)
   generalize a[i] = x at hg hs hsu
   obtain ⟨xna, xk, xn, xs, xt⟩ := x
   simp only [GBind.enc, Tm.enc, encS, List.cons_append, List.nil_append] at hg
   simp only at hs hsu
   generalize (Tm.mk xk xn xs xt).sub b = y at hs hsu
   obtain ⟨yk, yn, ys, yt⟩ := y
   simp -implicitDefEqProofs (disch := omega) only [go_sem, hg, hlt, List.length_map]
   refine CallK.mk hsu ?_
   simp -implicitDefEqProofs (disch := omega) only [go_sem, Tm.enc, hl]
   refine ⟨⟨by simp, by omega, by omega⟩, fun _ => ⟨i + 1, hlt, by omega, ?_⟩⟩
   have hl2 := hMl (i + 1) hlt
   rw [hl2, hs]
   generalize M i = acc at hl
   exact zG0 (by simp [go_sem]) (by simp [go_sem]; rw [← zb0]; rfl)
  ·have hi : i = a.length := by omega
   subst hi
   rw [hMe]
   have hml : (a.map (fun x => (⟨x.na, x.t.sub b⟩ : GBind))).length = a.length := List.length_map ..
   generalize hm1 : a.map (fun x => (⟨x.na, x.t.sub b⟩ : GBind)) = m1 at hml
   simp -implicitDefEqProofs (disch := omega) only [go_sem, Nat.lt_irrefl, List.length_map]
   obtain ⟨M2, hM2⟩ : ∃ M2 : Nat → List GBind, M2 = fun i => m1 ++ (b.take i).filter (fun y => (bnd a y.na).isNone) := ⟨_, rfl⟩
   have h20 : M2 0 = m1 := by rw [hM2]; simp
   have h2l : ∀ i, i ≤ b.length → (M2 i).length ≤ a.length + i := by
    intro i hi; rw [hM2]
    have := List.length_filter_le (fun y => (bnd a y.na).isNone) (b.take i)
    rw [List.length_take] at this
    simp only [List.length_append]; omega
   have h2s : ∀ i (h : i < b.length), M2 (i + 1) = M2 i ++ (if (bnd a b[i].na).isNone then [b[i]] else []) := by
    intro i h; rw [hM2]; simp only; rw [nR0 a b i h, List.append_assoc]
   have h2e : M2 b.length = r := by rw [hM2, hr, comp, ← hm1]; simp
   clear hM2
   refine zA0 (ι := Nat) (fun i => mk 61 [(0, slV (a.map GBind.enc)), (1, slV (b.map GBind.enc)), (5, .one (.own 8 (M2 i).length)), (7, zD0 i)] [(8, .arr 134 5 (rowsOf GBind.enc (M2 i)) false)])
    (fun i => i ≤ b.length) (fun i => b.length - i) 0 (Nat.zero_le _) ?_ zE0 zB0 (by decide +kernel) ?_
   ·exact zG0 (by simp [go_sem, h20]) (by simp [go_sem, h20])
   ·intro i hi
    rcases Nat.lt_or_ge i b.length with hlt | hge
    ·have hg := zC0 (ec := GBind.enc) hlt
     have hs := h2s i hlt
     have hl := h2l i hi
     have hbd := no0 a b[i].na (by omega)
     have hb1 : bnd a b[i].na = none → _ := xy0 a b[i].na 0
     have hb2 := kT0 a b[i].na 0
     have hcb := jd0 b[i].t (hb _ (List.getElem_mem hlt))
     generalize b[i] = x at hg hs hbd hcb hb1 hb2
     obtain ⟨xna, xk, xn, xs, xt⟩ := x
     simp only [GBind.enc, Tm.enc, encS, List.cons_append, List.nil_append] at hg
     simp only at hs hbd hb1 hb2 hcb
     generalize ho : bnd a xna = o at hs hb1 hb2
     generalize ro0 a xna 0 = y at hbd hb1 hb2
     simp -implicitDefEqProofs (disch := omega) only [go_sem, hg, hlt, List.length_map]
     refine CallK.mk hbd ?_
     cases o with
     | some u =>
      simp only [Option.isNone_some, Bool.false_eq_true, if_false, List.append_nil] at hs
      obtain ⟨q, _, hq, _⟩ := hb2 u rfl
      simp -implicitDefEqProofs (disch := omega) only [go_sem, hg, hlt, List.length_map]
      refine ⟨fun h => by omega, fun _ => ⟨i + 1, hlt, by omega, ?_⟩⟩
      rw [hs]
      exact lek
     | none =>
      simp only [Option.isNone_none, if_true] at hs
      have hy := hb1 rfl
      simp -implicitDefEqProofs (disch := omega) only [go_sem, hg, hlt, List.length_map]
      refine ⟨fun _ => ?_, fun h => by omega⟩
      refine CallK.mk hcb ?_
      simp -implicitDefEqProofs (disch := omega) only [go_sem, Tm.enc, hg, hlt, List.length_map]
      refine ⟨⟨by simp, by omega, by omega⟩, fun _ => ⟨i + 1, hlt, by omega, ?_⟩⟩
      rw [hs]
      generalize M2 i = acc at hl
      exact zG0 (by simp [go_sem]) (by simp [go_sem]; rw [← zb0]; rfl)
    ·have hi : i = b.length := by omega
     subst hi
     rw [h2e]
     simp -implicitDefEqProofs (disch := omega) only [go_sem, Nat.lt_irrefl, List.length_map]
end Go.Ai
