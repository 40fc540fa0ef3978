/- UnifyTerms of the program. -/
import Derived.Test.YtgdmjekkdcjipaaGreatAiUN9
import Derived.Test.YtgdmjekkdcjipaaGreatAiU6
set_option linter.unusedVariables false
set_option linter.unusedSimpArgs false
namespace Go.Ai
open Go.Proofs
set_option maxRecDepth 100000
theorem dk0 (k n : Int) (s : ByteArray) (ts : List Tm) (hl : Tm.sizes ts < 200000000) (ih : ∀ t, t ∈ ts → Sat Tryz.prog 91 [tmV t] (zD0 t.cnt)) : Sat Tryz.prog 91 [tmV (.mk k n s ts)] (zD0 (Tm.mk k n s ts).cnt) := by
 have hts := zH0 ts
 have hcs := cnts_size ts
 refine soc zE0 zB0 Tryz.func91 ?_
 simp -implicitDefEqProofs (disch := omega) only [go_sem, Tm.enc]
 refine zA0 (ι := Nat) (fun i => mk 19 [(3, zD0 (1 + Tm.cnts (ts.take i) : Nat)), (7, yM0 ts), (8, zD0 ts.length), (9, zD0 i)] [])
  (fun i => i ≤ ts.length) (fun i => ts.length - i) 0 (Nat.zero_le _) ?_ zE0 zB0 (by decide +kernel) ?_
 ·exact zG0 (by simp [go_sem, Tm.cnts]) (by simp [go_sem])
 ·intro i hi
  have hct := wK0 ts i
  rcases Nat.lt_or_ge i ts.length with hlt | hge
  ·have hg := zF0 ts i hlt
   have hsn := jD0 ts i hlt
   have hct2 := wK0 ts (i + 1)
   simp -implicitDefEqProofs (disch := omega) only [go_sem, hg, hlt, enc_len]
   refine CallK.mk (ih _ (List.getElem_mem hlt)) ?_
   simp -implicitDefEqProofs (disch := omega) only [go_sem]
   exact ⟨i + 1, hlt, by omega, zG0 (by simp [go_sem]; omega) (by simp [go_sem])⟩
  ·have : i = ts.length := by omega
   subst this
   simp -implicitDefEqProofs (disch := omega) only [go_sem, Nat.lt_irrefl, List.take_length, Tm.cnt]
theorem fT0 : ∀ (t : Tm), t.size < 200000000 → Sat Tryz.prog 91 [tmV t] (zD0 t.cnt) := by
 refine Tm.ind (fun k n s ts ih h => dk0 k n s ts (by simp only [Tm.size] at h; omega) (fun t ht => ih t ht ?_))
 have := zT0 ts t ht; simp only [Tm.size] at h; omega
abbrev eqE (e : Tm × Tm) : List C := Tm.enc e.1 ++ Tm.enc e.2
theorem bp0 (s : List GBind) (x y : Tm) (hs : ∀ q, q ∈ s → q.t.size < 1048577) (hsl : s.length < 1000000) (hx : x.size < 1000000) (hy : y.size < 1000000) (hw : (x.sub s).wf) (hX : (x.sub s).size < 1000000) (hY : (y.sub s).size < 1000000) : fL0 Tryz.prog 90 [qA0 (eqE (x, y)), slV (s.map GBind.enc)] [] [.arr 129 8 (rowsOf eqE (((qP0 s x y).map Prod.snd).getD [])) false] (.tup [slV ((((qP0 s x y).map Prod.fst).getD []).map GBind.enc), .one (.own 0 (((qP0 s x y).map Prod.snd).getD []).length), boolV (qP0 s x y).isSome]) := by
 have h1 := (wV0 s (by omega) hs x (by omega)).sat
 have h2 := (wV0 s (by omega) hs y (by omega)).sat
 rw [qP0]
 generalize x.sub s = X at h1 hX hw
 generalize y.sub s = Y at h2 hY
 have he := vO0 X hw Y
 have hnx := qt0 X (by omega)
 have hny := qt0 Y (by omega)
 have hcx := qD0 X.vars (by have := zN0 X; omega) Y.nm
 have hcy := qD0 Y.vars (by have := zN0 Y; omega) X.nm
 have hox : vF0 X.vars Y.nm = yS1 Y.nm X := by rw [Bool.eq_iff_iff, xs0, occB_iff]
 have hoy : vF0 Y.vars X.nm = yS1 X.nm Y := by rw [Bool.eq_iff_iff, xs0, occB_iff]
 rw [hox] at hcx
 rw [hoy] at hcy
 have hmx := jH0 s [⟨Y.nm, X⟩] (by omega) (by simp) hs (by simp; omega)
 have hmy := jH0 s [⟨X.nm, Y⟩] (by omega) (by simp) hs (by simp; omega)
 have hXl : X.ars.length < 1048577 := by cases X; rename_i ts; have := zH0 ts; simp only [Tm.size] at hX; simp only [Tm.ars]; omega
 obtain ⟨r, hr⟩ : ∃ r, r = wM0 s X Y := ⟨_, rfl⟩
 rw [← hr]
 have hr1 : X.eqb Y = true → r = some (s, []) := fun e => by rw [hr, wM0, if_pos e]
 have hr2 : ¬ X.eqb Y = true → X.kd = 1 → r = yN0 s X.nm Y := fun e e1 => by rw [hr, wM0, if_neg e, if_pos e1]
 have hr3 : ¬ X.eqb Y = true → ¬ X.kd = 1 → Y.kd = 1 → r = yN0 s Y.nm X := fun e e1 e2 => by rw [hr, wM0, if_neg e, if_neg e1, if_pos e2]
 have hr4 : ¬ X.eqb Y = true → ¬ X.kd = 1 → ¬ Y.kd = 1 → (X.kd = 2 ∧ Y.kd = 2 ∧ eqS X.nm Y.nm = true ∧ X.ars.length = Y.ars.length) → r = some (s, X.ars.zip Y.ars) := fun e e1 e2 e3 => by rw [hr, wM0, if_neg e, if_neg e1, if_neg e2, if_pos e3]
 have hr5 : ¬ X.eqb Y = true → ¬ X.kd = 1 → ¬ Y.kd = 1 → ¬ (X.kd = 2 ∧ Y.kd = 2 ∧ eqS X.nm Y.nm = true ∧ X.ars.length = Y.ars.length) → r = none := fun e e1 e2 e3 => by rw [hr, wM0, if_neg e, if_neg e1, if_neg e2, if_neg e3]
 clear hr
 generalize X.vars = vx at hnx hcx
 generalize Y.vars = vy at hny hcy
 unfold yN0 at hr2 hr3
 clear hox hoy hX hY
 generalize yS1 Y.nm X = ox at hcx hr3
 generalize yS1 X.nm Y = oy at hcy hr2
 generalize comp s [⟨Y.nm, X⟩] = sx at hmx hr3
 generalize comp s [⟨X.nm, Y⟩] = sy at hmy hr2
 obtain ⟨xk, xn, xs, xt⟩ := x
 obtain ⟨yk, yn, ys, yt⟩ := y
 obtain ⟨k, n, z, ts⟩ := X
 obtain ⟨k', n', z', ts'⟩ := Y
 simp only [Tm.kd, Tm.nm, Tm.ars] at *
 simp only [List.map_cons, List.map_nil, GBind.enc, Tm.enc, encS, List.cons_append, List.nil_append] at hmx hmy
 by_cases e : (Tm.mk k n z ts).eqb (.mk k' n' z' ts') = true
 ·obtain rfl := hr1 e
  refine zi0 [(1, ([], [])), (7, ([], [])), (16, ([], []))] zE0 zB0 Tryz.func90 ?_
  simp -implicitDefEqProofs (disch := omega) only [go_sem, Tm.enc, eqE, List.cons_append, List.nil_append]
  refine CallK.mk h1 ?_
  simp -implicitDefEqProofs (disch := omega) only [go_sem, Tm.enc, eqE, List.cons_append, List.nil_append]
  refine CallK.mk h2 ?_
  simp -implicitDefEqProofs (disch := omega) only [go_sem, Tm.enc]
  refine CallK.mk he ?_
  simp -implicitDefEqProofs (disch := omega) only [go_sem, e]
  refine ⟨_, yG0 (t := 5) 9100 129 8 rfl (by decide) rfl (by decide), ?_⟩
  simp -implicitDefEqProofs (disch := omega) only [go_sem]
  first | exact ⟨[9100], by simp, rfl, by simp [go_sem, rowsOf], rfl⟩ | exact ⟨[9100], by simp, rfl, by simp [go_sem, rowsOf], rfl, rfl⟩ | exact ⟨[9100], by simp, rfl, by simp [go_sem, rowsOf], rfl, rfl, rfl⟩ | exact ⟨[9100], by simp, rfl, by simp [go_sem, rowsOf]⟩
 have e' : (Tm.mk k n z ts).eqb (.mk k' n' z' ts') = false := by simpa using e
 by_cases hk : k = 1
 ·obtain rfl := hr2 e hk
  subst hk
  refine zi0 [(1, ([], [])), (7, ([], [])), (16, ([], []))] zE0 zB0 Tryz.func90 ?_
  simp -implicitDefEqProofs (disch := omega) only [go_sem, Tm.enc, eqE, List.cons_append, List.nil_append]
  refine CallK.mk h1 ?_
  simp -implicitDefEqProofs (disch := omega) only [go_sem, Tm.enc, eqE, List.cons_append, List.nil_append]
  refine CallK.mk h2 ?_
  simp -implicitDefEqProofs (disch := omega) only [go_sem, Tm.enc]
  refine CallK.mk he ?_
  simp -implicitDefEqProofs (disch := omega) only [go_sem, e']
  refine CallK.mk hny ?_
  simp -implicitDefEqProofs (disch := omega) only [go_sem]
  refine CallK.mk hcy ?_
  cases oy with
  | true =>
   simp -implicitDefEqProofs (disch := omega) only [go_sem]
   refine ⟨_, (yG0 (t := 5) 9100 129 8 rfl (by decide) rfl (by decide)).trans (cj0 (t := 4) rfl (by decide)), ?_⟩
   simp -implicitDefEqProofs (disch := omega) only [go_sem]
   first | exact ⟨[9100], by simp, rfl, by simp [go_sem, rowsOf], rfl⟩ | exact ⟨[9100], by simp, rfl, by simp [go_sem, rowsOf], rfl, rfl⟩ | exact ⟨[9100], by simp, rfl, by simp [go_sem, rowsOf], rfl, rfl, rfl⟩ | exact ⟨[9100], by simp, rfl, by simp [go_sem, rowsOf]⟩
  | false =>
   simp -implicitDefEqProofs (disch := omega) only [go_sem]
   refine CallK.mk hmy ?_
   simp -implicitDefEqProofs (disch := omega) only [go_sem]
   refine ⟨_, yG0 (t := 5) 9100 129 8 rfl (by decide) rfl (by decide), ?_⟩
   simp -implicitDefEqProofs (disch := omega) only [go_sem]
   first | exact ⟨[9100], by simp, rfl, by simp [go_sem, rowsOf], rfl⟩ | exact ⟨[9100], by simp, rfl, by simp [go_sem, rowsOf], rfl, rfl⟩ | exact ⟨[9100], by simp, rfl, by simp [go_sem, rowsOf], rfl, rfl, rfl⟩ | exact ⟨[9100], by simp, rfl, by simp [go_sem, rowsOf]⟩
 have hkb : (k == 1) = false := by simpa using hk
 have hkb2 : (k != 1) = true := by simpa using hk
 by_cases hk' : k' = 1
 ·obtain rfl := hr3 e hk hk'
  subst hk'
  refine zi0 [(1, ([], [])), (7, ([], [])), (16, ([], []))] zE0 zB0 Tryz.func90 ?_
  simp -implicitDefEqProofs (disch := omega) only [go_sem, Tm.enc, eqE, List.cons_append, List.nil_append]
  refine CallK.mk h1 ?_
  simp -implicitDefEqProofs (disch := omega) only [go_sem, Tm.enc, eqE, List.cons_append, List.nil_append]
  refine CallK.mk h2 ?_
  simp -implicitDefEqProofs (disch := omega) only [go_sem, Tm.enc]
  refine CallK.mk he ?_
  simp -implicitDefEqProofs (disch := omega) only [go_sem, e', hkb, hkb2]
  refine CallK.mk hnx ?_
  simp -implicitDefEqProofs (disch := omega) only [go_sem]
  refine CallK.mk hcx ?_
  cases ox with
  | true =>
   simp -implicitDefEqProofs (disch := omega) only [go_sem]
   refine ⟨_, (yG0 (t := 5) 9100 129 8 rfl (by decide) rfl (by decide)).trans (cj0 (t := 4) rfl (by decide)), ?_⟩
   simp -implicitDefEqProofs (disch := omega) only [go_sem]
   first | exact ⟨[9100], by simp, rfl, by simp [go_sem, rowsOf], rfl⟩ | exact ⟨[9100], by simp, rfl, by simp [go_sem, rowsOf], rfl, rfl⟩ | exact ⟨[9100], by simp, rfl, by simp [go_sem, rowsOf], rfl, rfl, rfl⟩ | exact ⟨[9100], by simp, rfl, by simp [go_sem, rowsOf]⟩
  | false =>
   simp -implicitDefEqProofs (disch := omega) only [go_sem]
   refine CallK.mk hmx ?_
   simp -implicitDefEqProofs (disch := omega) only [go_sem]
   refine ⟨_, yG0 (t := 5) 9100 129 8 rfl (by decide) rfl (by decide), ?_⟩
   simp -implicitDefEqProofs (disch := omega) only [go_sem]
   first | exact ⟨[9100], by simp, rfl, by simp [go_sem, rowsOf], rfl⟩ | exact ⟨[9100], by simp, rfl, by simp [go_sem, rowsOf], rfl, rfl⟩ | exact ⟨[9100], by simp, rfl, by simp [go_sem, rowsOf], rfl, rfl, rfl⟩ | exact ⟨[9100], by simp, rfl, by simp [go_sem, rowsOf]⟩
 have hkb' : (k' == 1) = false := by simpa using hk'
 replace hr4 := hr4 e hk hk'
 replace hr5 := hr5 e hk hk'
 by_cases hc : k = 2 ∧ k' = 2 ∧ eqS z z' = true ∧ ts.length = ts'.length
 ·obtain rfl := hr4 hc
  obtain ⟨rfl, rfl, hz, hll⟩ := hc
  have hz := (zw0 _ _).1 hz
  subst hz
  simp only [Option.map_some, Option.getD_some]
  refine zi0 [(1, ([], [])), (7, ([], [])), (16, ([], []))] zE0 zB0 Tryz.func90 ?_
  simp -implicitDefEqProofs (disch := omega) only [go_sem, Tm.enc, eqE, List.cons_append, List.nil_append]
  refine CallK.mk h1 ?_
  simp -implicitDefEqProofs (disch := omega) only [go_sem, Tm.enc, eqE, List.cons_append, List.nil_append]
  refine CallK.mk h2 ?_
  simp -implicitDefEqProofs (disch := omega) only [go_sem, Tm.enc]
  refine CallK.mk he ?_
  simp -implicitDefEqProofs (disch := omega) only [go_sem, e', hkb, hkb', hkb2, hll]
  obtain ⟨zs, hzs⟩ : ∃ zs, zs = ts.zip ts' := ⟨_, rfl⟩
  have hzl : zs.length = ts.length := by rw [hzs, List.length_zip]; omega
  have hzg : ∀ i (h : i < zs.length), zs[i] = (ts[i]'(by omega), ts'[i]'(by omega)) := by intro i h; subst hzs; simp
  rw [← hzs]
  clear hzs
  refine zf0 [(1, ([], [])), (7, ([], [])), (16, ([], []))] (ι := Nat) (fun i => mk 95 [(1, slV (s.map GBind.enc)), (7, .one (.ptr 7 0)), (8, .one (.ptr 8 0)), (9, .one (.own 9100 (zs.take i).length)), (73, yM0 ts), (74, zD0 ts'.length), (75, zD0 i)] [(7, .var [iC 2, iC n, sC z, tC ts]), (8, .var [iC 2, iC n', sC z, tC ts']), (9100, .arr 129 8 (rowsOf eqE (zs.take i)) false)])
   (fun i => i ≤ ts.length) (fun i => ts.length - i) 0 (Nat.zero_le _) ?_ zE0 zB0 (by decide +kernel) ?_
  ·refine (yG0 (t := 9) 9100 129 8 rfl (by decide) rfl (by decide)).trans ?_
   exact zG0 (by simp [go_sem]) (by simp [go_sem, rowsOf])
  ·intro i hi
   rcases Nat.lt_or_ge i ts.length with hlt | hge
   ·have hlt' : i < ts'.length := by omega
    have hg := zF0 ts i hlt
    have hg' := zF0 ts' i hlt'
    have htk : zs.take (i + 1) = zs.take i ++ [(ts[i], ts'[i])] := by rw [List.take_add_one, List.getElem?_eq_getElem (by omega), hzg i (by omega)]; rfl
    have htl : (zs.take i).length = i := by rw [List.length_take]; omega
    have htl2 : (zs.take (i + 1)).length = (zs.take i).length + 1 := by rw [List.length_take, List.length_take]; omega
    have hrw : rowsOf eqE (zs.take (i + 1)) = rowsOf eqE (zs.take i) ++ [(eqE (ts[i], ts'[i])).map AC.c] := by rw [htk]; exact (zq0 (ec := eqE) _).symm
    generalize ts[i] = a at hg hrw
    generalize ts'[i] = b at hg' hrw
    clear htk
    obtain ⟨ak, an, as', at_⟩ := a
    obtain ⟨bk, bn, bs', bt⟩ := b
    simp only [Tm.enc] at hg hg'
    simp only [eqE, Tm.enc, List.cons_append, List.nil_append, List.map_cons, List.map_nil] at hrw
    simp -implicitDefEqProofs (disch := omega) only [go_sem, hg, hg', hlt, hlt', enc_len, hll]
    refine ⟨⟨by simp, by omega, by omega⟩, fun _ => ⟨i + 1, by omega, by omega, ?_⟩⟩
    rw [← hrw, htl2]
    exact lek
   ·have hi : i = ts.length := by omega
    subst hi
    have htk : zs.take ts.length = zs := by rw [← hzl, List.take_length]
    rw [htk]
    simp -implicitDefEqProofs (disch := omega) only [go_sem, Nat.lt_irrefl, enc_len, hll]
    refine ⟨_, Wk.refl _, ?_⟩
    simp -implicitDefEqProofs (disch := omega) only [go_sem]
    exact ⟨[9100], by simp, rfl, by simp [go_sem], rfl, rfl⟩
 ·obtain rfl := hr5 hc
  refine zi0 [(1, ([], [])), (7, ([], [])), (16, ([], []))] zE0 zB0 Tryz.func90 ?_
  simp -implicitDefEqProofs (disch := omega) only [go_sem, Tm.enc, eqE, List.cons_append, List.nil_append]
  refine CallK.mk h1 ?_
  simp -implicitDefEqProofs (disch := omega) only [go_sem, Tm.enc, eqE, List.cons_append, List.nil_append]
  refine CallK.mk h2 ?_
  simp -implicitDefEqProofs (disch := omega) only [go_sem, Tm.enc]
  refine CallK.mk he ?_
  simp -implicitDefEqProofs (disch := omega) only [go_sem, e', hkb, hkb', hkb2]
  refine ⟨fun a1 => ⟨fun a2 => ⟨fun a3 => ⟨fun a4 => ?_, fun a4 => ?_⟩, fun a3 => ?_⟩, fun a2 => ?_⟩, fun a1 => ?_⟩
  rotate_left 1
  ·exact absurd ⟨by simpa using a1, by simpa using a2, (zw0 _ _).2 ((zw0 _ _).1 (by simp only [eqS, a3]; simp)), by simp at a4; omega⟩ hc
  all_goals (
   refine ⟨_, (yG0 (t := 5) 9100 129 8 rfl (by decide) rfl (by decide)).trans (cj0 (t := 4) rfl (by decide)), ?_⟩
   simp -implicitDefEqProofs (disch := omega) only [go_sem]
   first | exact ⟨[9100], by simp, rfl, by simp [go_sem, rowsOf], rfl⟩ | exact ⟨[9100], by simp, rfl, by simp [go_sem, rowsOf], rfl, rfl⟩ | exact ⟨[9100], by simp, rfl, by simp [go_sem, rowsOf], rfl, rfl, rfl⟩ | exact ⟨[9100], by simp, rfl, by simp [go_sem, rowsOf]⟩)
end Go.Ai
