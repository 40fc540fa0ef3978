/- Unification in the reference: its steps. -/
import Derived.Test.YtgdmjekkdcjipaaGreatAiUN5
import Derived.Test.YtgdmjekkdcjipaaGreatAiDynE
import Derived.Test.YtgdmjekkdcjipaaGreatAiRow2
set_option linter.unusedVariables false
set_option linter.unusedSimpArgs false
namespace Go.Ai
open Go.Proofs
set_option maxRecDepth 100000
def bF1 (tab : Tab) (rs : List ResultVar) (Bs Bs' : List LB) (r : AV) (e : Exit) (s : St) : Prop := ∃ s', Wk s s' ∧ mi0 tab rs Bs Bs' r e s'
theorem zi0 {P : Program} {tab : Tab} (Δ : List (Nat × List Pr × List Nat)) (hT : zU0 P tab) (hm : P.follows .mixedOrders = true) {f : FuncId} {fn : Func} {c : Code} {args : List AV} {Bs Bs' : List LB} {r : AV} {rs : List ResultVar} {n : Nat} (hf : P.funcs[f]? = some fn)
  (h : qC0 P tab Δ c (bF1 tab rs Bs Bs' r) (mk n (qN0 0 (args.map (AV.ren1 (idx (yj0 9000 Bs.length))))) (yh0 (idx (yj0 9000 Bs.length)) (yj0 9000 Bs.length) Bs) (ghX (yj0 9000 Bs.length) Bs)))
  (hb : fn.body = some c := by exact rfl) (hr : fn.results.toList = rs := by exact rfl) (hn : fn.ntmps = n := by exact rfl) (hname : fn.name ≠ "runtime.NumGoroutine" := by decide +kernel)
  (hoc : zl0 Δ c = true := by decide +kernel) (hlen : args.length ≤ n := by exact Nat.le_of_ble_eq_true rfl) (hA : args.all (lJ0 Bs.length) = true := by simp [go_sem]) (hok : (Bs.all (okP Bs.length)) = true := by simp [go_sem]) (hok' : (Bs'.all (okX Bs'.length)) = true := by simp [go_sem]) (hrx : qS1 Bs'.length r = true := by simp [go_sem]) (hlike : bz0 Bs Bs' := by simp [go_sem]) (hj : zy0 (wc1 r) = r := by exact rfl) : fL0 P f args Bs Bs' r :=
 pp0 hT hf hb hr hn hname hlen hA hok hok' hrx hlike hj (fun w0 M0 F0 a w hs => wp_mono (ze0 Δ hT hm c _ _ hoc h w0 M0 F0 a w hs) (by
  rintro e a' w' ⟨s', ⟨s2, hw, hq⟩, hs'⟩
  exact ⟨s2, hq, hw _ _ _ _ _ hs'⟩))
def lf8 (c : Nat) (n : Int) : Int := if (c : Int) ≤ n then n - c else -1
theorem yM1 (k n : Int) (s : ByteArray) (ts : List Tm) (m : Int) (hm0 : 0 ≤ m) (hm : m ≤ 1000) (hl : ts.length < 100000000) (ih : ∀ t, t ∈ ts → ∀ m : Int, 0 ≤ m → m ≤ 1000 → Sat Tryz.prog 207 [tmV t, zD0 m] (zD0 (lf8 t.cnt m))) : Sat Tryz.prog 207 [tmV (.mk k n s ts), zD0 m] (zD0 (lf8 (Tm.mk k n s ts).cnt m)) := by
 obtain ⟨r, hr⟩ : ∃ r, r = lf8 (Tm.mk k n s ts).cnt m := ⟨_, rfl⟩
 rw [← hr]
 simp only [Tm.cnt] at hr
 obtain ⟨M, hM⟩ : ∃ M : Nat → Int, M = fun i => lf8 (1 + Tm.cnts (ts.take i)) m := ⟨_, rfl⟩
 have hM0 : M 0 = m - 1 := by rw [hM]; simp only [List.take_zero, Tm.cnts, lf8]; split <;> omega
 have hMl : ∀ i, -1 ≤ M i ∧ M i < 1000 := by intro i; rw [hM]; simp only [lf8]; split <;> omega
 have hMe : M ts.length = r := by rw [hM, hr]; simp only [List.take_length]
 have hMn : ∀ i, M i < 0 → r = M i := by
  intro i; rw [hM, hr]; simp only [lf8]
  have := wK0 ts i
  split <;> split <;> omega
 have hMs : ∀ i (h : i < ts.length), 0 ≤ M i → M (i + 1) = lf8 ts[i].cnt (M i) := by
  intro i h; rw [hM]; simp only [lf8, jD0 ts i h]
  intro h0
  split at h0
  ·split <;> split <;> omega
  ·omega
 clear hM hr
 refine soc zE0 zB0 Tryz.func207 ?_
 simp -implicitDefEqProofs (disch := omega) only [go_sem, Tm.enc]
 refine zA0 (ι := Nat) (fun i => mk 27 [(1, zD0 (M i)), (2, .one (.ptr 2 0)), (5, zD0 i)] [(2, .var [iC k, iC n, sC s, tC ts])])
  (fun i => i ≤ ts.length) (fun i => ts.length - i) 0 (Nat.zero_le _) ?_ zE0 zB0 (by decide +kernel) ?_
 ·exact zG0 (by simp [go_sem, hM0]) (by simp [go_sem])
 ·intro i hi
  have hb := hMl i
  rcases Nat.lt_or_ge i ts.length with hlt | hge
  ·by_cases h0 : 0 ≤ M i
   ·have hg := zF0 ts i hlt
    have hs := hMs i hlt h0
    have hih := ih _ (List.getElem_mem hlt) (M i) h0 (by omega)
    rw [← hs] at hih
    clear hs
    generalize ts[i] = a at hg hih
    obtain ⟨ak, an, as', at_⟩ := a
    simp only [Tm.enc] at hg
    simp -implicitDefEqProofs (disch := omega) only [go_sem, hg, hlt, enc_len, h0]
    refine CallK.mk hih ?_
    simp -implicitDefEqProofs (disch := omega) only [go_sem]
    exact ⟨i + 1, hlt, by omega, lek⟩
   ·have hn := hMn i (by omega)
    rw [hn]
    simp -implicitDefEqProofs (disch := omega) only [go_sem, hlt, enc_len, h0]
  ·have hi : i = ts.length := by omega
   subst hi
   rw [hMe]
   simp -implicitDefEqProofs (disch := omega) only [go_sem, Nat.lt_irrefl, enc_len]
theorem sV0 : ∀ (t : Tm), t.size < 100000000 → ∀ (m : Int), 0 ≤ m → m ≤ 1000 → Sat Tryz.prog 207 [tmV t, zD0 m] (zD0 (lf8 t.cnt m)) := by
 refine Tm.ind (fun k n s ts ih h m h0 h1 => yM1 k n s ts m h0 h1 ?_ (fun t ht m h0 h1 => ih t ht ?_ m h0 h1))
 ·have := zH0 ts; simp only [Tm.size] at h; omega
 ·have := zT0 ts t ht; simp only [Tm.size] at h; omega
theorem mS0 (bs : List GBind) (hl : bs.length < 1000000) (hb : ∀ b, b ∈ bs → b.t.size < 100000000) : Sat Tryz.prog 168 [slV (bs.map GBind.enc)] (boolV (qn0 bs)) := by
 obtain ⟨r, hr⟩ : ∃ r, r = qn0 bs := ⟨_, rfl⟩
 rw [← hr]
 refine soc zE0 zB0 Tryz.func168 ?_
 simp -implicitDefEqProofs (disch := omega) only [go_sem]
 refine zA0 (ι := Nat) (fun i => mk 17 [(0, slV (bs.map GBind.enc)), (3, zD0 i)] [])
  (fun i => i ≤ bs.length ∧ r = qn0 (bs.drop i)) (fun i => bs.length - i) 0 ⟨Nat.zero_le _, by simpa using hr⟩ ?_ zE0 zB0 (by decide +kernel) ?_
 ·exact lek
 ·rintro i ⟨hi, he⟩
  rcases Nat.lt_or_ge i bs.length with hlt | hge
  ·have hg := zC0 (ec := GBind.enc) hlt
   have hf := sV0 bs[i].t (hb _ (List.getElem_mem hlt)) 400 (by decide) (by decide)
   have he : r = (decide (400 < bs[i].t.cnt) || qn0 (bs.drop (i + 1))) := by rw [he, List.drop_eq_getElem_cons hlt]; rfl
   generalize bs[i] = x at hg hf he
   obtain ⟨xna, xk, xn, xs, xt⟩ := x
   simp only [GBind.enc, Tm.enc, encS, List.cons_append, List.nil_append] at hg
   simp only at he hf
   generalize (Tm.mk xk xn xs xt).cnt = c at hf he
   simp -implicitDefEqProofs (disch := omega) only [go_sem, hg, hlt, List.length_map]
   refine CallK.mk hf ?_
   simp -implicitDefEqProofs (disch := omega) only [go_sem, hlt, List.length_map]
   have hc : lf8 c 400 < 0 ↔ 400 < c := by simp only [lf8]; split <;> omega
   refine ⟨fun h => ?_, fun h => ⟨i + 1, ⟨hlt, ?_⟩, by omega, lek⟩⟩
   ·rw [he, decide_eq_true (hc.1 h)]; rfl
   ·rw [he, decide_eq_false (fun hh => h (hc.2 hh))]; rfl
  ·have e1 : bs.drop i = [] := List.drop_of_length_le hge
   rw [e1] at he
   have he : r = false := he
   subst he
   simp -implicitDefEqProofs (disch := omega) only [go_sem, Nat.not_lt.2 hge, List.length_map]
   try rfl
abbrev zB (L R : List Tm) (S : List GBind) : LB := .var [.c (.sl (Tm.encs L)), .c (.sl (Tm.encs R)), .c (.sl (S.map GBind.enc))]
theorem nj0 (v : ByteArray) : ∀ (xs : List ByteArray) (k : Int), 0 ≤ k → (0 ≤ vG0 v xs k ↔ v ∈ xs)
 | [], k, _ => by simp [vG0]
 | x :: xs, k, h => by
  simp only [vG0, List.mem_cons]
  split
  ·rename_i hx; exact ⟨fun _ => .inl ((zw0 _ _).1 hx).symm, fun _ => h⟩
  ·rename_i hx
   rw [nj0 v xs (k + 1) (by omega)]
   exact ⟨.inr, fun h => h.elim (fun e => absurd ((zw0 _ _).2 e.symm) hx) id⟩
theorem kA1 {v : ByteArray} {xs : List ByteArray} : 0 ≤ vG0 v xs 0 ↔ v ∈ xs := nj0 v xs 0 (Int.le_refl _)
theorem fv0 (L R : List Tm) (S : List GBind) (v : ByteArray) (T : Tm) (hT : T.size < 1048577) (hS : S.length < 1000000) (hs : ∀ x, x ∈ S → x.t.size < 1048577) : fL0 Tryz.prog 206 [.one (.ptr 0 0), ql0 v, tmV T] [zB L R S] [zB L R ((yN0 S v T).map Prod.fst |>.getD S)] (boolV (yN0 S v T).isSome) := by
 have hv := yL0 T (by omega)
 have hvl := zN0 T
 have hsl := qF0 T.vars
 have hi := qj0 (zr0 T.vars) (by omega) v
 have hcm := pu0 S [⟨v, T⟩] (by omega) (by simp) hs (by simpa using hT)
 have hx : (0 ≤ vG0 v (zr0 T.vars) 0) ↔ yS1 v T = true := by rw [kA1, occB_iff, wL0]
 generalize zr0 T.vars = ns at hv hi hx
 generalize vG0 v ns 0 = j at hi hx
 rw [yN0]
 generalize hr : comp S [⟨v, T⟩] = S' at hcm
 obtain ⟨k, n, s, ts⟩ := T
 simp only [List.map_cons, List.map_nil, GBind.enc, Tm.enc, encS, List.cons_append, List.nil_append] at hcm
 refine sxv [(3, ([], []))] zE0 zB0 Tryz.func206 ?_
 simp -implicitDefEqProofs (disch := omega) only [go_sem, Tm.enc]
 refine CallK.mk hv ?_
 simp -implicitDefEqProofs (disch := omega) only [go_sem, Tm.enc]
 refine CallK.mk hi ?_
 by_cases ho : yS1 v (.mk k n s ts) = true
 ·have hj := hx.2 ho
  simp -implicitDefEqProofs (disch := omega) only [go_sem, Tm.enc, ho, hj]
  exact ⟨[], by simp, rfl, trivial, rfl⟩
 ·have hj : ¬ 0 ≤ j := fun h => ho (hx.1 h)
  simp only [if_neg ho, Option.map_some, Option.getD_some, Option.isSome_some]
  simp -implicitDefEqProofs (disch := omega) only [go_sem, Tm.enc]
  refine ⟨fun h => absurd h (by omega), fun _ => CallK.mk hcm ?_⟩
  simp -implicitDefEqProofs (disch := omega) only [go_sem, Tm.enc]
  rw [if_neg ho]
  exact ⟨[], by simp, rfl, ⟨rfl, trivial⟩, rfl⟩
theorem zU1 (x : Tm) (L : List Tm) : ∀ r, r ∈ x.enc :: Tm.encs L → r.length = 4 := by
 intro r hr
 rcases List.mem_cons.1 hr with rfl | hr
 ·exact enc_len x
 ·rw [zc0] at hr
  obtain ⟨y, _, rfl⟩ := List.mem_map.1 hr
  exact enc_len y
theorem bg0 (L : List Tm) : ∀ r, r ∈ List.map (fun r => List.map AC.c r) (Tm.encs L) → r.length = 4 := by
 intro r hr
 rw [zc0, List.map_map] at hr
 obtain ⟨y, _, rfl⟩ := List.mem_map.1 hr
 simp [enc_len y]
theorem jv1 (a b : List Tm) : Tm.encs (a ++ b) = Tm.encs a ++ Tm.encs b := by rw [zc0, zc0, zc0, List.map_append]
theorem xE1 (a b : List Tm) : ((List.map (fun r => List.map AC.c r) (Tm.encs a) ++ List.map (fun r => List.map AC.c r) (Tm.encs b)).map fun r => r.map unN) = (Tm.encs (a ++ b)).map fun r => r.map AC.c := by
 rw [jv1, List.map_append, List.map_append, List.map_map, List.map_map]
 congr 1 <;> exact List.map_congr_left (fun r _ => by simp [unN])
theorem jW1 (a b : List Tm) : (List.map (fun r => List.map AC.c r) (Tm.encs a) ++ List.map (fun r => List.map AC.c r) (Tm.encs b)).length = a.length + b.length := by
 simp [zc0]
theorem kX0 {α : Type} (a : α) (l : List α) : List.drop (Int.toNat 1) (a :: l) = l := rfl
theorem tv0 (S : List GBind) (v : ByteArray) (T : Tm) : (((yN0 S v T).map fun q => q.2.map Prod.fst).getD []) = [] := by unfold yN0; split <;> rfl
theorem tw0 (S : List GBind) (v : ByteArray) (T : Tm) : (((yN0 S v T).map fun q => q.2.map Prod.snd).getD []) = [] := by unfold yN0; split <;> rfl
theorem sW0 (L R : List Tm) (S : List GBind) (x y : Tm) (hx : x.size < 10000000) (hy : y.size < 10000000) (hw : (x.sub S).wf) (hX : (x.sub S).size < 1048577) (hY : (y.sub S).size < 1048577) (hS : S.length < 1000000) (hs : ∀ x, x ∈ S → x.t.size < 1048577) (hL : L.length < 10000000) (hR : R.length < 10000000) : fL0 Tryz.prog 167 [.one (.ptr 0 0)] [zB (x :: L) (y :: R) S] [zB (((qP0 S x y).map fun q => q.2.map Prod.fst).getD [] ++ L) (((qP0 S x y).map fun q => q.2.map Prod.snd).getD [] ++ R) (((qP0 S x y).map Prod.fst).getD S)] (boolV (qP0 S x y).isSome) := by
 have h1 := wX0 S (by omega) hs x hx
 have h2 := wX0 S (by omega) hs y hy
 rw [qP0]
 generalize x.sub S = X at h1 hX hw
 generalize y.sub S = Y at h2 hY
 have he := vd0 X hw Y
 have hb1 := fv0 L R S X.nm Y hY hS hs
 have hb2 := fv0 L R S Y.nm X hX hS hs
 have hXl : X.ars.length < 1048577 := by cases X; rename_i ts; have := zH0 ts; simp only [Tm.size] at hX; simp only [Tm.ars]; omega
 have hYl : Y.ars.length < 1048577 := by cases Y; rename_i ts; have := zH0 ts; simp only [Tm.size] at hY; simp only [Tm.ars]; omega
 obtain ⟨r, hr⟩ : ∃ r, r = wM0 S X Y := ⟨_, rfl⟩
 rw [← hr]
 have hr1 : X.eqb Y = true → r = some (S, []) := fun e => by rw [hr, wM0, if_pos e]
 have hr2 : ¬ X.eqb Y = true → X.kd = 1 → r = yN0 S X.nm Y := fun e e1 => by rw [hr, wM0, if_neg e, if_pos e1]
 have hr3 : ¬ X.eqb Y = true → ¬ X.kd = 1 → Y.kd = 1 → r = yN0 S Y.nm X := fun e e1 e2 => by rw [hr, wM0, if_neg e, if_neg e1, if_pos e2]
 have hr4 : ¬ X.eqb Y = true → ¬ X.kd = 1 → ¬ Y.kd = 1 → (X.kd = 2 ∧ Y.kd = 2 ∧ eqS X.nm Y.nm = true ∧ X.ars.length = Y.ars.length) → r = some (S, X.ars.zip Y.ars) := fun e e1 e2 e3 => by rw [hr, wM0, if_neg e, if_neg e1, if_neg e2, if_pos e3]
 have hr5 : ¬ X.eqb Y = true → ¬ X.kd = 1 → ¬ Y.kd = 1 → ¬ (X.kd = 2 ∧ Y.kd = 2 ∧ eqS X.nm Y.nm = true ∧ X.ars.length = Y.ars.length) → r = none := fun e e1 e2 e3 => by rw [hr, wM0, if_neg e, if_neg e1, if_neg e2, if_neg e3]
 clear hr
 have hes : ∀ x xs, Tm.encs (x :: xs) = x.enc :: Tm.encs xs := fun _ _ => rfl
 obtain ⟨xk, xn, xs, xt⟩ := x
 obtain ⟨yk, yn, ys, yt⟩ := y
 obtain ⟨k, n, z, ts⟩ := X
 obtain ⟨k', n', z', ts'⟩ := Y
 simp only [Tm.kd, Tm.nm, Tm.ars] at *
 have e4x := zU1 (.mk xk xn xs xt) L
 have e4y := zU1 (.mk yk yn ys yt) R
 simp only [Tm.enc] at e4x e4y
 by_cases e : (Tm.mk k n z ts).eqb (.mk k' n' z' ts') = true
 ·obtain rfl := hr1 e
  refine zi0 [(1, ([], [])), (2, ([], [])), (13, ([⟨4, 6, [90, 92], [94]⟩, ⟨4, 7, [90, 92], [95]⟩, ⟨4, 8, [90, 92], [96]⟩], [])), (14, ([⟨4, 6, [102, 104], [106]⟩, ⟨4, 7, [102, 104], [107]⟩, ⟨4, 8, [102, 104], [108]⟩], []))] zE0 zB0 Tryz.func167 ?_
  simp -implicitDefEqProofs (disch := omega) only [go_sem, hes, Tm.enc]
  refine ⟨by omega, fun _ => CallK.mk h1 ?_⟩
  simp -implicitDefEqProofs (disch := omega) only [go_sem, hes, Tm.enc]
  refine ⟨by omega, fun _ => CallK.mk h2 ?_⟩
  simp -implicitDefEqProofs (disch := omega) only [go_sem, hes, Tm.enc, kX0]
  refine ⟨⟨by decide, by omega, e4x⟩, fun _ => ⟨⟨by decide, by omega, e4y⟩, fun _ => CallK.mk he ?_⟩⟩
  simp -implicitDefEqProofs (disch := omega) only [go_sem, hes, Tm.enc, kX0, e]
  refine ⟨_, Wk.refl _, ?_⟩
  simp -implicitDefEqProofs (disch := omega) only [go_sem, hes, Tm.enc, kX0, e]
  exact ⟨[], by simp, rfl, trivial, rfl⟩
 have e' : (Tm.mk k n z ts).eqb (.mk k' n' z' ts') = false := by simpa using e
 by_cases hk : k = 1
 ·obtain rfl := hr2 e hk
  subst hk
  rw [tv0, tw0, List.nil_append, List.nil_append]
  refine zi0 [(1, ([], [])), (2, ([], [])), (13, ([⟨4, 6, [90, 92], [94]⟩, ⟨4, 7, [90, 92], [95]⟩, ⟨4, 8, [90, 92], [96]⟩], [])), (14, ([⟨4, 6, [102, 104], [106]⟩, ⟨4, 7, [102, 104], [107]⟩, ⟨4, 8, [102, 104], [108]⟩], []))] zE0 zB0 Tryz.func167 ?_
  simp -implicitDefEqProofs (disch := omega) only [go_sem, hes, Tm.enc]
  refine ⟨by omega, fun _ => CallK.mk h1 ?_⟩
  simp -implicitDefEqProofs (disch := omega) only [go_sem, hes, Tm.enc]
  refine ⟨by omega, fun _ => CallK.mk h2 ?_⟩
  simp -implicitDefEqProofs (disch := omega) only [go_sem, hes, Tm.enc, kX0]
  refine ⟨⟨by decide, by omega, e4x⟩, fun _ => ⟨⟨by decide, by omega, e4y⟩, fun _ => CallK.mk he ?_⟩⟩
  simp -implicitDefEqProofs (disch := omega) only [go_sem, hes, Tm.enc, kX0, e']
  refine LoanK.con [9000] [] hb1 rfl (by simp [go_sem, Tm.enc]) ?_
  simp -implicitDefEqProofs (disch := omega) only [go_sem]
  refine ⟨_, Wk.refl _, ?_⟩
  simp -implicitDefEqProofs (disch := omega) only [go_sem, hes, Tm.enc, kX0]
  exact ⟨[], by simp, rfl, trivial⟩
 by_cases hk' : k' = 1
 ·obtain rfl := hr3 e hk hk'
  subst hk'
  rw [tv0, tw0, List.nil_append, List.nil_append]
  refine zi0 [(1, ([], [])), (2, ([], [])), (13, ([⟨4, 6, [90, 92], [94]⟩, ⟨4, 7, [90, 92], [95]⟩, ⟨4, 8, [90, 92], [96]⟩], [])), (14, ([⟨4, 6, [102, 104], [106]⟩, ⟨4, 7, [102, 104], [107]⟩, ⟨4, 8, [102, 104], [108]⟩], []))] zE0 zB0 Tryz.func167 ?_
  simp -implicitDefEqProofs (disch := omega) only [go_sem, hes, Tm.enc]
  refine ⟨by omega, fun _ => CallK.mk h1 ?_⟩
  simp -implicitDefEqProofs (disch := omega) only [go_sem, hes, Tm.enc]
  refine ⟨by omega, fun _ => CallK.mk h2 ?_⟩
  simp -implicitDefEqProofs (disch := omega) only [go_sem, hes, Tm.enc, kX0]
  refine ⟨⟨by decide, by omega, e4x⟩, fun _ => ⟨⟨by decide, by omega, e4y⟩, fun _ => CallK.mk he ?_⟩⟩
  have hkb : (k == 1) = false := by simpa using hk
  simp -implicitDefEqProofs (disch := omega) only [go_sem, hes, Tm.enc, kX0, e', hkb]
  refine LoanK.con [9000] [] hb2 rfl (by simp [go_sem, Tm.enc]) ?_
  simp -implicitDefEqProofs (disch := omega) only [go_sem]
  refine ⟨_, Wk.refl _, ?_⟩
  simp -implicitDefEqProofs (disch := omega) only [go_sem, hes, Tm.enc, kX0]
  exact ⟨[], by simp, rfl, trivial⟩
 replace hr4 := hr4 e hk hk'
 replace hr5 := hr5 e hk hk'
 refine zi0 [(1, ([], [])), (2, ([], [])), (13, ([⟨4, 6, [90, 92], [94]⟩, ⟨4, 7, [90, 92], [95]⟩, ⟨4, 8, [90, 92], [96]⟩], [])), (14, ([⟨4, 6, [102, 104], [106]⟩, ⟨4, 7, [102, 104], [107]⟩, ⟨4, 8, [102, 104], [108]⟩], []))] zE0 zB0 Tryz.func167 ?_
 simp -implicitDefEqProofs (disch := omega) only [go_sem, hes, Tm.enc]
 refine ⟨by omega, fun _ => CallK.mk h1 ?_⟩
 simp -implicitDefEqProofs (disch := omega) only [go_sem, hes, Tm.enc]
 refine ⟨by omega, fun _ => CallK.mk h2 ?_⟩
 simp -implicitDefEqProofs (disch := omega) only [go_sem, hes, Tm.enc, kX0]
 refine ⟨⟨by decide, by omega, e4x⟩, fun _ => ⟨⟨by decide, by omega, e4y⟩, fun _ => CallK.mk he ?_⟩⟩
 have hkb : (k == 1) = false := by simpa using hk
 have hkb' : (k' == 1) = false := by simpa using hk'
 by_cases hc : k = 2 ∧ k' = 2 ∧ eqS z z' = true ∧ ts.length = ts'.length
 ·obtain rfl := hr4 hc
  obtain ⟨rfl, rfl, hz, hll⟩ := hc
  have hz := (zw0 _ _).1 hz
  subst hz
  simp only [Option.map_some, Option.getD_some, cl0 ts ts' hll, cm0 ts ts' hll]
  simp -implicitDefEqProofs (disch := omega) only [go_sem, hes, Tm.enc, kX0, e', hkb, hkb', hll]
  refine ⟨⟨bg0 ts, by omega, by omega⟩, fun _ => ⟨⟨bg0 L, by omega, by omega⟩, fun _ => ⟨⟨bg0 ts', by omega, by omega⟩, fun _ => ⟨⟨bg0 R, by omega, by omega⟩, fun _ => ?_⟩⟩⟩⟩
  rw [cl0 ts ts' hll, cm0 ts ts' hll]
  refine ⟨_, (vC0 9000 0 90 (rows' := Tm.encs (ts ++ L)) rfl rfl rfl (by rw [jW1, hll]) (xE1 ts L)).trans (vC0 9000 1 102 (rows' := Tm.encs (ts' ++ R)) rfl rfl (by simp [zR0, pJ0]; exact ⟨rfl, rfl, rfl⟩) (by rw [jW1]) (xE1 ts' R)), ?_⟩
  simp -implicitDefEqProofs (disch := omega) only [go_sem]
  exact ⟨[], by simp, rfl, trivial, rfl⟩
 ·obtain rfl := hr5 hc
  simp -implicitDefEqProofs (disch := omega) only [go_sem, hes, Tm.enc, kX0, e', hkb, hkb']
  refine ⟨fun a1 => ⟨fun a2 => ⟨fun a3 => ⟨fun a4 => ?_, fun a4 => ?_⟩, fun a3 => ?_⟩, fun a2 => ?_⟩, fun a1 => ?_⟩
  rotate_left 1
  ·exact absurd ⟨by simpa using a1, by simpa using a2, (zw0 _ _).2 ((zw0 _ _).1 (by simp only [eqS, a3]; simp)), by simp at a4; omega⟩ hc
  all_goals (
   refine ⟨_, Wk.refl _, ?_⟩
   simp -implicitDefEqProofs (disch := omega) only [go_sem, hes, Tm.enc, kX0]
   exact ⟨[], by simp, rfl, trivial, rfl⟩)
end Go.Ai
