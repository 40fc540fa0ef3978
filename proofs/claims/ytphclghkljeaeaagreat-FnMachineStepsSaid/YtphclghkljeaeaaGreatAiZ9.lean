/- The term of a machine, on both sides. -/
import Derived.Test.YtphclghkljeaeaaGreatAiEMs
import Derived.Test.YtphclghkljeaeaaGreatAiF1
import Derived.Test.YtphclghkljeaeaaGreatAiY2
import Derived.Test.YtphclghkljeaeaaGreatAiG1
import Derived.Test.YtphclghkljeaeaaGreatAiI5
import Derived.Test.YtphclghkljeaeaaGreatAiRow2
set_option linter.unusedVariables false
set_option linter.unusedSimpArgs false
namespace Go.Ai
open Go.Proofs
set_option maxRecDepth 100000
def ga0 (xs : List Int) (nx : Int) (l : Nat) : Int :=
 if decide (0 ≤ nx) && decide (nx < (xs.length : Int)) then (if decide (0 ≤ xs.getD nx.toNat 0) && decide (xs.getD nx.toNat 0 < (l : Int)) then xs.getD nx.toNat 0 else -1) else -1
def zg0 (d : GDefinition) (f : GFrame) : Int := match f with
 | ⟨.mk k _ s ts, nx⟩ => ga0 (if k = 2 then zF0 d.st s else []) nx ts.length
theorem qN0 (xs : List Int) (nx : Int) (l : Nat) : ga0 xs nx l = -1 ∨ ∃ (i j : Nat), nx = (i : Int) ∧ i < xs.length ∧ xs.getD i 0 = (j : Int) ∧ j < l ∧ ga0 xs nx l = (j : Int) := by
 unfold ga0
 split
 ·rename_i h
  simp only [Bool.and_eq_true, decide_eq_true_eq] at h
  split
  ·rename_i h2
   simp only [Bool.and_eq_true, decide_eq_true_eq] at h2
   exact .inr ⟨nx.toNat, (xs.getD nx.toNat 0).toNat, by omega, by omega, by omega, by omega, by omega⟩
  ·exact .inl rfl
 ·exact .inl rfl
theorem qH0 (k n : Int) (s : ByteArray) (ts : List Tm) (nx : Int) : (GFrame.mk (.mk k n s ts) nx).enc = [.v (.int .i64 k), .v (.int .i64 n), .v (.string s), .sl (Tm.encs ts), .v (.int .i64 nx)] := rfl
theorem qf0 (d : GDefinition) (hs : d.st.length < 1048577) (f : GFrame) (hz : f.t.size < 1048577) : Sat Tryz.prog 152 [zn0 d.enc, zn0 f.enc] (zH0 (zg0 d f)) := by
 obtain ⟨⟨k, n, s, ts⟩, nx⟩ := f
 have hsa := vb0 d hs s
 have hxl := qM0 d.st s d.st.length
 rw [List.take_length] at hxl
 have hln := zI0 ts
 simp only [Tm.size] at hz
 rw [qH0]
 obtain ⟨r, hr⟩ : ∃ r, r = zg0 d ⟨.mk k n s ts, nx⟩ := ⟨_, rfl⟩
 rw [← hr]
 simp only [zg0] at hr
 generalize zF0 d.st s = xs at hsa hxl hr
 have hde := dE' d
 have hlm : (xs.map encI).length < 2000000 := by rw [List.length_map]; omega
 have hin := yD0 nx 0 ((xs.length : Int) - 1)
 have e0 : (decide (0 ≤ nx) && decide (nx < (xs.length : Int))) = (decide (0 ≤ nx) && decide (nx ≤ (xs.length : Int) - 1)) := by
  congr 1; exact decide_eq_decide.2 (by omega)
 refine soc zE0 zA0 Tryz.func152 ?_
 refine lB0 ?_
 refine CallK.mk hsa ?_
 by_cases hk : k = 2
 ·rw [if_pos hk] at hr
  subst hk
  unfold ga0 at hr
  rw [e0] at hr
  refine da0 ?_
  refine CallK.mk hin ?_
  by_cases hc : (decide (0 ≤ nx) && decide (nx ≤ (xs.length : Int) - 1)) = true
  ·rw [if_pos hc] at hr
   rw [hc]
   simp only [Bool.and_eq_true, decide_eq_true_eq] at hc
   obtain ⟨i, rfl⟩ : ∃ i : Nat, nx = (i : Int) := ⟨nx.toNat, by omega⟩
   have hi : i < xs.length := by omega
   have hg := zD0 (ec := encI) hi
   have e1 : xs.getD ((i : Int)).toNat 0 = xs[i] := by rw [Int.toNat_natCast, List.getD_eq_getElem?_getD, List.getElem?_eq_getElem hi, Option.getD_some]
   rw [e1] at hr
   simp only [encI] at hg
   generalize xs[i] = x at hg hr
   have hin2 := yD0 x 0 ((ts.length : Int) - 1)
   have e2 : (decide (0 ≤ x) && decide (x < (ts.length : Int))) = (decide (0 ≤ x) && decide (x ≤ (ts.length : Int) - 1)) := by
    congr 1; exact decide_eq_decide.2 (by omega)
   rw [e2] at hr
   generalize (decide (0 ≤ x) && decide (x ≤ (ts.length : Int) - 1)) = b at hin2 hr
   refine nb1 ?_
   refine CallK.mk hin2 ?_
   refine nb1 ?_
   exact ⟨fun h => by rw [hr, h]; rfl, fun h => by rw [hr, h]; rfl⟩
  ·rw [if_neg hc] at hr
   have hc : (decide (0 ≤ nx) && decide (nx ≤ (xs.length : Int) - 1)) = false := by simpa using hc
   rw [hc]
   refine qI0 ?_
   exact hr.symm
 ·have hkb : (k == 2) = false := by simpa using hk
  rw [if_neg hk] at hr
  have hr : r = -1 := by
   rw [hr]; unfold ga0; rw [if_neg (by simp)]
  simp -implicitDefEqProofs (disch := omega) only [go_sem, hkb, hk]
  exact ⟨fun h => (by rw [bne, hkb] at h; cases h), hr.symm⟩
def rG0 (j : Nat) (v : Tm) : Tm → Tm
 | .mk k n s ts => .mk k n s (ts.set j v)
def km0 (h : Int) (u t : Tm) : Option Tm := if h < 0 then none else some (rG0 h.toNat t u)
def qr0 (d : GDefinition) (f : GFrame) (t : Tm) : Option Tm := km0 (zg0 d f) f.t t
theorem kf0 (d : GDefinition) (hs : d.st.length < 1048577) (f : GFrame) (hz : f.t.size < 1048577) (t : Tm) : Sat Tryz.prog 147 [zn0 d.enc, zn0 f.enc, tmV t] (.tup [tmV ((qr0 d f t).getD zeroT), boolV (qr0 d f t).isSome]) := by
 obtain ⟨⟨k, n, s, ts⟩, nx⟩ := f
 have hso := qQ0 d hs k n s ts
 have hwa := fun j (hj : j < ts.length) => po0 k n s ts hz t j hj
 have hxl : (if k = 2 then zF0 d.st s else []).length < 1048577 := by
  split
  ·have := qM0 d.st s d.st.length
   rw [List.take_length] at this
   omega
  ·simp
 have hln := zI0 ts
 simp only [Tm.size] at hz
 rw [qH0]
 obtain ⟨r, hr⟩ : ∃ r, r = qr0 d ⟨.mk k n s ts, nx⟩ t := ⟨_, rfl⟩
 rw [← hr]
 simp only [qr0, zg0] at hr
 generalize (if k = 2 then zF0 d.st s else []) = xs at hso hxl hr
 have hde := dE' d
 have hlm : (xs.map encI).length < 2000000 := by rw [List.length_map]; omega
 obtain ⟨vk, vn, vs, vt⟩ := t
 unfold ga0 at hr
 refine soc zE0 zA0 Tryz.func147 ?_
 simp -implicitDefEqProofs (disch := omega) only [go_sem, hde, Tm.enc]
 refine CallK.mk hso ?_
 by_cases hc : (decide (0 ≤ nx) && decide (nx < (xs.length : Int))) = true
 ·rw [if_pos hc] at hr
  simp only [Bool.and_eq_true, decide_eq_true_eq] at hc
  obtain ⟨i, rfl⟩ : ∃ i : Nat, nx = (i : Int) := ⟨nx.toNat, by omega⟩
  have hi : i < xs.length := by omega
  have hin : ¬ xs.length ≤ i := by omega
  have hg := zD0 (ec := encI) hi
  have e1 : xs.getD ((i : Int)).toNat 0 = xs[i] := by rw [Int.toNat_natCast, List.getD_eq_getElem?_getD, List.getElem?_eq_getElem hi, Option.getD_some]
  rw [e1] at hr
  simp only [encI] at hg
  generalize xs[i] = x at hg hr
  by_cases hc2 : (decide (0 ≤ x) && decide (x < (ts.length : Int))) = true
  ·rw [if_pos hc2] at hr
   simp only [Bool.and_eq_true, decide_eq_true_eq] at hc2
   obtain ⟨j, rfl⟩ : ∃ j : Nat, x = (j : Int) := ⟨x.toNat, by omega⟩
   have hj : j < ts.length := by omega
   have hjn : ¬ ts.length ≤ j := by omega
   unfold km0 at hr
   rw [if_neg (by omega)] at hr
   simp only [rG0] at hr
   have hwa := hwa j hj
   simp only [Int.toNat_natCast] at hr
   generalize ts.set j (.mk vk vn vs vt) = ts' at hwa hr
   subst hr
   simp -implicitDefEqProofs (disch := omega) only [go_sem, List.length_map, hg, hi, hin, hj, hjn, enc_len]
   refine c5' hwa ?_
   rfl
  ·rw [if_neg hc2] at hr
   unfold km0 at hr
   rw [if_pos (by omega)] at hr
   subst hr
   simp only [Bool.and_eq_true, decide_eq_true_eq] at hc2
   simp -implicitDefEqProofs (disch := omega) only [go_sem, List.length_map, hg, hi, hin, enc_len, zeroT, Tm.enc, Tm.encs]
   exact ⟨fun h => ⟨fun _ => rfl, fun h2 => (hc2 ⟨by omega, by omega⟩).elim⟩, fun _ => rfl⟩
 ·rw [if_neg hc] at hr
  unfold km0 at hr
  rw [if_pos (by omega)] at hr
  subst hr
  simp only [Bool.and_eq_true, decide_eq_true_eq] at hc
  simp -implicitDefEqProofs (disch := omega) only [go_sem, List.length_map, zeroT, Tm.enc, Tm.encs]
  exact ⟨fun h => ⟨fun h2 => (hc ⟨by omega, by omega⟩).elim, fun h2 => rfl⟩, fun h => rfl⟩
def jz0 (d : GDefinition) : Tm → List GFrame → Option Tm
 | t, [] => some t
 | t, f :: fs => match qr0 d f t with
  | some u => jz0 d u fs
  | none => none
def zY0 (d : GDefinition) (m : GMachine) : Option Tm := jz0 d m.fo m.st.reverse
theorem dU0 (fs : List GFrame) (c : Nat) (h : c < fs.length) : (fs.take (c + 1)).reverse = fs[c] :: (fs.take c).reverse := by
 rw [List.take_succ_eq_append_getElem h, List.reverse_append]; rfl
theorem yB0 (d : GDefinition) (hs : d.st.length < 1048577) (m : GMachine) (hfz : ∀ f, f ∈ m.st → f.t.size < 1048577) (hl : m.st.length < 2000000) : Sat Tryz.prog 74 [zn0 d.enc, zn0 m.enc] (.tup [tmV ((zY0 d m).getD zeroT), boolV (zY0 d m).isSome]) := by
 have hfi := fun f (hf : f ∈ m.st) t => kf0 d hs f (hfz f hf) t
 obtain ⟨r, hr⟩ : ∃ r, r = zY0 d m := ⟨_, rfl⟩
 rw [← hr]
 unfold zY0 at hr
 obtain ⟨⟨k, n, s, ts⟩, nx, fs, rw_⟩ := m
 simp only at hfi hl hr
 clear hfz
 have hde := dE' d
 have hme : (GMachine.mk (.mk k n s ts) nx fs rw_).enc = [.v (.int .i64 k), .v (.int .i64 n), .v (.string s), .sl (Tm.encs ts), .v (.int .i64 nx), .sl (fs.map GFrame.enc), .v (.int .i64 rw_)] := rfl
 rw [hme, hde] at *
 refine soc zE0 zA0 Tryz.func74 ?_
 refine da0 ?_
 refine zB0 (ι := Nat × Int × Int × ByteArray × List Tm) (fun i => mk 36 [(2, .one (.ptr 2 0)), (3, .one (.ptr 3 0)), (4, .one (.ptr 4 0)), (6, .one (.ptr 6 0)), (7, zH0 ((i.1 : Int) - 1))] [(2, .var [.c (.sl (d.si.so.map encS)), .c (.sl (d.si.op.map GOp.enc)), .c (.sl (d.ru.map GRule.enc)), .c (.sl (d.st.map GStrict.enc))]), (3, .var [iC k, iC n, sC s, tC ts, iC nx, .c (.sl (fs.map GFrame.enc)), iC rw_]), (4, .var zT), (6, .var [iC i.2.1, iC i.2.2.1, sC i.2.2.2.1, tC i.2.2.2.2])])
  (fun i => i.1 ≤ fs.length ∧ r = jz0 d (.mk i.2.1 i.2.2.1 i.2.2.2.1 i.2.2.2.2) (fs.take i.1).reverse) (fun i => i.1) (fs.length, k, n, s, ts) ⟨Nat.le_refl _, by rw [hr, List.take_length]⟩ ?_ zE0 zA0 (by decide +kernel) ?_
 ·exact t2'
 ·rintro ⟨c, k1, n1, s1, ts1⟩ ⟨hc, he⟩
  simp only at hc he
  cases c with
  | zero =>
   have he : r = some (.mk k1 n1 s1 ts1) := he
   subst he
   refine qI0 ?_
   exact mo1
  | succ c =>
   have hlt : c < fs.length := by omega
   rw [dU0 fs c hlt] at he
   simp only [jz0] at he
   have hg := zD0 (ec := GFrame.enc) hlt
   have hf := hfi fs[c] (List.getElem_mem hlt) (.mk k1 n1 s1 ts1)
   generalize fs[c] = f at hg hf he
   generalize qr0 d f (.mk k1 n1 s1 ts1) = q at hf he
   obtain ⟨⟨fk, fn, fss, ft⟩, fx⟩ := f
   rw [qH0] at hg hf
   have ei : ((c + 1 : Nat) : Int) - 1 = (c : Int) := by omega
   refine ps1 ?_
   have hge : ((c : Int) ≥ 0) = True := eq_true (by omega)
   cases q with
   | none =>
    have he : r = none := he
    subst he
    refine CallK.mk hf ?_
    refine dz1 ?_
    rfl
   | some u =>
    obtain ⟨uk, un, us, ut⟩ := u
    refine CallK.mk hf ?_
    refine gA1 ?_
    exact ⟨(c, uk, un, us, ut), ⟨by omega, he⟩, by simp only; omega, lek⟩
theorem jy0 (m : GMachine) (hz : m.size < 1048577) : (∀ f, f ∈ m.st → f.t.size < 1048577) ∧ m.st.length < 1048577 := by
 refine ⟨fun f hf => by have := yz0 GFrame.size m.st f hf; simp only [GMachine.size, GFrame.size] at *; omega, ?_⟩
 have := zz0 GFrame.size m.st
 simp only [GMachine.size] at hz
 omega
theorem yW0 (d : GDefinition) (hs : d.st.length < 1048577) (m : GMachine) (hz : m.size < 1048577) : Sat Tryz.prog 74 [zn0 d.enc, zn0 m.enc] (.tup [tmV ((zY0 d m).getD zeroT), boolV (zY0 d m).isSome]) :=
 yB0 d hs m (jy0 m hz).1 (by have := (jy0 m hz).2; omega)
theorem bY0 (d : GDefinition) (f : GFrame) (t u : Tm) (h : qr0 d f t = some u) : u.size ≤ f.t.size + t.size := by
 obtain ⟨⟨k, n, s, ts⟩, nx⟩ := f
 unfold qr0 km0 at h
 split at h
 ·cases h
 ·cases h
  rename_i hn
  simp only [zg0] at hn ⊢
  rcases qN0 (if k = 2 then zF0 d.st s else []) nx ts.length with h | ⟨i, j, _, _, _, hj, h⟩
  ·rw [h] at hn; omega
  ·rw [h]
   simp only [rG0, Int.toNat_natCast, Tm.size]
   have := fW0 ts j hj t
   omega
theorem rf0 (d : GDefinition) (f : GFrame) (t u : Tm) (hf : f.t.wf) (ht : t.wf) (h : qr0 d f t = some u) : u.wf := by
 obtain ⟨⟨k, n, s, ts⟩, nx⟩ := f
 unfold qr0 km0 at h
 split at h
 ·cases h
 ·cases h
  obtain ⟨w1, w2, w3, w4, w5⟩ := hf
  have hm := (yf0 ts).1 w5
  simp only [rG0]
  refine ⟨w1, w2, w3, by simpa using w4, (yf0 _).2 (fun a ha => ?_)⟩
  rcases List.mem_or_eq_of_mem_set ha with ha | rfl
  ·exact hm a ha
  ·exact ht
theorem rx0 (d : GDefinition) : ∀ (fs : List GFrame) (t u : Tm), jz0 d t fs = some u → t.wf → (∀ f, f ∈ fs → f.t.wf) → u.size ≤ t.size + szL GFrame.size fs ∧ u.wf
 | [], t, u, h, hw, _ => by cases h; exact ⟨by simp [szL], hw⟩
 | f :: fs, t, u, h, hw, hf => by
  simp only [jz0] at h
  cases hq : qr0 d f t with
  | none => rw [hq] at h; cases h
  | some v =>
   rw [hq] at h
   have h1 := bY0 d f t v hq
   have h2 := rf0 d f t v (hf f (by simp)) hw hq
   have := rx0 d fs v u h h2 (fun g hg => hf g (by simp [hg]))
   refine ⟨?_, this.2⟩
   have h3 := this.1
   simp only [szL, GFrame.size]; omega
theorem fk0 {α : Type} (sz : α → Nat) (xs ys : List α) : szL sz (xs ++ ys) = szL sz xs + szL sz ys := by
 induction xs with
 | nil => simp [szL]
 | cons a xs ih => simp only [List.cons_append, szL, ih]; omega
theorem xf1 {α : Type} (sz : α → Nat) (xs : List α) : szL sz xs.reverse = szL sz xs := by
 induction xs with
 | nil => rfl
 | cons a xs ih => rw [List.reverse_cons, fk0, ih]; simp only [szL]; omega
theorem bh0 (d : GDefinition) (m : GMachine) (hw : m.wf) (u : Tm) (h : zY0 d m = some u) : u.size ≤ m.size ∧ u.wf := by
 have := rx0 d m.st.reverse m.fo u h hw.1 (fun f hf => (hw.2.2.1.2 f (List.mem_reverse.1 hf)).1)
 rw [xf1] at this
 refine ⟨?_, this.2⟩
 have h1 := this.1
 simp only [GMachine.size]; omega
theorem pR0 (d : GDefinition) (m : GMachine) (hw : m.wf) : ((zY0 d m).getD zeroT).size ≤ m.size ∧ ((zY0 d m).getD zeroT).wf := by
 cases h : zY0 d m with
 | none => exact ⟨by simp [zeroT, Tm.size, Tm.sizes], ks1⟩
 | some u => exact bh0 d m hw u h
theorem yA0 (d : GDefinition) (hs : d.st.length < 1048577) (m : GMachine) (hw : m.wf) (hz : m.size < 1048577) : SatF Tryz.prog 23 [zn0 d.enc, zn0 m.enc] (.tup [tmV ((zY0 d m).getD zeroT), boolV (zY0 d m).isSome]) := by
 have h1 := yW0 d hs m hz
 have h2 := qA0 ((zY0 d m).getD zeroT) (by have := (pR0 d m hw).1; omega)
 obtain ⟨r1, r2, hr1, hr2⟩ : ∃ r1 r2, r1 = (zY0 d m).getD zeroT ∧ r2 = (zY0 d m).isSome := ⟨_, _, rfl, rfl⟩
 rw [← hr1] at h2
 rw [← hr1, ← hr2] at h1 ⊢
 clear hr1 hr2 hw hz
 obtain ⟨rk, rn, rs, rt⟩ := r1
 obtain ⟨⟨k, n, s, ts⟩, nx, fs, rw_⟩ := m
 have hde := dE' d
 have hme : (GMachine.mk (.mk k n s ts) nx fs rw_).enc = [.v (.int .i64 k), .v (.int .i64 n), .v (.string s), .sl (Tm.encs ts), .v (.int .i64 nx), .sl (fs.map GFrame.enc), .v (.int .i64 rw_)] := rfl
 refine sfc [tmV (.mk rk rn rs rt), boolV r2] rfl (fun _ h => by cases h; rfl) zE0 zA0 Tryz.func23 ?_
 simp -implicitDefEqProofs (disch := omega) only [go_sem, hde, hme]
 refine c5' h1 ?_
 refine CallK.own h2 rfl ?_
 simp -implicitDefEqProofs (disch := omega) only [go_sem, Tm.enc]
theorem wW1 (k n : Int) (s : ByteArray) (ts : List Tm) (hl : ts.length < 4000000) (ih : ∀ t, t ∈ ts → Sat Tryz.prog 58 [tmV t] (tmV t)) : Sat Tryz.prog 58 [tmV (.mk k n s ts)] (tmV (.mk k n s ts)) := by
 refine soc zE0 zA0 Tryz.func58 ?_
 refine jj0 ?_
 refine zB0 (ι := Nat) (fun i => mk 25 [(1, .one (.ptr 1 0)), (2, .one (.ptr 2 0)), (3, .one (.own 5 (ts.take i).length)), (4, zH0 i)] [(1, .var [iC k, iC n, sC s, tC ts]), (2, .var zT), (5, .arr 34 4 (rowsOf Tm.enc (ts.take i)) false)])
  (fun i => i ≤ ts.length) (fun i => ts.length - i) 0 (Nat.zero_le _) ?_ zE0 zA0 (by decide +kernel) ?_
 ·exact xg1
 ·intro i hi
  have hln : (ts.take i).length ≤ ts.length := by rw [List.length_take]; omega
  rcases Nat.lt_or_ge i ts.length with hlt | hge
  ·have hg := zG0 ts i hlt
   have ht : ts.take (i + 1) = ts.take i ++ [ts[i]] := by rw [List.take_add_one, List.getElem?_eq_getElem hlt]; rfl
   refine jL1 ?_
   refine c0' (ih _ (List.getElem_mem hlt)) ?_
   refine ⟨⟨by simp [enc_len], by omega, by omega⟩, fun _ => ⟨i + 1, hlt, by omega, ?_⟩⟩
   rw [ht]
   generalize ts.take i = acc
   generalize ts[i] = a
   exact mh1
  ·have : i = ts.length := by omega
   subst this
   refine pq1 ?_
   rw [← encs_map]; rfl
theorem jV0 : ∀ (t : Tm), t.size < 4000000 → Sat Tryz.prog 58 [tmV t] (tmV t) := by
 refine Tm.ind (fun k n s ts ih h => wW1 k n s ts ?_ (fun t ht => ih t ht ?_))
 ·have := zI0 ts; simp only [Tm.size] at h; omega
 ·have := zQ0 ts t ht; simp only [Tm.size] at h; omega
theorem kT0 (d : GDefinition) (hs : d.st.length < 1048577) (m : GMachine) (hfo : m.fo.size < 4000000) (hfz : ∀ f, f ∈ m.st → f.t.size < 1048577) (hl : m.st.length < 2000000) : Sat Tryz.prog 78 [zn0 d.enc, zn0 m.enc] (.tup [tmV ((zY0 d m).getD zeroT), boolV (zY0 d m).isSome]) := by
 have hho := fun f (hf : f ∈ m.st) => qf0 d hs f (hfz f hf)
 have hcp := fun f (hf : f ∈ m.st) k n s ts (e : f.t = .mk k n s ts) => jW0 k n s ts (by rw [← e]; exact hfz f hf)
 have hcf := jV0 m.fo hfo
 obtain ⟨r, hr⟩ : ∃ r, r = zY0 d m := ⟨_, rfl⟩
 rw [← hr]
 unfold zY0 at hr
 obtain ⟨⟨k, n, s, ts⟩, nx, fs, rw_⟩ := m
 simp only at hho hcp hl hr hcf
 clear hfo hfz
 have hde := dE' d
 have hme : (GMachine.mk (.mk k n s ts) nx fs rw_).enc = [.v (.int .i64 k), .v (.int .i64 n), .v (.string s), .sl (Tm.encs ts), .v (.int .i64 nx), .sl (fs.map GFrame.enc), .v (.int .i64 rw_)] := rfl
 rw [hme, hde] at *
 refine soc zE0 zA0 Tryz.func78 ?_
 refine da0 ?_
 refine CallK.mk hcf ?_
 refine nX1 ?_
 refine zB0 (ι := Nat × Int × Int × ByteArray × List Tm) (fun i => mk 45 [(2, .one (.ptr 2 0)), (3, .one (.ptr 3 0)), (4, .one (.ptr 4 0)), (6, .one (.ptr 6 0)), (7, zH0 ((i.1 : Int) - 1))] [(2, .var [.c (.sl (d.si.so.map encS)), .c (.sl (d.si.op.map GOp.enc)), .c (.sl (d.ru.map GRule.enc)), .c (.sl (d.st.map GStrict.enc))]), (3, .var [iC k, iC n, sC s, tC ts, iC nx, .c (.sl (fs.map GFrame.enc)), iC rw_]), (4, .var zT), (6, .var [iC i.2.1, iC i.2.2.1, sC i.2.2.2.1, tC i.2.2.2.2])])
  (fun i => i.1 ≤ fs.length ∧ r = jz0 d (.mk i.2.1 i.2.2.1 i.2.2.2.1 i.2.2.2.2) (fs.take i.1).reverse) (fun i => i.1) (fs.length, k, n, s, ts) ⟨Nat.le_refl _, by rw [hr, List.take_length]⟩ ?_ zE0 zA0 (by decide +kernel) ?_
 ·exact t2'
 ·rintro ⟨c, k1, n1, s1, ts1⟩ ⟨hc, he⟩
  simp only at hc he
  cases c with
  | zero =>
   have he : r = some (.mk k1 n1 s1 ts1) := he
   subst he
   refine qI0 ?_
   exact mo1
  | succ c =>
   have hlt : c < fs.length := by omega
   rw [dU0 fs c hlt] at he
   simp only [jz0] at he
   have hg := zD0 (ec := GFrame.enc) hlt
   have hm := List.getElem_mem hlt
   generalize fs[c] = f at hg hm he
   have hf := hho f hm
   have hcp := fun k n s ts e => hcp f hm k n s ts e
   obtain ⟨⟨fk, fn, fss, ft⟩, fx⟩ := f
   have hcp := hcp fk fn fss ft rfl
   have hfb : qr0 d ⟨.mk fk fn fss ft, fx⟩ (.mk k1 n1 s1 ts1) = km0 (zg0 d ⟨.mk fk fn fss ft, fx⟩) (.mk fk fn fss ft) (.mk k1 n1 s1 ts1) := rfl
   rw [hfb] at he
   have hhx : zg0 d ⟨.mk fk fn fss ft, fx⟩ = -1 ∨ ∃ (j : Nat), j < ft.length ∧ zg0 d ⟨.mk fk fn fss ft, fx⟩ = (j : Int) := by
    rcases qN0 (if fk = 2 then zF0 d.st fss else []) fx ft.length with h | ⟨i, j, _, _, _, hj, h⟩
    ·exact .inl h
    ·exact .inr ⟨j, hj, h⟩
   generalize zg0 d ⟨.mk fk fn fss ft, fx⟩ = h at hf he hhx
   rw [qH0] at hg hf
   have ei : ((c + 1 : Nat) : Int) - 1 = (c : Int) := by omega
   refine ps1 ?_
   refine CallK.mk hf ?_
   rcases hhx with rfl | ⟨j, hj, rfl⟩
   ·have he : r = none := he
    subst he
    refine gH1 ?_
    exact ⟨fun _ => rfl, fun h => (h (by decide)).elim⟩
   ·have he : r = jz0 d (.mk fk fn fss (ft.set j (.mk k1 n1 s1 ts1))) (fs.take c).reverse := he
    have hgr := wL0 (ec := Tm.enc) hj
    generalize ft[j] = a at hgr
    obtain ⟨ak, an, as', at_⟩ := a
    simp only [Tm.enc, List.map_cons, List.map_nil] at hgr
    have hst := jK0 ft j k1 n1 s1 ts1
    refine ps1 ?_
    refine CallK.out hcp rfl ?_
    simp -implicitDefEqProofs (disch := omega) only [go_sem, hgr, hj, hst, rowsOf_len]
    refine ⟨by simp, fun _ => ⟨(c, fk, fn, fss, ft.set j (.mk k1 n1 s1 ts1)), ⟨by omega, he⟩, by simp only; omega, (wu0 6 3 37 (rows' := (ft.set j (.mk k1 n1 s1 ts1)).map Tm.enc) rfl rfl rfl (by simp [rowsOf_len]) qJ0).trans ?_⟩⟩
    exact le_mk (by simp [go_sem]) (by simp [go_sem, encs_map, jo0, zT])
theorem kx0 (d : GDefinition) (hs : d.st.length < 1048577) (m : GMachine) (hz : m.size < 1048577) : Sat Tryz.prog 78 [zn0 d.enc, zn0 m.enc] (.tup [tmV ((zY0 d m).getD zeroT), boolV (zY0 d m).isSome]) :=
 kT0 d hs m (by simp only [GMachine.size] at hz; omega) (jy0 m hz).1 (by have := (jy0 m hz).2; omega)
theorem zN0 (k n : Int) (s : ByteArray) (ts : List Tm) (nx : Int) (fs : List GFrame) (rw_ : Int) : (GMachine.mk (.mk k n s ts) nx fs rw_).enc = [.v (.int .i64 k), .v (.int .i64 n), .v (.string s), .sl (Tm.encs ts), .v (.int .i64 nx), .sl (fs.map GFrame.enc), .v (.int .i64 rw_)] := rfl
theorem qz1 (f : GFrame) : f.enc.length = 5 := by
 obtain ⟨⟨k, n, s, ts⟩, nx⟩ := f; rfl
theorem xi0 {α : Type} {ec : α → List C} (xs : List α) (i : Nat) (h : i < xs.length) : rowsOf ec (xs.take (i + 1)) = rowsOf ec (xs.take i) ++ [(ec xs[i]).map .c] := by
 unfold rowsOf
 rw [List.take_succ_eq_append_getElem h, List.map_append]; rfl
theorem ke0 (k n : Int) (s : ByteArray) (ts : List Tm) (nx : Int) (fs : List GFrame) (rw_ : Int) (hfo : (Tm.mk k n s ts).size < 100000000) (hfz : ∀ f, f ∈ fs → f.t.size < 100000000) (hl : fs.length < 2000000) : SatO Tryz.prog 75 [zn0 (GMachine.mk (.mk k n s ts) nx fs rw_).enc] 124 5 (rowsOf GFrame.enc fs) (.agg [iC k, iC n, sC s, tC ts, iC nx, .own 0 fs.length, iC rw_]) := by
 have hcf := (qA0 (.mk k n s ts) hfo).sat
 have hcp := fun f hf => (qA0 f.t (hfz f hf)).sat
 rw [zN0]
 refine qe0 [.agg [iC k, iC n, sC s, tC ts, iC nx, .own 0 fs.length, iC rw_]] rfl (by simp) zE0 zA0 Tryz.func75 rfl rfl rfl (by decide +kernel) (by decide +kernel) (Nat.le_of_ble_eq_true rfl) (by decide) zk0 zd0 rfl ?_
 refine qI0 ?_
 refine CallK.mk hcf ?_
 refine dw1 ?_
 refine zB0 (ι := Nat) (fun i => match i with
   | 0 => mk 34 [(2, .one (.ptr 2 0)), (3, .one (.ptr 3 0)), (15, slV (fs.map GFrame.enc)), (16, zH0 fs.length), (17, zH0 (0 : Nat))] [(2, .var [iC 0, iC 0, sC ByteArray.empty, .nil, iC 0, .nil, iC 0]), (3, .var [iC k, iC n, sC s, tC ts, iC nx, .nil, iC rw_])]
   | i + 1 => mk 34 [(2, .one (.ptr 2 0)), (3, .one (.ptr 3 0)), (15, slV (fs.map GFrame.enc)), (16, zH0 fs.length), (17, zH0 (i + 1 : Nat))] [(2, .var [iC 0, iC 0, sC ByteArray.empty, .nil, iC 0, .nil, iC 0]), (3, .var [iC k, iC n, sC s, tC ts, iC nx, .own 30 (i + 1), iC rw_]), (30, .arr 124 5 (rowsOf GFrame.enc (fs.take (i + 1))) false)])
  (fun i => i ≤ fs.length) (fun i => fs.length - i) 0 (Nat.zero_le _) ?_ zE0 zA0 (by decide +kernel) ?_
 ·exact mk1
 ·intro i hi
  rcases Nat.lt_or_ge i fs.length with hlt | hge
  ·have hg := zD0 (ec := GFrame.enc) hlt
   have hcf := hcp _ (List.getElem_mem hlt)
   have ht := xi0 (ec := GFrame.enc) fs i hlt
   have hln : (rowsOf GFrame.enc (fs.take i)).length = i := by rw [rowsOf_len, List.length_take]; omega
   generalize fs[i] = f at hg hcf ht
   obtain ⟨⟨fk, fn, fss, ft⟩, fx⟩ := f
   rw [qH0] at hg ht
   simp only [List.map_cons, List.map_nil] at ht
   cases i with
   | zero =>
    have ht0 := ht.trans (congrArg (· ++ _) (show rowsOf GFrame.enc (List.take 0 fs) = [] from rfl))
    simp only [List.nil_append, Nat.zero_add] at ht0
    refine jL1 ?_
    refine CallK.mk hcf ?_
    refine nc1 ?_
    refine ⟨by simp, fun _ => ⟨1, by omega, by omega, ?_⟩⟩
    exact mg1
   | succ i =>
    refine jL1 ?_
    refine CallK.mk hcf ?_
    refine nd1 ?_
    refine ⟨⟨by simp, by omega, by omega⟩, fun _ => ⟨i + 2, by omega, by omega, ?_⟩⟩
    exact ml1
  ·have : i = fs.length := by omega
   subst this
   cases fs with
   | nil =>
    refine xL1 ?_
    rfl
   | cons f rest =>
    simp -implicitDefEqProofs (disch := omega) only [go_sem, Nat.lt_irrefl, List.take_length]
theorem jT0 (m : GMachine) (hfo : m.fo.size < 100000000) (hfz : ∀ f, f ∈ m.st → f.t.size < 100000000) (hl : m.st.length < 2000000) : Sat Tryz.prog 75 [zn0 m.enc] (zn0 m.enc) := by
 obtain ⟨⟨k, n, s, ts⟩, nx, fs, rw_⟩ := m
 exact (ke0 k n s ts nx fs rw_ hfo hfz hl).sat (by simp [gU0, mq0, rowsOf_len]) qJ0 rfl
theorem kd0 (k n : Int) (s : ByteArray) (ts : List Tm) (nx : Int) (fs : List GFrame) (rw_ : Int) (hfo : (Tm.mk k n s ts).size < 100000000) (hfz : ∀ f, f ∈ fs → f.t.size < 100000000) (hl : fs.length < 2000000) : SatF Tryz.prog 75 [zn0 (GMachine.mk (.mk k n s ts) nx fs rw_).enc] (zn0 (GMachine.mk (.mk k n s ts) nx fs rw_).enc) := by
 have hcf := qA0 (.mk k n s ts) hfo
 have hcp := fun f hf => qA0 f.t (hfz f hf)
 rw [zN0]
 refine sfc [zn0 [.v (.int .i64 k), .v (.int .i64 n), .v (.string s), .sl (Tm.encs ts), .v (.int .i64 nx), .sl (fs.map GFrame.enc), .v (.int .i64 rw_)]] rfl (fun _ h => by cases h) zE0 zA0 Tryz.func75 ?_
 refine qI0 ?_
 refine CallK.own hcf rfl ?_
 refine dw1 ?_
 refine zB0 (ι := Nat) (fun i => match i with
   | 0 => mk 34 [(2, .one (.ptr 2 0)), (3, .one (.ptr 3 0)), (15, slV (fs.map GFrame.enc)), (16, zH0 fs.length), (17, zH0 (0 : Nat))] [(2, .var [iC 0, iC 0, sC ByteArray.empty, .nil, iC 0, .nil, iC 0]), (3, .var [iC k, iC n, sC s, .tk 8 3, iC nx, .nil, iC rw_]), (8, .tok [some (.v (.int .i64 k)), some (.v (.int .i64 n)), some (.v (.string s)), some (.sl (Tm.encs ts))])]
   | i + 1 => mk 34 [(2, .one (.ptr 2 0)), (3, .one (.ptr 3 0)), (15, slV (fs.map GFrame.enc)), (16, zH0 fs.length), (17, zH0 (i + 1 : Nat))] [(2, .var [iC 0, iC 0, sC ByteArray.empty, .nil, iC 0, .nil, iC 0]), (3, .var [iC k, iC n, sC s, .tk 8 3, iC nx, .own 30 (i + 1), iC rw_]), (8, .tok [some (.v (.int .i64 k)), some (.v (.int .i64 n)), some (.v (.string s)), some (.sl (Tm.encs ts))]), (30, .arr 124 5 (zV0 GFrame.enc (fs.take (i + 1))) false)])
  (fun i => i ≤ fs.length) (fun i => fs.length - i) 0 (Nat.zero_le _) ?_ zE0 zA0 (by decide +kernel) ?_
 ·exact mk1
 ·intro i hi
  rcases Nat.lt_or_ge i fs.length with hlt | hge
  ·have hg := zD0 (ec := GFrame.enc) hlt
   have hcf := hcp _ (List.getElem_mem hlt)
   have ht := wG0 GFrame.enc fs i hlt
   have hln : (zV0 GFrame.enc (fs.take i)).length = i := by rw [drowsOf_len, List.length_take]; omega
   generalize fs[i] = f at hg hcf ht
   obtain ⟨⟨fk, fn, fss, ft⟩, fx⟩ := f
   rw [qH0] at hg ht
   simp only [List.map_cons, List.map_nil, dC] at ht
   cases i with
   | zero =>
    have ht0 := ht.trans (congrArg (· ++ _) (show zV0 GFrame.enc (List.take 0 fs) = [] from rfl))
    simp only [List.nil_append, Nat.zero_add] at ht0
    refine jL1 ?_
    refine CallK.own hcf rfl ?_
    refine nc1 ?_
    refine ⟨by simp, fun _ => ⟨1, by omega, by omega, (zx0 (l := 30) (c := 3) (rows := []) rfl rfl rfl rfl).trans ?_⟩⟩
    exact mg1
   | succ i =>
    refine jL1 ?_
    refine CallK.own hcf rfl ?_
    refine nd1 ?_
    refine ⟨⟨by simp, by omega, by omega⟩, fun _ => ⟨i + 2, by omega, by omega, (zx0 (l := 30) (c := 3) rfl rfl rfl rfl).trans ?_⟩⟩
    exact ml1
  ·have : i = fs.length := by omega
   subst this
   cases fs with
   | nil =>
    simp -implicitDefEqProofs (disch := omega) only [go_sem, Nat.lt_irrefl]
   | cons f rest =>
    refine pq1 ?_
    simp [zV0]
theorem qv0 (k n : Int) (s : ByteArray) (ts : List Tm) (nx : Int) (fs : List GFrame) (rw_ : Int) (hfo : (Tm.mk k n s ts).size < 4000000) (hfz : ∀ f, f ∈ fs → f.t.size < 4000000) (hl : fs.length < 2000000) : SatO Tryz.prog 79 [zn0 (GMachine.mk (.mk k n s ts) nx fs rw_).enc] 124 5 (rowsOf GFrame.enc fs) (.agg [iC k, iC n, sC s, tC ts, iC nx, .own 0 fs.length, iC rw_]) := by
 have hcf := jV0 (.mk k n s ts) hfo
 have hcp := fun f hf => jV0 f.t (hfz f hf)
 rw [zN0]
 refine qe0 [.agg [iC k, iC n, sC s, tC ts, iC nx, .own 0 fs.length, iC rw_]] rfl (by simp) zE0 zA0 Tryz.func79 rfl rfl rfl (by decide +kernel) (by decide +kernel) (Nat.le_of_ble_eq_true rfl) (by decide) zk0 zd0 rfl ?_
 refine qI0 ?_
 refine CallK.mk hcf ?_
 refine dw1 ?_
 refine zB0 (ι := Nat) (fun i => match i with
   | 0 => mk 40 [(2, .one (.ptr 2 0)), (1, .one (.ptr 1 0)), (3, .one (.ptr 3 0)), (4, zH0 (0 : Nat))] [(1, .var [iC k, iC n, sC s, tC ts, iC nx, .c (.sl (fs.map GFrame.enc)), iC rw_]), (2, .var [iC 0, iC 0, sC ByteArray.empty, .nil, iC 0, .nil, iC 0]), (3, .var [iC k, iC n, sC s, tC ts, iC nx, .nil, iC rw_])]
   | i + 1 => mk 40 [(2, .one (.ptr 2 0)), (1, .one (.ptr 1 0)), (3, .one (.ptr 3 0)), (4, zH0 (i + 1 : Nat))] [(1, .var [iC k, iC n, sC s, tC ts, iC nx, .c (.sl (fs.map GFrame.enc)), iC rw_]), (2, .var [iC 0, iC 0, sC ByteArray.empty, .nil, iC 0, .nil, iC 0]), (3, .var [iC k, iC n, sC s, tC ts, iC nx, .own 37 (i + 1), iC rw_]), (37, .arr 124 5 (rowsOf GFrame.enc (fs.take (i + 1))) false)])
  (fun i => i ≤ fs.length) (fun i => fs.length - i) 0 (Nat.zero_le _) ?_ zE0 zA0 (by decide +kernel) ?_
 ·exact mk1
 ·intro i hi
  rcases Nat.lt_or_ge i fs.length with hlt | hge
  ·have hg := zD0 (ec := GFrame.enc) hlt
   have hcf := hcp _ (List.getElem_mem hlt)
   have ht := xi0 (ec := GFrame.enc) fs i hlt
   have hln : (rowsOf GFrame.enc (fs.take i)).length = i := by rw [rowsOf_len, List.length_take]; omega
   generalize fs[i] = f at hg hcf ht
   obtain ⟨⟨fk, fn, fss, ft⟩, fx⟩ := f
   rw [qH0] at hg ht
   simp only [List.map_cons, List.map_nil] at ht
   cases i with
   | zero =>
    have ht0 := ht.trans (congrArg (· ++ _) (show rowsOf GFrame.enc (List.take 0 fs) = [] from rfl))
    simp only [List.nil_append, Nat.zero_add] at ht0
    refine fD0 ?_
    refine CallK.mk hcf ?_
    simp -implicitDefEqProofs (disch := omega) only [go_sem, Tm.enc, hg, hlt, List.length_map]
    refine ⟨by simp, fun _ => ⟨1, by omega, by omega, ?_⟩⟩
    exact mg1
   | succ i =>
    refine fD0 ?_
    refine CallK.mk hcf ?_
    simp -implicitDefEqProofs (disch := omega) only [go_sem, Tm.enc, hg, hlt, hln, List.length_map]
    refine ⟨⟨by simp, by omega, by omega⟩, fun _ => ⟨i + 2, by omega, by omega, ?_⟩⟩
    exact ml1
  ·have : i = fs.length := by omega
   subst this
   cases fs with
   | nil =>
    simp -implicitDefEqProofs (disch := omega) only [go_sem, Nat.lt_irrefl, List.length_map, List.length_nil, List.map_nil]
    rfl
   | cons f rest =>
    simp -implicitDefEqProofs (disch := omega) only [go_sem, Nat.lt_irrefl, List.take_length, List.length_map]
end Go.Ai
namespace Go.Ai
open Go.Proofs
set_option maxRecDepth 100000
def sK0 (d : GDefinition) (k : Int) : GRule := d.ru.getD k.toNat ⟨sE, zeroT, zeroT, []⟩
def zy0 (d : GDefinition) (m : GMachine) : Option GMachine :=
 if 0 ≤ zg0 d ⟨m.fo, m.nx⟩ then some ⟨m.fo.args.getD (zg0 d ⟨m.fo, m.nx⟩).toNat zeroT, 0, m.st ++ [⟨m.fo, m.nx⟩], m.rw⟩
 else if 0 ≤ rootF d m.fo then some ⟨fireT (sK0 d (rootF d m.fo)) m.fo, 0, m.st, IntKind.i64.wrap (m.rw + 1)⟩
 else match m.st.getLast? with
  | none => none
  | some f => (qr0 d f m.fo).map fun u => ⟨u, f.nx + 1, m.st.dropLast, m.rw⟩
theorem pk0 (d : GDefinition) (k n : Int) (s : ByteArray) (ts : List Tm) (nx : Int) (hr : rng d.st (.mk k n s ts)) (h0 : 0 ≤ nx) (hh : zg0 d ⟨.mk k n s ts, nx⟩ = -1) : ((if k = 2 then zF0 d.st s else []).length : Int) ≤ nx := by
 simp only [zg0] at hh
 rcases Int.lt_or_le nx ((if k = 2 then zF0 d.st s else []).length : Int) with hlt | hge
 ·exfalso
  unfold ga0 at hh
  rw [if_pos (by simp; omega)] at hh
  obtain ⟨i, rfl⟩ : ∃ i : Nat, nx = (i : Int) := ⟨nx.toNat, by omega⟩
  have hi : i < (if k = 2 then zF0 d.st s else []).length := by omega
  have hx : 0 ≤ (if k = 2 then zF0 d.st s else [])[i] ∧ (if k = 2 then zF0 d.st s else [])[i].toNat < ts.length := by
   by_cases hk : k = 2
   ·have hm := List.getElem_mem hi
    have : ∀ x, x ∈ (if k = 2 then zF0 d.st s else []) → 0 ≤ x ∧ x.toNat < ts.length := by
     rw [if_pos hk]; exact hr.1 hk
    exact this _ hm
   ·rw [if_neg hk] at hi; simp at hi
  rw [Int.toNat_natCast, List.getD_eq_getElem?_getD, List.getElem?_eq_getElem hi, Option.getD_some] at hh
  rw [if_pos (by simp; omega)] at hh
  omega
 ·exact hge
theorem nj0 (d : GDefinition) (t : Tm) (h : 0 ≤ rootF d t) : ∃ (j : Nat) (hj : j < d.ru.length), rootF d t = (j : Int) ∧ (fireI d.ru[j] t).isSome = true ∧ sK0 d (rootF d t) = d.ru[j] := by
 obtain ⟨j, hj, e1, e2⟩ := bz0 (fun x => (fireI x t).isSome) d.ru 0 (by omega) h
 have e1 : rootF d t = (j : Int) := e1.trans (by omega)
 refine ⟨j, hj, e1, e2, ?_⟩
 unfold sK0
 rw [e1, Int.toNat_natCast, List.getD_eq_getElem?_getD, List.getElem?_eq_getElem hj, Option.getD_some]
abbrev qt0 (d : GDefinition) (m : GMachine) : Prop := Sat Tryz.prog 76 [zn0 d.enc, zn0 m.enc] (.tup [zn0 ((zy0 d m).getD m).enc, boolV (zy0 d m).isSome])
abbrev DΔ : List (Nat × List Pr) := [(10, [⟨0, 4, [3], [66]⟩, ⟨1, 4, [63], [66]⟩]), (16, [⟨1, 9, [10], [96]⟩, ⟨2, 9, [89], [96]⟩, ⟨7, 9, [93, 94], [96]⟩, ⟨7, 11, [93, 94], [97]⟩])]
theorem tW0 (d : GDefinition) (hls : d.st.length < 1048577) (k n : Int) (s : ByteArray) (ts : List Tm) (nx : Int) (fs : List GFrame) (rw_ : Int) (hz : (Tm.mk k n s ts).size < 1048577) (hfz : ∀ f, f ∈ fs → f.t.size < 1048577) (hl : fs.length < 1048577) (hh : 0 ≤ zg0 d ⟨.mk k n s ts, nx⟩) : qt0 d ⟨.mk k n s ts, nx, fs, rw_⟩ := by
 unfold qt0
 have hcp := ke0 k n s ts nx fs rw_ (by omega) (fun f hf => by have := hfz f hf; omega) (by omega)
 have hso := qQ0 d hls k n s ts
 obtain ⟨r, hr⟩ : ∃ r, r = zy0 d ⟨.mk k n s ts, nx, fs, rw_⟩ := ⟨_, rfl⟩
 rw [← hr]
 unfold zy0 at hr
 simp only [if_pos hh] at hr
 simp only [zg0] at hh hr
 obtain ⟨xs, hxs⟩ : ∃ xs, xs = (if k = 2 then zF0 d.st s else []) := ⟨_, rfl⟩
 rw [← hxs] at hso hh hr
 rcases qN0 xs nx ts.length with h | ⟨i, j, rfl, hi, hij, hj, h⟩
 ·omega
 rw [h] at hr
 have e1 : ts.getD j zeroT = ts[j] := by rw [List.getD_eq_getElem?_getD, List.getElem?_eq_getElem hj, Option.getD_some]
 simp only [Tm.args, Int.toNat_natCast] at hr
 rw [e1] at hr
 have hct := (qA0 ts[j] (by have := vk0 k n s ts j hj; omega)).sat
 have hgt := zG0 ts j hj
 have hg := zD0 (ec := encI) hi
 have hxi : xs[i] = (j : Int) := by rw [← hij, List.getD_eq_getElem?_getD, List.getElem?_eq_getElem hi, Option.getD_some]
 simp only [encI] at hg
 rw [hxi] at hg
 have hsn := rowsOf_snoc (ec := GFrame.enc) (xs := fs) ⟨.mk k n s ts, (i : Int)⟩
 rw [qH0] at hsn
 simp only [List.map_cons, List.map_nil] at hsn
 generalize ts[j] = a at hr hct hgt
 obtain ⟨ak, an, as', at_⟩ := a
 simp only [Tm.enc] at hgt
 subst hr
 have hln := zI0 ts
 have hxl : xs.length < 1048577 := by
  rw [hxs]
  split
  ·have := qM0 d.st s d.st.length
   rw [List.take_length] at this
   omega
  ·simp
 have hde := dE' d
 simp only [Option.getD_some, Option.isSome_some, zN0]
 rw [zN0] at hcp
 refine yp0 DΔ zE0 zA0 Tryz.func76 rfl rfl rfl (by decide +kernel) (by decide +kernel) (Nat.le_of_ble_eq_true rfl) ?_
 refine lB0 ?_
 refine CallK.out hcp rfl ?_
 refine qI0 ?_
 refine CallK.mk hso ?_
 simp -implicitDefEqProofs (disch := omega) only [go_sem, List.length_map, hi, hg, hgt, hj, enc_len]
 refine ⟨⟨by simp, by omega, by omega⟩, fun _ => CallK.mk hct ?_⟩
 refine ne1 ?_
 rfl
theorem nA0 (d : GDefinition) (hls : d.st.length < 1048577) (hlr : d.ru.length < 100000000) (hd : ∀ x, x ∈ d.ru → ruleOk x) (k n : Int) (s : ByteArray) (ts : List Tm) (nx : Int) (fs : List GFrame) (rw_ : Int) (ht : tmOk (.mk k n s ts)) (hrg : rng d.st (.mk k n s ts)) (h0 : 0 ≤ nx) (hfz : ∀ f, f ∈ fs → f.t.size < 1048577) (hl : fs.length < 1048577) (hh : ¬ 0 ≤ zg0 d ⟨.mk k n s ts, nx⟩) (hro : 0 ≤ rootF d (.mk k n s ts)) : qt0 d ⟨.mk k n s ts, nx, fs, rw_⟩ := by
 unfold qt0
 have hcp := jT0 ⟨.mk k n s ts, nx, fs, rw_⟩ (by have := ht.1; simp only; omega) (fun f hf => by have := hfz f hf; omega) (by simp only; omega)
 have hso := qQ0 d hls k n s ts
 have hrt := implRootRule_sat d hlr hd (.mk k n s ts) ht
 change Sat Tryz.prog 148 [zn0 d.enc, tmV (.mk k n s ts)] (zH0 (rootF d (.mk k n s ts))) at hrt
 obtain ⟨r, hr⟩ : ∃ r, r = zy0 d ⟨.mk k n s ts, nx, fs, rw_⟩ := ⟨_, rfl⟩
 rw [← hr]
 unfold zy0 at hr
 simp only [if_neg hh, if_pos hro] at hr
 have hov := pk0 d k n s ts nx hrg h0 (by
  rcases qN0 (if k = 2 then zF0 d.st s else []) nx ts.length with h | ⟨i, j, _, _, _, _, h⟩
  ·exact h
  ·exact absurd (show 0 ≤ zg0 d ⟨.mk k n s ts, nx⟩ by simp only [zg0]; omega) hh)
 obtain ⟨j, hj, e1, e2, e3⟩ := nj0 d (.mk k n s ts) hro
 have hfi := implFire_sat d hlr j hj (hd _ (List.getElem_mem hj)) (.mk k n s ts) ht
 rw [e3] at hr
 rw [e1] at hrt
 rw [e2] at hfi
 generalize (if k = 2 then zF0 d.st s else []) = xs at hso hov
 generalize fireT d.ru[j] (.mk k n s ts) = v at hr hfi
 obtain ⟨vk, vn, vs, vt⟩ := v
 subst hr
 have hnx : ¬ nx < (xs.length : Int) := by omega
 have hde := dE' d
 simp only [Option.getD_some, Option.isSome_some, zN0]
 rw [zN0] at hcp
 refine yp0 DΔ zE0 zA0 Tryz.func76 rfl rfl rfl (by decide +kernel) (by decide +kernel) (Nat.le_of_ble_eq_true rfl) ?_
 refine lB0 ?_
 refine c0' hcp ?_
 refine CallK.mk hso ?_
 refine dt1 ?_
 refine c0' hrt ?_
 refine c5' hfi ?_
 rfl
theorem nB0 (d : GDefinition) (hls : d.st.length < 1048577) (hlr : d.ru.length < 100000000) (hd : ∀ x, x ∈ d.ru → ruleOk x) (k n : Int) (s : ByteArray) (ts : List Tm) (nx : Int) (fs : List GFrame) (rw_ : Int) (ht : tmOk (.mk k n s ts)) (hrg : rng d.st (.mk k n s ts)) (h0 : 0 ≤ nx) (f : GFrame) (hfz : ∀ g, g ∈ fs ++ [f] → g.t.size < 1048577) (hl : (fs ++ [f]).length < 1048577) (hh : ¬ 0 ≤ zg0 d ⟨.mk k n s ts, nx⟩) (hro : ¬ 0 ≤ rootF d (.mk k n s ts)) (hho : 0 ≤ zg0 d f) : qt0 d ⟨.mk k n s ts, nx, fs ++ [f], rw_⟩ := by
 unfold qt0
 have hcp := jT0 ⟨.mk k n s ts, nx, fs ++ [f], rw_⟩ (by have := ht.1; simp only; omega) (fun f hf => by have := hfz f hf; omega) (by simp only; omega)
 have hso := qQ0 d hls k n s ts
 have hrt := implRootRule_sat d hlr hd (.mk k n s ts) ht
 change Sat Tryz.prog 148 [zn0 d.enc, tmV (.mk k n s ts)] (zH0 (rootF d (.mk k n s ts))) at hrt
 obtain ⟨r, hr⟩ : ∃ r, r = zy0 d ⟨.mk k n s ts, nx, fs ++ [f], rw_⟩ := ⟨_, rfl⟩
 rw [← hr]
 unfold zy0 at hr
 simp only [if_neg hh, if_neg hro, List.getLast?_append, List.getLast?_singleton, Option.some_or, List.dropLast_concat] at hr
 have hov := pk0 d k n s ts nx hrg h0 (by
  rcases qN0 (if k = 2 then zF0 d.st s else []) nx ts.length with h | ⟨i, j, _, _, _, _, h⟩
  ·exact h
  ·exact absurd (show 0 ≤ zg0 d ⟨.mk k n s ts, nx⟩ by simp only [zg0]; omega) hh)
 have hfi := kf0 d hls f (hfz f (by simp)) (.mk k n s ts)
 have hfr : ∃ u, qr0 d f (.mk k n s ts) = some u := by
  unfold qr0 km0
  rw [if_neg (by omega)]
  exact ⟨_, rfl⟩
 obtain ⟨u, hu⟩ := hfr
 have hfx : 0 ≤ f.nx ∧ f.nx < 1048577 := by
  obtain ⟨⟨fk, fn, fss, ft⟩, fx⟩ := f
  rcases qN0 (if fk = 2 then zF0 d.st fss else []) fx ft.length with h | ⟨i, j, e, hi, _, _, h⟩
  ·simp only [zg0] at hho; omega
  ·have : (if fk = 2 then zF0 d.st fss else []).length ≤ d.st.length := by
    split
    ·have := qM0 d.st fss d.st.length
     rwa [List.take_length] at this
    ·simp
   simp only; omega
 rw [hu] at hr hfi
 have hrl : ¬ 0 ≤ rootF d (.mk k n s ts) := hro
 generalize (if k = 2 then zF0 d.st s else []) = xs at hso hov
 generalize rootF d (.mk k n s ts) = ro at hrt hrl
 obtain ⟨uk, un, us, ut⟩ := u
 obtain ⟨⟨fk, fn, fss, ft⟩, fx⟩ := f
 simp only [Option.map_some] at hr
 subst hr
 have hnx : ¬ nx < (xs.length : Int) := by omega
 have hrn : (ro ≥ 0) = False := eq_false (by omega)
 have hg := zD0 (ec := GFrame.enc) (xs := fs ++ [⟨.mk fk fn fss ft, fx⟩]) (i := fs.length) (by simp)
 rw [List.getElem_append_right (Nat.le_refl _)] at hg
 simp only [Nat.sub_self, List.getElem_cons_zero] at hg
 rw [qH0] at hg hfi
 have hde := dE' d
 have hll : (fs ++ [(⟨.mk fk fn fss ft, fx⟩ : GFrame)]).length = fs.length + 1 := by simp
 rw [hll] at hl
 have ei : ((fs.length + 1 : Nat) : Int) - 1 = (fs.length : Int) := by omega
 have htk : ((fs ++ [(⟨.mk fk fn fss ft, fx⟩ : GFrame)]).map GFrame.enc).take fs.length = fs.map GFrame.enc := by
  rw [List.map_append, List.take_left' (by simp)]
 simp only [Option.getD_some, Option.isSome_some, zN0]
 rw [zN0] at hcp
 refine yp0 DΔ zE0 zA0 Tryz.func76 rfl rfl rfl (by decide +kernel) (by decide +kernel) (Nat.le_of_ble_eq_true rfl) ?_
 refine lB0 ?_
 refine c0' hcp ?_
 refine CallK.mk hso ?_
 refine dt1 ?_
 refine CallK.mk hrt ?_
 simp -implicitDefEqProofs (disch := omega) only [go_sem, hrn, List.length_map, hll, ei, hg]
 refine ⟨by omega, fun _ => CallK.mk hfi ?_⟩
 simp -implicitDefEqProofs (disch := omega) only [go_sem, Tm.enc, Option.getD_some, Option.isSome_some, List.length_map, hll, htk]
 simp only at hfx
 refine ⟨⟨by omega, fun r hr => ?_⟩, fun _ => by rw [IntWalk.i64_in _ (by omega)]; rfl⟩
 obtain ⟨g, _, rfl⟩ := List.mem_map.1 hr
 exact qz1 g
theorem nC0 (d : GDefinition) (hls : d.st.length < 1048577) (hlr : d.ru.length < 100000000) (hd : ∀ x, x ∈ d.ru → ruleOk x) (k n : Int) (s : ByteArray) (ts : List Tm) (nx : Int) (rw_ : Int) (ht : tmOk (.mk k n s ts)) (hrg : rng d.st (.mk k n s ts)) (h0 : 0 ≤ nx) (hh : ¬ 0 ≤ zg0 d ⟨.mk k n s ts, nx⟩) (hro : ¬ 0 ≤ rootF d (.mk k n s ts)) : qt0 d ⟨.mk k n s ts, nx, [], rw_⟩ := by
 unfold qt0
 have hcp := jT0 ⟨.mk k n s ts, nx, [], rw_⟩ (by have := ht.1; simp only; omega) (fun f hf => by cases hf) (by simp)
 have hso := qQ0 d hls k n s ts
 have hrt := implRootRule_sat d hlr hd (.mk k n s ts) ht
 change Sat Tryz.prog 148 [zn0 d.enc, tmV (.mk k n s ts)] (zH0 (rootF d (.mk k n s ts))) at hrt
 obtain ⟨r, hr⟩ : ∃ r, r = zy0 d ⟨.mk k n s ts, nx, [], rw_⟩ := ⟨_, rfl⟩
 rw [← hr]
 unfold zy0 at hr
 simp only [if_neg hh, if_neg hro, List.getLast?_nil] at hr
 have hov := pk0 d k n s ts nx hrg h0 (by
  rcases qN0 (if k = 2 then zF0 d.st s else []) nx ts.length with h | ⟨i, j, _, _, _, _, h⟩
  ·exact h
  ·exact absurd (show 0 ≤ zg0 d ⟨.mk k n s ts, nx⟩ by simp only [zg0]; omega) hh)
 have hrl : ¬ 0 ≤ rootF d (.mk k n s ts) := hro
 generalize (if k = 2 then zF0 d.st s else []) = xs at hso hov
 generalize rootF d (.mk k n s ts) = ro at hrt hrl
 subst hr
 have hnx : ¬ nx < (xs.length : Int) := by omega
 have hrn : (ro ≥ 0) = False := eq_false (by omega)
 have hde := dE' d
 simp only [Option.getD_none, Option.isSome_none, zN0]
 rw [zN0] at hcp
 refine yp0 DΔ zE0 zA0 Tryz.func76 rfl rfl rfl (by decide +kernel) (by decide +kernel) (Nat.le_of_ble_eq_true rfl) ?_
 refine lB0 ?_
 refine c0' hcp ?_
 refine CallK.mk hso ?_
 refine dt1 ?_
 refine CallK.mk hrt ?_
 refine nY1 ?_
 exact mo1
def wb1 (d : GDefinition) (fs : List GFrame) : Prop := ∀ f, fs.getLast? = some f → 0 ≤ zg0 d f
theorem gd0 (d : GDefinition) (hls : d.st.length < 1048577) (hlr : d.ru.length < 100000000) (hd : ∀ x, x ∈ d.ru → ruleOk x) (m : GMachine) (ht : tmOk m.fo) (hrg : rng d.st m.fo) (h0 : 0 ≤ m.nx) (hfz : ∀ f, f ∈ m.st → f.t.size < 1048577) (hl : m.st.length < 1048577) (hlast : wb1 d m.st) : qt0 d m := by
 obtain ⟨⟨k, n, s, ts⟩, nx, fs, rw_⟩ := m
 simp only at ht hrg h0 hfz hl hlast
 by_cases hh : 0 ≤ zg0 d ⟨.mk k n s ts, nx⟩
 ·exact tW0 d hls k n s ts nx fs rw_ (by have := ht.1; omega) hfz hl hh
 ·by_cases hro : 0 ≤ rootF d (.mk k n s ts)
  ·exact nA0 d hls hlr hd k n s ts nx fs rw_ ht hrg h0 hfz hl hh hro
  ·rcases List.eq_nil_or_concat fs with rfl | ⟨gs, f, rfl⟩
   ·exact nC0 d hls hlr hd k n s ts nx rw_ ht hrg h0 hh hro
   ·rw [List.concat_eq_append] at hfz hl hlast ⊢
    exact nB0 d hls hlr hd k n s ts nx gs rw_ ht hrg h0 f hfz hl hh hro (hlast f (by simp))
end Go.Ai
namespace Go.Ai
open Go.Proofs
set_option maxRecDepth 100000
abbrev fO1 (d : GDefinition) (m : GMachine) : Prop := Sat Tryz.prog 80 [zn0 d.enc, zn0 m.enc] (.tup [zn0 ((zy0 d m).getD m).enc, boolV (zy0 d m).isSome])
def zX0 (d : GDefinition) (m : GMachine) : GMachine × Bool :=
 if (zY0 d m).isSome && decide (0 ≤ m.nx) && vK0 d m.fo then
  match zy0 d m with
  | none => (m, false)
  | some m' => if ((zY0 d m').getD zeroT).valid && (zY0 d m').isSome then (m', true) else (m, false)
 else (m, false)
theorem gv0 (d : GDefinition) (m : GMachine) (h : (zY0 d m).isSome = true) : wb1 d m.st := by
 intro f hf
 rcases List.eq_nil_or_concat m.st with e | ⟨gs, g, e⟩
 ·rw [e] at hf; cases hf
 ·rw [List.concat_eq_append] at e
  rw [e] at hf
  simp only [List.getLast?_append, List.getLast?_singleton, Option.some_or, Option.some.injEq] at hf
  subst hf
  unfold zY0 at h
  rw [e, List.reverse_append] at h
  simp only [List.reverse_cons, List.reverse_nil, List.nil_append, List.singleton_append, jz0] at h
  rcases Int.lt_or_le (zg0 d g) 0 with hlt | hge
  ·unfold qr0 km0 at h
   rw [if_pos hlt] at h
   cases h
  ·exact hge
theorem nU0 (d : GDefinition) (hd : ∀ x, x ∈ d.ru → ruleOk x) (m : GMachine) (hw : m.wf) (ht : tmOk m.fo) (hz : m.size < 1048577) (hsl : d.st.length < 1048577) (m' : GMachine) (h : zy0 d m = some m') : m'.fo.size < 2000000 ∧ (∀ f, f ∈ m'.st → f.t.size < 1048577) ∧ m'.st.length < 2000000 ∧ m'.wf ∧ m'.size ≤ m.size + 50000 := by
 have hfz := jy0 m hz
 obtain ⟨⟨k, n, s, ts⟩, nx, fs, rw_⟩ := m
 simp only at ht hfz
 have ht1 := ht.1
 have hwf := hw
 obtain ⟨w1, w2, w3, w4⟩ := hw
 have hz' := hz
 simp only [GMachine.size, szI] at hz'
 have hlen := zz0 GFrame.size fs
 unfold zy0 at h
 by_cases hh : 0 ≤ zg0 d ⟨.mk k n s ts, nx⟩
 ·simp only [if_pos hh] at h
  cases h
  rcases qN0 (if k = 2 then zF0 d.st s else []) nx ts.length with h | ⟨i, j, _, _, _, hj, h⟩
  ·simp only [zg0] at hh; omega
  have hjj : zg0 d ⟨.mk k n s ts, nx⟩ = (j : Int) := h
  have e1 : ts.getD j zeroT = ts[j] := by rw [List.getD_eq_getElem?_getD, List.getElem?_eq_getElem hj, Option.getD_some]
  simp only [Tm.args]
  rw [hjj, Int.toNat_natCast, e1]
  have hs := vk0 k n s ts j hj
  have hwt := (yf0 ts).1 w1.2.2.2.2 _ (List.getElem_mem hj)
  refine ⟨by omega, fun f hf => ?_, by simp; omega, ⟨hwt, kJ0 0 (by omega) (by omega), ⟨?_, fun f hf => ?_⟩, w4⟩, ?_⟩
  ·rcases List.mem_append.1 hf with hf | hf
   ·exact hfz.1 f hf
   ·rw [List.mem_singleton.1 hf]; simp only; omega
  ·simp only [List.length_append, List.length_singleton, maxLen]; omega
  ·rcases List.mem_append.1 hf with hf | hf
   ·exact w3.2 f hf
   ·rw [List.mem_singleton.1 hf]; exact ⟨w1, w2⟩
  ·simp only [GMachine.size, fk0, szL, GFrame.size, szI]; omega
 ·simp only [if_neg hh] at h
  by_cases hro : 0 ≤ rootF d (.mk k n s ts)
  ·simp only [if_pos hro] at h
   cases h
   obtain ⟨j, hj, e1, e2, e3⟩ := nj0 d (.mk k n s ts) hro
   have hfo := rg0 d.ru[j] (hd _ (List.getElem_mem hj)) (.mk k n s ts) ht e2
   rw [e3]
   refine ⟨by simp only; omega, hfz.1, by simp only; omega, ⟨hfo.2, kJ0 0 (by omega) (by omega), w3, ?_⟩, ?_⟩
   ·show (Lit.int .i64 (IntKind.i64.wrap (rw_ + 1))).wf = true
    rw [IntWalk.i64_left]
    exact RowKit.wrap64_wf _
   ·simp only [GMachine.size, szI]; omega
  ·simp only [if_neg hro] at h
   rcases List.eq_nil_or_concat fs with rfl | ⟨gs, f, rfl⟩
   ·simp at h
   ·rw [List.concat_eq_append] at h hfz hz' w3 hlen
    simp only [List.getLast?_append, List.getLast?_singleton, Option.some_or, List.dropLast_concat] at h
    cases hf : qr0 d f (.mk k n s ts) with
    | none => rw [hf] at h; cases h
    | some u =>
     rw [hf] at h
     cases h
     have h1 := bY0 d f _ u hf
     have hff := w3.2 f (by simp)
     have h2 := rf0 d f _ u hff.1 w1 hf
     have h3 := hfz.1 f (by simp)
     rw [fk0] at hz'
     simp only [szL, GFrame.size, szI] at hz'
     simp only [List.length_append, List.length_singleton] at hlen hfz
     have hfx : 0 ≤ f.nx ∧ f.nx < 1048577 := by
      obtain ⟨⟨fk, fn, fss, ft⟩, fx⟩ := f
      unfold qr0 km0 at hf
      split at hf
      ·cases hf
      ·rename_i hn
       rcases qN0 (if fk = 2 then zF0 d.st fss else []) fx ft.length with h | ⟨i, j, e, hi, _, _, h⟩
       ·simp only [zg0] at hn; omega
       ·have : (if fk = 2 then zF0 d.st fss else []).length ≤ d.st.length := by
         split
         ·have := qM0 d.st fss d.st.length
          rwa [List.take_length] at this
         ·simp
        simp only; omega
     refine ⟨by simp only; omega, fun g hg => hfz.1 g (by simp [hg]), by simp only; omega, ⟨h2, kJ0 _ (by simp only; omega) (by simp only; omega), ⟨by simp only [maxLen]; omega, fun g hg => w3.2 g (by simp [hg])⟩, w4⟩, ?_⟩
     simp only [GMachine.size, szI, List.concat_eq_append, fk0, szL, GFrame.size]; omega
theorem ly0 : zeroT.valid = false := by decide +kernel
theorem bB0 (d : GDefinition) (hw : d.wf) (hs : d.size < 1048577) (m : GMachine) (hwm : m.wf) (hz : m.size < 1048577) : SatF Tryz.prog 20 [zn0 d.enc, zn0 m.enc] (.tup [zn0 (zX0 d m).1.enc, boolV (zX0 d m).2]) := by
 have hl := zz0 GRule.size d.ru
 have hl2 := zz0 GStrict.size d.st
 have hs' := hs
 simp only [GDefinition.size] at hs'
 have hfz := jy0 m hz
 have hfo : m.fo.size < 1048577 := by simp only [GMachine.size] at hz; omega
 have hmt := yW0 d (by omega) m hz
 have hcf := mt0 d hs m.fo (by omega)
 have hcp := fun k n s ts nx fs rw_ (e : m = ⟨.mk k n s ts, nx, fs, rw_⟩) => kd0 k n s ts nx fs rw_ (by rw [e] at hfo; simp only at hfo; omega) (fun f hf => by rw [e] at hfz; have := hfz.1 f hf; omega) (by rw [e] at hfz; have := hfz.2; simp only at this; omega)
 have hok := cfg_ok d hw m.fo hwm.1
 have hrg := cfg_rng d m.fo
 have hmv := fun (h1 : (zY0 d m).isSome = true) (h0 : 0 ≤ m.nx) (h : vK0 d m.fo = true) => gd0 d (by omega) (by omega) (fun x hx => (hok h).1 x hx) m (hok h).2.1 (hrg h) h0 hfz.1 hfz.2 (gv0 d m h1)
 have hmo := fun (h : vK0 d m.fo = true) m' (hm : zy0 d m = some m') => nU0 d (hok h).1 m hwm (hok h).2.1 hz (by omega) m' hm
 have hm2 := fun (h : vK0 d m.fo = true) m' (hm : zy0 d m = some m') => yB0 d (by omega) m' (hmo h m' hm).2.1 (hmo h m' hm).2.2.1
 have hva := fun (h : vK0 d m.fo = true) m' (hm : zy0 d m = some m') => qj0 ((zY0 d m').getD zeroT) (by have := (pR0 d m' (hmo h m' hm).2.2.2.1).1; have := (hmo h m' hm).2.2.2.2; omega)
 have hc2 := fun (h : vK0 d m.fo = true) m' (hm : zy0 d m = some m') k n s ts nx fs rw_ (e : m' = ⟨.mk k n s ts, nx, fs, rw_⟩) => kd0 k n s ts nx fs rw_ (by have := (hmo h m' hm).1; rw [e] at this; simp only at this; omega) (fun f hf => by have := (hmo h m' hm).2.1; rw [e] at this; have := this f hf; omega) (by have := (hmo h m' hm).2.2.1; rw [e] at this; exact this)
 obtain ⟨r, hr⟩ : ∃ r, r = zX0 d m := ⟨_, rfl⟩
 rw [← hr]
 unfold zX0 at hr
 have hde := dE' d
 clear hmo hok hrg
 by_cases hg : ((zY0 d m).isSome && decide (0 ≤ m.nx) && vK0 d m.fo) = true
 ·rw [if_pos hg] at hr
  simp only [Bool.and_eq_true, decide_eq_true_eq] at hg
  obtain ⟨⟨g1, g2⟩, g3⟩ := hg
  have hmv := hmv g1 g2 g3
  have hm2 := hm2 g3
  have hva := hva g3
  have hc2 := hc2 g3
  rw [g1] at hmt
  rw [g3] at hcf
  unfold qt0 at hmv
  generalize (zY0 d m).getD zeroT = t1 at hmt
  obtain ⟨t1k, t1n, t1s, t1t⟩ := t1
  cases hq : zy0 d m with
  | none =>
   rw [hq] at hr hmv
   subst hr
   clear hm2 hva hc2 hq hfz
   obtain ⟨⟨k, n, s, ts⟩, nx, fs, rw_⟩ := m
   have hcp := hcp k n s ts nx fs rw_ rfl
   simp only [zN0] at hcp hmt
   have hnx : ¬ nx < 0 := by simp only at g2; omega
   simp only [Option.getD_none, Option.isSome_none, zN0] at hmv ⊢
   refine sfc [zn0 _, boolV false] rfl (fun _ h => by cases h; rfl) zE0 zA0 Tryz.func20 ?_
   refine lB0 ?_
   refine CallK.mk hmt ?_
   refine du1 ?_
   refine xw1 hcf ?_
   refine c0' hmv ?_
   refine CallK.own hcp rfl ?_
   simp -implicitDefEqProofs (disch := omega) only [go_sem]
  | some m' =>
   have hm2 := hm2 m' hq
   have hva := hva m' hq
   have hc2 := hc2 m' hq
   rw [hq] at hr hmv
   simp only at hr
   clear hq hfz
   have hzb : (zY0 d m').isSome = false → ((zY0 d m').getD zeroT).valid = false := by
    intro h
    cases hx : zY0 d m' with
    | none => exact ly0
    | some u => rw [hx] at h; cases h
   generalize (zY0 d m').isSome = b1 at hr hm2 hzb
   generalize (zY0 d m').getD zeroT = t2 at hr hm2 hva hzb
   generalize t2.valid = b2 at hr hva hzb
   obtain ⟨⟨k, n, s, ts⟩, nx, fs, rw_⟩ := m
   obtain ⟨⟨k', n', s', ts'⟩, nx', fs', rw_'⟩ := m'
   obtain ⟨t2k, t2n, t2s, t2t⟩ := t2
   have hcp := hcp k n s ts nx fs rw_ rfl
   have hc2 := hc2 k' n' s' ts' nx' fs' rw_' rfl
   have hnx : ¬ nx < 0 := by simp only at g2; omega
   simp only [Option.getD_some, Option.isSome_some, zN0] at hmv hcp hmt hm2 hc2
   have hb : (b2 && b1) = true ∨ ((b1 = false ∨ b2 = false) ∧ (b2 && b1) = false) := by cases b1 <;> cases b2 <;> simp
   rcases hb with hb | ⟨hb, hb'⟩
   ·rw [if_pos hb] at hr
    subst hr
    simp only [Bool.and_eq_true] at hb
    obtain ⟨rfl, rfl⟩ := hb
    simp only [zN0]
    refine sfc [zn0 _, boolV true] rfl (fun _ h => by cases h; rfl) zE0 zA0 Tryz.func20 ?_
    refine lB0 ?_
    refine CallK.mk hmt ?_
    refine du1 ?_
    refine xw1 hcf ?_
    refine c0' hmv ?_
    refine c5' hm2 ?_
    refine c0' hva ?_
    refine CallK.own hc2 rfl ?_
    simp -implicitDefEqProofs (disch := omega) only [go_sem]
   ·rw [if_neg (by rw [hb']; simp)] at hr
    subst hr
    simp only [zN0]
    refine sfc [zn0 _, boolV false] rfl (fun _ h => by cases h; rfl) zE0 zA0 Tryz.func20 ?_
    refine lB0 ?_
    refine CallK.mk hmt ?_
    refine du1 ?_
    refine xw1 hcf ?_
    refine c0' hmv ?_
    refine c5' hm2 ?_
    refine ⟨fun h1 => CallK.mk hva ?_, fun h1 => CallK.own hcp rfl ?_⟩
    ·have h2 : b2 = false := hb.resolve_left (by rw [h1]; simp)
     subst h2
     refine qI0 ?_
     refine CallK.own hcp rfl ?_
     simp -implicitDefEqProofs (disch := omega) only [go_sem]
    ·simp -implicitDefEqProofs (disch := omega) only [go_sem]
 ·rw [if_neg hg] at hr
  subst hr
  clear hmv hm2 hva hfz hc2
  generalize (zY0 d m).isSome = b1 at hmt hg
  generalize (zY0 d m).getD zeroT = t1 at hmt
  generalize vK0 d m.fo = b2 at hcf hg
  obtain ⟨t1k, t1n, t1s, t1t⟩ := t1
  obtain ⟨⟨k, n, s, ts⟩, nx, fs, rw_⟩ := m
  have hcp := hcp k n s ts nx fs rw_ rfl
  simp only [zN0] at hcp hmt ⊢
  refine sfc [zn0 _, boolV false] rfl (fun _ h => by cases h; rfl) zE0 zA0 Tryz.func20 ?_
  refine lB0 ?_
  refine c5' hmt ?_
  refine ⟨fun h1 => ⟨fun h3 => CallK.mk hcf ?_, fun _ => CallK.own hcp rfl ?_⟩, fun _ => CallK.own hcp rfl ?_⟩
  ·have h2 : b2 = false := by
    cases b2 with
    | false => rfl
    | true => exact (hg (by rw [h1]; simp; omega)).elim
   subst h2
   refine qI0 ?_
   refine CallK.own hcp rfl ?_
   simp -implicitDefEqProofs (disch := omega) only [go_sem]
  ·simp -implicitDefEqProofs (disch := omega) only [go_sem]
  ·simp -implicitDefEqProofs (disch := omega) only [go_sem]
theorem fi0 (d : GDefinition) (hw : d.wf) (hs : d.size < 1048577) (m : GMachine) (hwm : m.wf) (hz : m.size < 1048577) : (zX0 d m).1.size ≤ m.size + 50000 ∧ (zX0 d m).1.wf := by
 have hl2 := zz0 GStrict.size d.st
 simp only [GDefinition.size] at hs
 unfold zX0
 split
 ·rename_i hg
  simp only [Bool.and_eq_true, decide_eq_true_eq] at hg
  have hok := cfg_ok d hw m.fo hwm.1 hg.2
  cases hm : zy0 d m with
  | none => exact ⟨by simp only; omega, hwm⟩
  | some m' =>
   have := nU0 d hok.1 m hwm hok.2.1 hz (by omega) m' hm
   simp only
   split
   ·exact ⟨this.2.2.2.2, this.2.2.2.1⟩
   ·exact ⟨by simp only; omega, hwm⟩
 ·exact ⟨by simp only; omega, hwm⟩
theorem lk0 (d : GDefinition) (hw : d.wf) (hs : d.size < 1048577) (m : GMachine) (hwm : m.wf) (hz : m.size < 1048577) : (zX0 d m).1.size ≤ 1300000 ∧ (zX0 d m).1.wf :=
 ⟨by have := (fi0 d hw hs m hwm hz).1; omega, (fi0 d hw hs m hwm hz).2⟩
end Go.Ai
