/- Bindings. Written by mk11.py. -/
import Derived.Test.YtgdmjekkdcjipaaGreatAiMarks
import Derived.Test.YtgdmjekkdcjipaaGreatAiD1
import Derived.Test.YtgdmjekkdcjipaaGreatAiI2
set_option linter.unusedVariables false
set_option linter.unusedSimpArgs false
namespace Go.Ai
open Go.Proofs
set_option maxRecDepth 100000
structure GBind where
 na : ByteArray
 t : Tm
def GBind.enc (x : GBind) : List C := encS x.na ++ (Tm.enc x.t)
def GBind.size (x : GBind) : Nat := szS x.na + Tm.size x.t
def GBind.wf (x : GBind) : Prop := wfS x.na ∧ Tm.wf x.t
def GBind.eqb (x y : GBind) : Bool := eqS x.na y.na && (Tm.eqb x.t y.t)
theorem GBind.enc_len (x : GBind) : x.enc.length = 5 := by simp [GBind.enc, zO0, encS, qe0, zj0, Go.Ai.enc_len]
theorem GBind.enc_take (x : GBind) : x.enc.take 5 = x.enc := List.take_of_length_le (by rw [GBind.enc_len]; exact Nat.le_refl _)
theorem GBind.encm_take (x : GBind) : (x.enc.map AC.c).take 5 = x.enc.map AC.c := List.take_of_length_le (by rw [List.length_map, GBind.enc_len]; exact Nat.le_refl _)
attribute [go_sem] GBind.enc_len GBind.enc_take GBind.encm_take
def ro0 : List GBind → ByteArray → Int → Int
 | [], _, _ => -1
 | b :: bs, s, k => if eqS b.na s then k else ro0 bs s (k + 1)
def bnd : List GBind → ByteArray → Option Tm
 | [], _ => none
 | b :: bs, s => if eqS b.na s then some b.t else bnd bs s
def wQ0 : Tm := .mk 0 0 ByteArray.empty []
theorem xy0 : ∀ (bs : List GBind) (s : ByteArray) (k : Int), bnd bs s = none → ro0 bs s k = -1
 | [], _, _, _ => rfl
 | b :: bs, s, k, h => by
  simp only [bnd] at h
  simp only [ro0]
  split at h
  ·cases h
  ·rename_i hn; rw [if_neg hn]; exact xy0 bs s (k + 1) h
theorem kT0 : ∀ (bs : List GBind) (s : ByteArray) (k : Int) (t : Tm), bnd bs s = some t → ∃ i, ∃ h : i < bs.length, ro0 bs s k = k + i ∧ bs[i].t = t
 | [], _, _, _, h => by cases h
 | b :: bs, s, k, t, h => by
  simp only [bnd] at h
  simp only [ro0]
  split at h
  ·rename_i hn
   rw [if_pos hn]
   exact ⟨0, by simp, by simp, by simpa using h⟩
  ·rename_i hn
   rw [if_neg hn]
   obtain ⟨i, hi, h1, h2⟩ := kT0 bs s (k + 1) t h
   exact ⟨i + 1, by simpa using hi, by rw [h1]; push_cast; omega, by simpa using h2⟩
theorem tu0 (bs : List GBind) (s : ByteArray) (i : Nat) (h : i < bs.length) (k : Int) : ro0 (bs.drop i) s k = if eqS bs[i].na s then k else ro0 (bs.drop (i + 1)) s (k + 1) := by
 rw [List.drop_eq_getElem_cons h]; simp only [ro0]
theorem wr1 (bs : List GBind) (s : ByteArray) (i : Nat) (h : i < bs.length) : bnd (bs.drop i) s = if eqS bs[i].na s then some bs[i].t else bnd (bs.drop (i + 1)) s := by
 rw [List.drop_eq_getElem_cons h]; simp only [bnd]
theorem no0 (bs : List GBind) (s : ByteArray) (hl : bs.length < 100000000) : Sat Tryz.prog 175 [slV (bs.map GBind.enc), ql0 s] (zD0 (ro0 bs s 0)) := by
 refine soc zE0 zB0 Tryz.func175 ?_
 simp -implicitDefEqProofs (disch := omega) only [go_sem]
 refine zA0 (ι := Nat) (fun i => mk 20 [(0, slV (bs.map GBind.enc)), (1, ql0 s), (5, zD0 i)] []) (fun i => i ≤ bs.length ∧ ro0 (bs.drop i) s i = ro0 bs s 0) (fun i => bs.length - i) 0 ⟨Nat.zero_le _, by simp⟩ ?_ zE0 zB0 (by decide +kernel) ?_
 ·exact lek
 ·rintro i ⟨hi, he⟩
  rcases Nat.lt_or_ge i bs.length with hlt | hge
  ·have hg := zC0 (ec := GBind.enc) hlt
   rw [tu0 bs s i hlt] at he
   generalize bs[i] = x at hg he
   obtain ⟨xna, xtk, xtn, xts, xtt⟩ := x
   simp only [GBind.enc, Tm.enc, encS, List.cons_append, List.nil_append] at hg
   simp -implicitDefEqProofs (disch := omega) only [go_sem, hg, hlt, List.length_map]
   refine ⟨fun h => ?_, fun h => ⟨i + 1, ⟨hlt, ?_⟩, by omega, lek⟩⟩
   ·have he' : eqS xna s = true := by simpa [eqS] using h
    simpa only [he', if_true] using he
   ·have he' : eqS xna s = false := h
    simpa only [he', Bool.false_eq_true, if_false, Int.natCast_add, Int.natCast_one] using he
  ·have e1 : bs.drop i = [] := List.drop_of_length_le hge
   rw [e1] at he
   simp -implicitDefEqProofs (disch := omega) only [go_sem, Nat.not_lt.2 hge, List.length_map]
   rw [← he]; rfl
theorem vo0 (bs : List GBind) (s : ByteArray) (hl : bs.length < 100000000) (hb : ∀ b, b ∈ bs → b.t.size < 1048577) : Sat Tryz.prog 115 [slV (bs.map GBind.enc), ql0 s] (.tup [tmV ((bnd bs s).getD wQ0), boolV (bnd bs s).isSome]) := by
 refine soc zE0 zB0 Tryz.func115 ?_
 simp -implicitDefEqProofs only [go_sem]
 refine CallK.mk (no0 bs s hl) ?_
 cases h : bnd bs s with
 | none =>
  rw [xy0 bs s 0 h]
  simp -implicitDefEqProofs only [go_sem]
  exact ⟨fun _ => rfl, fun h => absurd (by decide) h⟩
 | some t =>
  obtain ⟨i, hi, h1, h2⟩ := kT0 bs s 0 t h
  have h1' : ro0 bs s 0 = ((i : Nat) : Int) := by omega
  rw [h1']
  have hg := zC0 (ec := GBind.enc) hi
  have hbt := hb _ (List.getElem_mem hi)
  generalize bs[i] = x at hg h2 hbt
  obtain ⟨xna, xtk, xtn, xts, xtt⟩ := x
  simp only [GBind.enc, Tm.enc, encS, List.cons_append, List.nil_append] at hg
  simp only at h2 hbt
  subst h2
  simp -implicitDefEqProofs only [go_sem, hg, hi, List.length_map]
  refine CallK.mk (jd0 _ hbt) ?_
  simp -implicitDefEqProofs only [go_sem]
  rfl
theorem pA0 (bs : List GBind) (s : ByteArray) (hl : bs.length < 100000000) : Sat Tryz.prog 94 [slV (bs.map GBind.enc), ql0 s] (.tup [tmV ((bnd bs s).getD wQ0), boolV (bnd bs s).isSome]) := by
 refine soc zE0 zB0 Tryz.func94 ?_
 simp -implicitDefEqProofs (disch := omega) only [go_sem]
 obtain ⟨r, hr⟩ : ∃ r, r = bnd bs s := ⟨_, rfl⟩
 rw [← hr]
 refine zA0 (ι := Nat) (fun i => mk 22 [(1, ql0 s), (4, .one (.ptr 4 0)), (5, boolV false), (8, slV (bs.map GBind.enc)), (9, zD0 bs.length), (10, zD0 i)] [(4, .var zT)]) (fun i => i ≤ bs.length ∧ r = bnd (bs.drop i) s) (fun i => bs.length - i) 0 ⟨Nat.zero_le _, by simpa using hr⟩ ?_ zE0 zB0 (by decide +kernel) ?_
 ·exact zG0 (by simp [go_sem]) (by simp [go_sem, zT])
 ·rintro i ⟨hi, he⟩
  rcases Nat.lt_or_ge i bs.length with hlt | hge
  ·have hg := zC0 (ec := GBind.enc) hlt
   rw [wr1 bs s i hlt] at he
   generalize bs[i] = x at hg he
   obtain ⟨xna, xtk, xtn, xts, xtt⟩ := x
   simp only [GBind.enc, Tm.enc, encS, List.cons_append, List.nil_append] at hg
   simp -implicitDefEqProofs (disch := omega) only [go_sem, hg, hlt, List.length_map]
   refine ⟨fun h => ?_, fun h => ⟨i + 1, ⟨hlt, ?_⟩, by omega, ?_⟩⟩
   ·have he' : eqS xna s = true := by simpa [eqS] using h
    simp only [he', if_true] at he
    subst he; rfl
   ·have he' : eqS xna s = false := h
    simpa only [he', Bool.false_eq_true, if_false] using he
   ·exact zG0 (by simp [go_sem]) (by simp [go_sem, zT])
  ·have e1 : bs.drop i = [] := List.drop_of_length_le hge
   rw [e1] at he
   have he : r = none := he
   subst he
   simp -implicitDefEqProofs (disch := omega) only [go_sem, Nat.not_lt.2 hge, List.length_map]
   rfl
mutual
def Tm.sub (bs : List GBind) : Tm → Tm
 | .mk k n s ts => if k == 1 then ((bnd bs s).getD (.mk k n s (Tm.subs bs ts))) else .mk k n s (Tm.subs bs ts)
def Tm.subs (bs : List GBind) : List Tm → List Tm
 | [] => []
 | a :: ts => a.sub bs :: Tm.subs bs ts
end
theorem zv0 (bs : List GBind) : ∀ (ts : List Tm), Tm.subs bs ts = ts.map (Tm.sub bs)
 | [] => rfl
 | a :: ts => by simp only [Tm.subs, List.map_cons, zv0 bs ts]
theorem yq0 (bs : List GBind) (n : Int) (s : ByteArray) (ts : List Tm) (t : Tm) (h : bnd bs s = some t) : (Tm.mk 1 n s ts).sub bs = t := by simp only [Tm.sub, h]; rfl
theorem zz0 (bs : List GBind) (k n : Int) (s : ByteArray) (ts : List Tm) (h : k = 1 → bnd bs s = none) : (Tm.mk k n s ts).sub bs = .mk k n s (Tm.subs bs ts) := by
 simp only [Tm.sub]
 split
 ·rename_i hk
  rw [h (by simpa using hk)]; rfl
 ·rfl
theorem lc0 (bs : List GBind) (s : ByteArray) (t : Tm) (h : bnd bs s = some t) : ∃ b, b ∈ bs ∧ b.t = t := by
 obtain ⟨i, hi, _, h2⟩ := kT0 bs s 0 t h
 exact ⟨bs[i], List.getElem_mem hi, h2⟩
theorem bX0 (bs : List GBind) (hb : ∀ b, b ∈ bs → b.t.size < 1048577) (s : ByteArray) (t : Tm) (h : bnd bs s = some t) : t.size < 1048577 := by
 obtain ⟨b, h1, rfl⟩ := lc0 bs s t h
 exact hb b h1
theorem mv0 (bs : List GBind) (hbl : bs.length < 100000000) (hb : ∀ b, b ∈ bs → b.t.size < 1048577) (k n : Int) (s : ByteArray) (ts : List Tm) (hl : ts.length < 10000000) (ih : ∀ t, t ∈ ts → Sat Tryz.prog 49 [slV (bs.map GBind.enc), tmV t] (tmV (t.sub bs))) : Sat Tryz.prog 49 [slV (bs.map GBind.enc), tmV (.mk k n s ts)] (tmV ((.mk k n s ts : Tm).sub bs)) := by
 have hrl : (Tm.subs bs ts).length = ts.length := by rw [zv0, List.length_map]
 have hra : ∀ i (h : i < ts.length), (Tm.subs bs ts)[i]'(by omega) = ts[i].sub bs := fun i h => by simp [zv0]
 obtain ⟨r, hr⟩ : ∃ r, r = (.mk k n s ts : Tm).sub bs := ⟨_, rfl⟩
 have hsub : (k = 1 → bnd bs s = none) → r = .mk k n s (Tm.subs bs ts) := fun h => by rw [hr]; exact zz0 bs k n s ts h
 have hvar : ∀ t, k = 1 → bnd bs s = some t → r = t := fun t h1 h2 => by rw [hr, h1]; exact yq0 bs n s ts t h2
 rw [← hr]
 clear hr
 obtain ⟨rs, hrs_⟩ : ∃ rs, rs = Tm.subs bs ts := ⟨_, rfl⟩
 rw [← hrs_] at hsub hrl
 simp only [← hrs_] at hra
 refine soc zE0 zB0 Tryz.func49 ?_
 simp -implicitDefEqProofs (disch := omega) only [go_sem, Tm.enc]
 refine ⟨fun h1 => ?_, fun h1 => ?_⟩
 ·refine CallK.mk (vo0 bs s hbl hb) ?_
  cases hb1 : bnd bs s with
  | some t =>
   have hr' := hvar t h1 hb1
   subst hr'
   have hts := bX0 bs hb s r hb1
   obtain ⟨k', n', s', ts'⟩ := r
   simp -implicitDefEqProofs (disch := omega) only [go_sem, Option.getD_some, Option.isSome_some]
  | none =>
   have hr' := hsub (fun _ => hb1)
   simp -implicitDefEqProofs (disch := omega) only [go_sem, Option.getD_none, Option.isSome_none, wQ0, Tm.enc]
   refine zA0 (ι := Nat) (fun i => match i with
     | 0 => mk 48 [(0, slV (bs.map GBind.enc)), (3, .one (.ptr 3 0)), (4, .one (.ptr 4 0)), (7, .one (.ptr 7 0)), (8, zD0 (0 : Nat))] [(3, .var [iC k, iC n, sC s, tC ts]), (4, .var zT), (7, .var [iC k, iC n, sC s, .nil])]
     | i + 1 => mk 48 [(0, slV (bs.map GBind.enc)), (3, .one (.ptr 3 0)), (4, .one (.ptr 4 0)), (7, .one (.ptr 7 0)), (8, zD0 (i + 1 : Nat))] [(3, .var [iC k, iC n, sC s, tC ts]), (4, .var zT), (7, .var [iC k, iC n, sC s, .own 45 (i + 1)]), (45, .arr 39 4 (rowsOf Tm.enc (rs.take (i + 1))) false)])
    (fun i => i ≤ ts.length) (fun i => ts.length - i) 0 (Nat.zero_le _) ?_ zE0 zB0 (by decide +kernel) ?_
   ·exact zG0 (by simp [go_sem]) (by simp [go_sem, zT])
   ·intro i hi
    rcases Nat.lt_or_ge i ts.length with hlt | hge
    ·have hg := zF0 ts i hlt
     have ht : rs.take (i + 1) = rs.take i ++ [ts[i].sub bs] := by rw [List.take_add_one, List.getElem?_eq_getElem (by omega), hra i hlt]; rfl
     have hih := ih _ (List.getElem_mem hlt)
     cases i with
     | zero =>
      simp -implicitDefEqProofs (disch := omega) only [go_sem, hg, hlt, enc_len]
      refine CallK.mk hih ?_
      simp -implicitDefEqProofs (disch := omega) only [go_sem]
      simp only [List.take_zero, List.nil_append] at ht
      exact ⟨by simp [enc_len], fun _ => ⟨1, by omega, by omega, zG0 (by simp [go_sem]) (by simp [go_sem, zT, ht, rowsOf])⟩⟩
     | succ i =>
      have hdl : (rs.take (i + 1)).length = i + 1 := by rw [List.length_take]; omega
      simp -implicitDefEqProofs (disch := omega) only [go_sem, hg, hlt, enc_len]
      refine CallK.mk hih ?_
      simp -implicitDefEqProofs (disch := omega) only [go_sem, hdl]
      exact ⟨⟨by simp [enc_len], by omega, by omega⟩, fun _ => ⟨i + 2, by omega, by omega, zG0 (by simp [go_sem]) (by simp [go_sem, zT, ht]; exact zq0 _)⟩⟩
    ·have : i = ts.length := by omega
     subst this
     have hlr : ts.length = rs.length := hrl.symm
     clear hra
     rw [hlr]
     cases rs with
     | nil =>
      simp -implicitDefEqProofs (disch := omega) only [go_sem, hlr, Nat.lt_irrefl, List.length_nil, List.length_cons, hr', Tm.enc, Tm.encs]
      rfl
     | cons a rs =>
      simp -implicitDefEqProofs (disch := omega) only [go_sem, hlr, Nat.lt_irrefl, List.length_nil, List.length_cons, hr', List.take_length, Tm.enc, zc0, List.map_cons]
      rw [← zc0]; rfl
 ·have hr' := hsub (fun h => by rw [h] at h1; simp at h1)
  refine zA0 (ι := Nat) (fun i => match i with
    | 0 => mk 48 [(0, slV (bs.map GBind.enc)), (3, .one (.ptr 3 0)), (4, .one (.ptr 4 0)), (7, .one (.ptr 7 0)), (8, zD0 (0 : Nat))] [(3, .var [iC k, iC n, sC s, tC ts]), (4, .var zT), (7, .var [iC k, iC n, sC s, .nil])]
    | i + 1 => mk 48 [(0, slV (bs.map GBind.enc)), (3, .one (.ptr 3 0)), (4, .one (.ptr 4 0)), (7, .one (.ptr 7 0)), (8, zD0 (i + 1 : Nat))] [(3, .var [iC k, iC n, sC s, tC ts]), (4, .var zT), (7, .var [iC k, iC n, sC s, .own 45 (i + 1)]), (45, .arr 39 4 (rowsOf Tm.enc (rs.take (i + 1))) false)])
   (fun i => i ≤ ts.length) (fun i => ts.length - i) 0 (Nat.zero_le _) ?_ zE0 zB0 (by decide +kernel) ?_
  ·exact zG0 (by simp [go_sem]) (by simp [go_sem, zT])
  ·intro i hi
   rcases Nat.lt_or_ge i ts.length with hlt | hge
   ·have hg := zF0 ts i hlt
    have ht : rs.take (i + 1) = rs.take i ++ [ts[i].sub bs] := by rw [List.take_add_one, List.getElem?_eq_getElem (by omega), hra i hlt]; rfl
    have hih := ih _ (List.getElem_mem hlt)
    cases i with
    | zero =>
     simp -implicitDefEqProofs (disch := omega) only [go_sem, hg, hlt, enc_len]
     refine CallK.mk hih ?_
     simp -implicitDefEqProofs (disch := omega) only [go_sem]
     simp only [List.take_zero, List.nil_append] at ht
     exact ⟨by simp [enc_len], fun _ => ⟨1, by omega, by omega, zG0 (by simp [go_sem]) (by simp [go_sem, zT, ht, rowsOf])⟩⟩
    | succ i =>
     have hdl : (rs.take (i + 1)).length = i + 1 := by rw [List.length_take]; omega
     simp -implicitDefEqProofs (disch := omega) only [go_sem, hg, hlt, enc_len]
     refine CallK.mk hih ?_
     simp -implicitDefEqProofs (disch := omega) only [go_sem, hdl]
     exact ⟨⟨by simp [enc_len], by omega, by omega⟩, fun _ => ⟨i + 2, by omega, by omega, zG0 (by simp [go_sem]) (by simp [go_sem, zT, ht]; exact zq0 _)⟩⟩
   ·have : i = ts.length := by omega
    subst this
    have hlr : ts.length = rs.length := hrl.symm
    clear hra
    rw [hlr]
    cases rs with
    | nil =>
     simp -implicitDefEqProofs (disch := omega) only [go_sem, hlr, Nat.lt_irrefl, List.length_nil, List.length_cons, hr', Tm.enc, Tm.encs]
     rfl
    | cons a rs =>
     simp -implicitDefEqProofs (disch := omega) only [go_sem, hlr, Nat.lt_irrefl, List.length_nil, List.length_cons, hr', List.take_length, Tm.enc, zc0, List.map_cons]
     rw [← zc0]; rfl
theorem wX0 (bs : List GBind) (hbl : bs.length < 100000000) (hb : ∀ b, b ∈ bs → b.t.size < 1048577) : ∀ (t : Tm), t.size < 10000000 → Sat Tryz.prog 49 [slV (bs.map GBind.enc), tmV t] (tmV (t.sub bs)) := by
 refine Tm.ind (fun k n s ts ih h => mv0 bs hbl hb k n s ts ?_ (fun t ht => ih t ht ?_))
 ·have := zH0 ts; simp only [Tm.size] at h; omega
 ·have := zT0 ts t ht; simp only [Tm.size] at h; omega
theorem mM0 (bs : List GBind) (hbl : bs.length < 100000000) (hb : ∀ b, b ∈ bs → b.t.size < 1048577) (k n : Int) (s : ByteArray) (ts : List Tm) (hl : ts.length < 10000000) (ih : ∀ t, t ∈ ts → SatF Tryz.prog 40 [slV (bs.map GBind.enc), tmV t] (tmV (t.sub bs))) : SatF Tryz.prog 40 [slV (bs.map GBind.enc), tmV (.mk k n s ts)] (tmV ((.mk k n s ts : Tm).sub bs)) := by
 have hrl : (Tm.subs bs ts).length = ts.length := by rw [zv0, List.length_map]
 have hra : ∀ i (h : i < ts.length), (Tm.subs bs ts)[i]'(by omega) = ts[i].sub bs := fun i h => by simp [zv0]
 obtain ⟨r, hr⟩ : ∃ r, r = (.mk k n s ts : Tm).sub bs := ⟨_, rfl⟩
 have hsub : (k = 1 → bnd bs s = none) → r = .mk k n s (Tm.subs bs ts) := fun h => by rw [hr]; exact zz0 bs k n s ts h
 have hvar : ∀ t, k = 1 → bnd bs s = some t → r = t := fun t h1 h2 => by rw [hr, h1]; exact yq0 bs n s ts t h2
 rw [← hr]
 clear hr
 obtain ⟨rs, hrs_⟩ : ∃ rs, rs = Tm.subs bs ts := ⟨_, rfl⟩
 rw [← hrs_] at hsub hrl
 simp only [← hrs_] at hra
 refine sfc [tmV r] rfl (fun _ h => by cases h) zE0 zB0 Tryz.func40 ?_
 simp -implicitDefEqProofs (disch := omega) only [go_sem, Tm.enc]
 refine ⟨fun h1 => ?_, fun h1 => ?_⟩
 ·refine CallK.mk (pA0 bs s hbl) ?_
  cases hb1 : bnd bs s with
  | some t =>
   have hr' := hvar t h1 hb1
   subst hr'
   have hts := bX0 bs hb s r hb1
   obtain ⟨k', n', s', ts'⟩ := r
   simp -implicitDefEqProofs (disch := omega) only [go_sem, Option.getD_some, Option.isSome_some]
   refine CallK.own (yd0 _ (by omega)) rfl ?_
   simp -implicitDefEqProofs (disch := omega) only [go_sem, Tm.enc]
  | none =>
   have hr' := hsub (fun _ => hb1)
   simp -implicitDefEqProofs (disch := omega) only [go_sem, Option.getD_none, Option.isSome_none, wQ0, Tm.enc]
   refine zA0 (ι := Nat) (fun i => match i with
     | 0 => mk 47 [(0, slV (bs.map GBind.enc)), (3, .one (.ptr 3 0)), (4, .one (.ptr 4 0)), (7, .one (.ptr 7 0)), (31, yM0 ts), (32, zD0 ts.length), (33, zD0 (0 : Nat))] [(3, .var [iC k, iC n, sC s, tC ts]), (4, .var zT), (7, .var [iC k, iC n, sC s, .nil])]
     | i + 1 => mk 47 [(0, slV (bs.map GBind.enc)), (3, .one (.ptr 3 0)), (4, .one (.ptr 4 0)), (7, .one (.ptr 7 0)), (31, yM0 ts), (32, zD0 ts.length), (33, zD0 (i + 1 : Nat))] [(3, .var [iC k, iC n, sC s, tC ts]), (4, .var zT), (7, .var [iC k, iC n, sC s, .own 43 (i + 1)]), (43, .arr 39 4 (zo0 Tm.enc (rs.take (i + 1))) false)])
    (fun i => i ≤ ts.length) (fun i => ts.length - i) 0 (Nat.zero_le _) ?_ zE0 zB0 (by decide +kernel) ?_
   ·exact zG0 (by simp [go_sem]) (by simp [go_sem, zT])
   ·intro i hi
    rcases Nat.lt_or_ge i ts.length with hlt | hge
    ·have hg := zF0 ts i hlt
     have ht := jE0 Tm.enc rs i (by omega)
     rw [hra i hlt] at ht
     have hih := ih _ (List.getElem_mem hlt)
     generalize ts[i].sub bs = a at hih ht
     obtain ⟨ak, an, as', at_⟩ := a
     simp only [Tm.enc, List.map_cons, List.map_nil, dC] at ht
     cases i with
     | zero =>
      have ht0 := ht.trans (congrArg (· ++ _) (show zo0 Tm.enc (List.take 0 rs) = [] from rfl))
      simp only [List.nil_append, Nat.zero_add] at ht0
      simp -implicitDefEqProofs (disch := omega) only [go_sem, hg, hlt, enc_len]
      refine CallK.own hih rfl ?_
      simp -implicitDefEqProofs (disch := omega) only [go_sem, Tm.enc]
      refine ⟨by simp, fun _ => ⟨1, by omega, by omega, (qU0 (l := 43) (c := 3) (rows := []) rfl rfl rfl rfl).trans ?_⟩⟩
      exact zG0 (by simp [go_sem]) (by simp only [Nat.zero_add, ht0]; simp [go_sem, zT])
     | succ i =>
      have hdl : (zo0 Tm.enc (rs.take (i + 1))).length = i + 1 := by rw [wr0, List.length_take]; omega
      simp -implicitDefEqProofs (disch := omega) only [go_sem, hg, hlt, enc_len]
      refine CallK.own hih rfl ?_
      simp -implicitDefEqProofs (disch := omega) only [go_sem, Tm.enc, hdl]
      refine ⟨⟨by simp, by omega, by omega⟩, fun _ => ⟨i + 2, by omega, by omega, (qU0 (l := 43) (c := 3) rfl rfl rfl rfl).trans ?_⟩⟩
      exact zG0 (by simp [go_sem]) (by simp [go_sem, zT, ht])
    ·have : i = ts.length := by omega
     subst this
     have hlr : ts.length = rs.length := hrl.symm
     clear hra
     rw [hlr]
     subst hr'
     cases rs with
     | nil =>
      simp -implicitDefEqProofs (disch := omega) only [go_sem, hlr, Nat.lt_irrefl, List.length_nil, Tm.enc, Tm.encs]
     | cons a rs =>
      simp -implicitDefEqProofs (disch := omega) only [go_sem, hlr, Nat.lt_irrefl, List.length_cons, List.take_length, wr0, Tm.enc, zc0, List.map_cons]
 ·have hr' := hsub (fun h => by rw [h] at h1; simp at h1)
  refine zA0 (ι := Nat) (fun i => match i with
    | 0 => mk 47 [(0, slV (bs.map GBind.enc)), (3, .one (.ptr 3 0)), (4, .one (.ptr 4 0)), (7, .one (.ptr 7 0)), (31, yM0 ts), (32, zD0 ts.length), (33, zD0 (0 : Nat))] [(3, .var [iC k, iC n, sC s, tC ts]), (4, .var zT), (7, .var [iC k, iC n, sC s, .nil])]
    | i + 1 => mk 47 [(0, slV (bs.map GBind.enc)), (3, .one (.ptr 3 0)), (4, .one (.ptr 4 0)), (7, .one (.ptr 7 0)), (31, yM0 ts), (32, zD0 ts.length), (33, zD0 (i + 1 : Nat))] [(3, .var [iC k, iC n, sC s, tC ts]), (4, .var zT), (7, .var [iC k, iC n, sC s, .own 43 (i + 1)]), (43, .arr 39 4 (zo0 Tm.enc (rs.take (i + 1))) false)])
   (fun i => i ≤ ts.length) (fun i => ts.length - i) 0 (Nat.zero_le _) ?_ zE0 zB0 (by decide +kernel) ?_
  ·exact zG0 (by simp [go_sem]) (by simp [go_sem, zT])
  ·intro i hi
   rcases Nat.lt_or_ge i ts.length with hlt | hge
   ·have hg := zF0 ts i hlt
    have ht := jE0 Tm.enc rs i (by omega)
    rw [hra i hlt] at ht
    have hih := ih _ (List.getElem_mem hlt)
    generalize ts[i].sub bs = a at hih ht
    obtain ⟨ak, an, as', at_⟩ := a
    simp only [Tm.enc, List.map_cons, List.map_nil, dC] at ht
    cases i with
    | zero =>
     have ht0 := ht.trans (congrArg (· ++ _) (show zo0 Tm.enc (List.take 0 rs) = [] from rfl))
     simp only [List.nil_append, Nat.zero_add] at ht0
     simp -implicitDefEqProofs (disch := omega) only [go_sem, hg, hlt, enc_len]
     refine CallK.own hih rfl ?_
     simp -implicitDefEqProofs (disch := omega) only [go_sem, Tm.enc]
     refine ⟨by simp, fun _ => ⟨1, by omega, by omega, (qU0 (l := 43) (c := 3) (rows := []) rfl rfl rfl rfl).trans ?_⟩⟩
     exact zG0 (by simp [go_sem]) (by simp only [Nat.zero_add, ht0]; simp [go_sem, zT])
    | succ i =>
     have hdl : (zo0 Tm.enc (rs.take (i + 1))).length = i + 1 := by rw [wr0, List.length_take]; omega
     simp -implicitDefEqProofs (disch := omega) only [go_sem, hg, hlt, enc_len]
     refine CallK.own hih rfl ?_
     simp -implicitDefEqProofs (disch := omega) only [go_sem, Tm.enc, hdl]
     refine ⟨⟨by simp, by omega, by omega⟩, fun _ => ⟨i + 2, by omega, by omega, (qU0 (l := 43) (c := 3) rfl rfl rfl rfl).trans ?_⟩⟩
     exact zG0 (by simp [go_sem]) (by simp [go_sem, zT, ht])
   ·have : i = ts.length := by omega
    subst this
    have hlr : ts.length = rs.length := hrl.symm
    clear hra
    rw [hlr]
    subst hr'
    cases rs with
    | nil =>
     simp -implicitDefEqProofs (disch := omega) only [go_sem, hlr, Nat.lt_irrefl, List.length_nil, Tm.enc, Tm.encs]
    | cons a rs =>
     simp -implicitDefEqProofs (disch := omega) only [go_sem, hlr, Nat.lt_irrefl, List.length_cons, List.take_length, wr0, Tm.enc, zc0, List.map_cons]
theorem wV0 (bs : List GBind) (hbl : bs.length < 100000000) (hb : ∀ b, b ∈ bs → b.t.size < 1048577) : ∀ (t : Tm), t.size < 10000000 → SatF Tryz.prog 40 [slV (bs.map GBind.enc), tmV t] (tmV (t.sub bs)) := by
 refine Tm.ind (fun k n s ts ih h => mM0 bs hbl hb k n s ts ?_ (fun t ht => ih t ht ?_))
 ·have := zH0 ts; simp only [Tm.size] at h; omega
 ·have := zT0 ts t ht; simp only [Tm.size] at h; omega
end Go.Ai
namespace Go.Ai
open Go.Proofs
set_option maxRecDepth 100000
structure GVarSort where
 na : ByteArray
 so : ByteArray
def GVarSort.enc (x : GVarSort) : List C := encS x.na ++ (encS x.so)
def GVarSort.size (x : GVarSort) : Nat := szS x.na + szS x.so
def GVarSort.wf (x : GVarSort) : Prop := wfS x.na ∧ wfS x.so
def GVarSort.eqb (x y : GVarSort) : Bool := eqS x.na y.na && (eqS x.so y.so)
theorem GVarSort.enc_len (x : GVarSort) : x.enc.length = 2 := by simp [GVarSort.enc, zO0, encS, qe0, zj0, Go.Ai.enc_len]
theorem GVarSort.enc_take (x : GVarSort) : x.enc.take 2 = x.enc := List.take_of_length_le (by rw [GVarSort.enc_len]; exact Nat.le_refl _)
theorem GVarSort.encm_take (x : GVarSort) : (x.enc.map AC.c).take 2 = x.enc.map AC.c := List.take_of_length_le (by rw [List.length_map, GVarSort.enc_len]; exact Nat.le_refl _)
attribute [go_sem] GVarSort.enc_len GVarSort.enc_take GVarSort.encm_take
end Go.Ai
