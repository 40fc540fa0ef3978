/- Sorts of variables. Written by mk19.py. -/
import Derived.Test.YtphclghkljeaeaaGreatAiMarks
import Derived.Test.YtphclghkljeaeaaGreatAiD1
import Derived.Test.YtphclghkljeaeaaGreatAiI2
set_option linter.unusedVariables false
set_option linter.unusedSimpArgs false
namespace Go.Ai
open Go.Proofs
set_option maxRecDepth 100000
structure GVarSort where
 na : ByteArray
 so : ByteArray
def GVarSort.enc (x : GVarSort) : List C := encS x.na ++ (encS x.so)
def GVarSort.size (x : GVarSort) : Nat := szS x.na + szS x.so
def GVarSort.wf (x : GVarSort) : Prop := wfS x.na ∧ wfS x.so
def GVarSort.eqb (x y : GVarSort) : Bool := eqS x.na y.na && (eqS x.so y.so)
theorem GVarSort.enc_len (x : GVarSort) : x.enc.length = 2 := by simp [GVarSort.enc, encI, encS, jI1, encL, Go.Ai.enc_len]
theorem GVarSort.enc_take (x : GVarSort) : x.enc.take 2 = x.enc := List.take_of_length_le (by rw [GVarSort.enc_len]; exact Nat.le_refl _)
theorem GVarSort.encm_take (x : GVarSort) : (x.enc.map AC.c).take 2 = x.enc.map AC.c := List.take_of_length_le (by rw [List.length_map, GVarSort.enc_len]; exact Nat.le_refl _)
attribute [go_sem] GVarSort.enc_len GVarSort.enc_take GVarSort.encm_take
structure GBind where
 na : ByteArray
 t : Tm
def GBind.enc (x : GBind) : List C := encS x.na ++ (Tm.enc x.t)
def GBind.size (x : GBind) : Nat := szS x.na + Tm.size x.t
def GBind.wf (x : GBind) : Prop := wfS x.na ∧ Tm.wf x.t
def GBind.eqb (x y : GBind) : Bool := eqS x.na y.na && (Tm.eqb x.t y.t)
theorem GBind.enc_len (x : GBind) : x.enc.length = 5 := by simp [GBind.enc, encI, encS, jI1, encL, Go.Ai.enc_len]
theorem GBind.enc_take (x : GBind) : x.enc.take 5 = x.enc := List.take_of_length_le (by rw [GBind.enc_len]; exact Nat.le_refl _)
theorem GBind.encm_take (x : GBind) : (x.enc.map AC.c).take 5 = x.enc.map AC.c := List.take_of_length_le (by rw [List.length_map, GBind.enc_len]; exact Nat.le_refl _)
attribute [go_sem] GBind.enc_len GBind.enc_take GBind.encm_take
end Go.Ai
namespace Go.Ai
open Go.Proofs
set_option maxRecDepth 100000
def sq0 : List GBind → ByteArray → Int → Int
 | [], _, _ => -1
 | b :: bs, s, k => if eqS b.na s then k else sq0 bs s (k + 1)
def bnd : List GBind → ByteArray → Option Tm
 | [], _ => none
 | b :: bs, s => if eqS b.na s then some b.t else bnd bs s
def zeroT : Tm := .mk 0 0 ByteArray.empty []
theorem pY0 : ∀ (bs : List GBind) (s : ByteArray) (k : Int), bnd bs s = none → sq0 bs s k = -1
 | [], _, _, _ => rfl
 | b :: bs, s, k, h => by
  simp only [bnd] at h
  simp only [sq0]
  split at h
  ·cases h
  ·rename_i hn; rw [if_neg hn]; exact pY0 bs s (k + 1) h
theorem vJ0 : ∀ (bs : List GBind) (s : ByteArray) (k : Int) (t : Tm), bnd bs s = some t → ∃ i, ∃ h : i < bs.length, sq0 bs s k = k + i ∧ bs[i].t = t
 | [], _, _, _, h => by cases h
 | b :: bs, s, k, t, h => by
  simp only [bnd] at h
  simp only [sq0]
  split at h
  ·rename_i hn
   rw [if_pos hn]
   exact ⟨0, by simp, by simp, by simpa using h⟩
  ·rename_i hn
   rw [if_neg hn]
   obtain ⟨i, hi, h1, h2⟩ := vJ0 bs s (k + 1) t h
   exact ⟨i + 1, by simpa using hi, by rw [h1]; push_cast; omega, by simpa using h2⟩
theorem qU1 (bs : List GBind) (s : ByteArray) (i : Nat) (h : i < bs.length) (k : Int) : sq0 (bs.drop i) s k = if eqS bs[i].na s then k else sq0 (bs.drop (i + 1)) s (k + 1) := by
 rw [List.drop_eq_getElem_cons h]; simp only [sq0]
theorem jl1 (bs : List GBind) (s : ByteArray) (i : Nat) (h : i < bs.length) : bnd (bs.drop i) s = if eqS bs[i].na s then some bs[i].t else bnd (bs.drop (i + 1)) s := by
 rw [List.drop_eq_getElem_cons h]; simp only [bnd]
theorem rs0 (bs : List GBind) (s : ByteArray) (hl : bs.length < 100000000) : Sat Tryz.prog 255 [slV (bs.map GBind.enc), qg0 s] (zH0 (sq0 bs s 0)) := by
 refine soc zE0 zA0 Tryz.func255 ?_
 refine qI0 ?_
 refine zB0 (ι := Nat) (fun i => mk 20 [(0, slV (bs.map GBind.enc)), (1, qg0 s), (5, zH0 i)] []) (fun i => i ≤ bs.length ∧ sq0 (bs.drop i) s i = sq0 bs s 0) (fun i => bs.length - i) 0 ⟨Nat.zero_le _, by simp⟩ ?_ zE0 zA0 (by decide +kernel) ?_
 ·exact lek
 ·rintro i ⟨hi, he⟩
  rcases Nat.lt_or_ge i bs.length with hlt | hge
  ·have hg := zD0 (ec := GBind.enc) hlt
   rw [qU1 bs s i hlt] at he
   generalize bs[i] = x at hg he
   obtain ⟨xna, xtk, xtn, xts, xtt⟩ := x
   simp only [GBind.enc, Tm.enc, encS, List.cons_append, List.nil_append] at hg
   refine fD0 ?_
   refine ⟨fun h => ?_, fun h => ⟨i + 1, ⟨hlt, ?_⟩, by omega, lek⟩⟩
   ·have he' : eqS xna s = true := by simpa [eqS] using h
    simpa only [he', if_true] using he
   ·have he' : eqS xna s = false := h
    simpa only [he', Bool.false_eq_true, if_false, Int.natCast_add, Int.natCast_one] using he
  ·have e1 : bs.drop i = [] := List.drop_of_length_le hge
   rw [e1] at he
   refine mD0 ?_
   rw [← he]; rfl
theorem xX0 (bs : List GBind) (s : ByteArray) (hl : bs.length < 100000000) (hb : ∀ b, b ∈ bs → b.t.size < 1048577) : Sat Tryz.prog 215 [slV (bs.map GBind.enc), qg0 s] (.tup [tmV ((bnd bs s).getD zeroT), boolV (bnd bs s).isSome]) := by
 refine soc zE0 zA0 Tryz.func215 ?_
 refine zr0 ?_
 refine CallK.mk (rs0 bs s hl) ?_
 cases h : bnd bs s with
 | none =>
  rw [pY0 bs s 0 h]
  refine zr0 ?_
  exact ⟨fun _ => rfl, fun h => absurd (by decide) h⟩
 | some t =>
  obtain ⟨i, hi, h1, h2⟩ := vJ0 bs s 0 t h
  have h1' : sq0 bs s 0 = ((i : Nat) : Int) := by omega
  rw [h1']
  have hg := zD0 (ec := GBind.enc) hi
  have hbt := hb _ (List.getElem_mem hi)
  generalize bs[i] = x at hg h2 hbt
  obtain ⟨xna, xtk, xtn, xts, xtt⟩ := x
  simp only [GBind.enc, Tm.enc, encS, List.cons_append, List.nil_append] at hg
  simp only at h2 hbt
  subst h2
  simp -implicitDefEqProofs only [go_sem, hg, hi, List.length_map]
  refine c8' (qk0 _ hbt) ?_
  rfl
theorem qX1 (bs : List GBind) (s : ByteArray) (hl : bs.length < 100000000) : Sat Tryz.prog 241 [slV (bs.map GBind.enc), qg0 s] (.tup [tmV ((bnd bs s).getD zeroT), boolV (bnd bs s).isSome]) := by
 refine soc zE0 zA0 Tryz.func241 ?_
 refine qI0 ?_
 obtain ⟨r, hr⟩ : ∃ r, r = bnd bs s := ⟨_, rfl⟩
 rw [← hr]
 refine zB0 (ι := Nat) (fun i => mk 22 [(1, qg0 s), (4, .one (.ptr 4 0)), (5, boolV false), (8, slV (bs.map GBind.enc)), (9, zH0 bs.length), (10, zH0 i)] [(4, .var zT)]) (fun i => i ≤ bs.length ∧ r = bnd (bs.drop i) s) (fun i => bs.length - i) 0 ⟨Nat.zero_le _, by simpa using hr⟩ ?_ zE0 zA0 (by decide +kernel) ?_
 ·exact t2'
 ·rintro i ⟨hi, he⟩
  rcases Nat.lt_or_ge i bs.length with hlt | hge
  ·have hg := zD0 (ec := GBind.enc) hlt
   rw [jl1 bs s i hlt] at he
   generalize bs[i] = x at hg he
   obtain ⟨xna, xtk, xtn, xts, xtt⟩ := x
   simp only [GBind.enc, Tm.enc, encS, List.cons_append, List.nil_append] at hg
   refine fD0 ?_
   refine ⟨fun h => ?_, fun h => ⟨i + 1, ⟨hlt, ?_⟩, by omega, ?_⟩⟩
   ·have he' : eqS xna s = true := by simpa [eqS] using h
    simp only [he', if_true] at he
    subst he; rfl
   ·have he' : eqS xna s = false := h
    simpa only [he', Bool.false_eq_true, if_false] using he
   ·exact t2'
  ·have e1 : bs.drop i = [] := List.drop_of_length_le hge
   rw [e1] at he
   have he : r = none := he
   subst he
   refine mD0 ?_
   rfl
mutual
def Tm.sub (bs : List GBind) : Tm → Tm
 | .mk k n s ts => if k == 1 then ((bnd bs s).getD (.mk k n s (Tm.subs bs ts))) else .mk k n s (Tm.subs bs ts)
def Tm.subs (bs : List GBind) : List Tm → List Tm
 | [] => []
 | a :: ts => a.sub bs :: Tm.subs bs ts
end
theorem kO0 (bs : List GBind) : ∀ (ts : List Tm), Tm.subs bs ts = ts.map (Tm.sub bs)
 | [] => rfl
 | a :: ts => by simp only [Tm.subs, List.map_cons, kO0 bs ts]
theorem yn1 (bs : List GBind) (n : Int) (s : ByteArray) (ts : List Tm) (t : Tm) (h : bnd bs s = some t) : (Tm.mk 1 n s ts).sub bs = t := by simp only [Tm.sub, h]; rfl
theorem sO0 (bs : List GBind) (k n : Int) (s : ByteArray) (ts : List Tm) (h : k = 1 → bnd bs s = none) : (Tm.mk k n s ts).sub bs = .mk k n s (Tm.subs bs ts) := by
 simp only [Tm.sub]
 split
 ·rename_i hk
  rw [h (by simpa using hk)]; rfl
 ·rfl
theorem vq0 (bs : List GBind) (s : ByteArray) (t : Tm) (h : bnd bs s = some t) : ∃ b, b ∈ bs ∧ b.t = t := by
 obtain ⟨i, hi, _, h2⟩ := vJ0 bs s 0 t h
 exact ⟨bs[i], List.getElem_mem hi, h2⟩
theorem rU0 (bs : List GBind) (hb : ∀ b, b ∈ bs → b.t.size < 1048577) (s : ByteArray) (t : Tm) (h : bnd bs s = some t) : t.size < 1048577 := by
 obtain ⟨b, h1, rfl⟩ := vq0 bs s t h
 exact hb b h1
theorem rA0 (bs : List GBind) (hbl : bs.length < 100000000) (hb : ∀ b, b ∈ bs → b.t.size < 1048577) (k n : Int) (s : ByteArray) (ts : List Tm) (hl : ts.length < 10000000) (ih : ∀ t, t ∈ ts → Sat Tryz.prog 144 [slV (bs.map GBind.enc), tmV t] (tmV (t.sub bs))) : Sat Tryz.prog 144 [slV (bs.map GBind.enc), tmV (.mk k n s ts)] (tmV ((.mk k n s ts : Tm).sub bs)) := by
 have hrl : (Tm.subs bs ts).length = ts.length := by rw [kO0, List.length_map]
 have hra : ∀ i (h : i < ts.length), (Tm.subs bs ts)[i]'(by omega) = ts[i].sub bs := fun i h => by simp [kO0]
 obtain ⟨r, hr⟩ : ∃ r, r = (.mk k n s ts : Tm).sub bs := ⟨_, rfl⟩
 have hsub : (k = 1 → bnd bs s = none) → r = .mk k n s (Tm.subs bs ts) := fun h => by rw [hr]; exact sO0 bs k n s ts h
 have hvar : ∀ t, k = 1 → bnd bs s = some t → r = t := fun t h1 h2 => by rw [hr, h1]; exact yn1 bs n s ts t h2
 rw [← hr]
 clear hr
 obtain ⟨rs, hrs_⟩ : ∃ rs, rs = Tm.subs bs ts := ⟨_, rfl⟩
 rw [← hrs_] at hsub hrl
 simp only [← hrs_] at hra
 refine soc zE0 zA0 Tryz.func144 ?_
 refine jj0 ?_
 refine ⟨fun h1 => ?_, fun h1 => ?_⟩
 ·refine CallK.mk (xX0 bs s hbl hb) ?_
  cases hb1 : bnd bs s with
  | some t =>
   have hr' := hvar t h1 hb1
   subst hr'
   have hts := rU0 bs hb s r hb1
   obtain ⟨k', n', s', ts'⟩ := r
   simp -implicitDefEqProofs (disch := omega) only [go_sem, Option.getD_some, Option.isSome_some]
  | none =>
   have hr' := hsub (fun _ => hb1)
   simp -implicitDefEqProofs (disch := omega) only [go_sem, Option.getD_none, Option.isSome_none, zeroT, Tm.enc]
   refine zB0 (ι := Nat) (fun i => match i with
     | 0 => mk 48 [(0, slV (bs.map GBind.enc)), (3, .one (.ptr 3 0)), (4, .one (.ptr 4 0)), (7, .one (.ptr 7 0)), (8, zH0 (0 : Nat))] [(3, .var [iC k, iC n, sC s, tC ts]), (4, .var zT), (7, .var [iC k, iC n, sC s, .nil])]
     | i + 1 => mk 48 [(0, slV (bs.map GBind.enc)), (3, .one (.ptr 3 0)), (4, .one (.ptr 4 0)), (7, .one (.ptr 7 0)), (8, zH0 (i + 1 : Nat))] [(3, .var [iC k, iC n, sC s, tC ts]), (4, .var zT), (7, .var [iC k, iC n, sC s, .own 45 (i + 1)]), (45, .arr 34 4 (rowsOf Tm.enc (rs.take (i + 1))) false)])
    (fun i => i ≤ ts.length) (fun i => ts.length - i) 0 (Nat.zero_le _) ?_ zE0 zA0 (by decide +kernel) ?_
   ·exact t2'
   ·intro i hi
    rcases Nat.lt_or_ge i ts.length with hlt | hge
    ·have hg := zG0 ts i hlt
     have ht : rs.take (i + 1) = rs.take i ++ [ts[i].sub bs] := by rw [List.take_add_one, List.getElem?_eq_getElem (by omega), hra i hlt]; rfl
     have hih := ih _ (List.getElem_mem hlt)
     cases i with
     | zero =>
      refine xE0 ?_
      refine c0' hih ?_
      simp only [List.take_zero, List.nil_append] at ht
      exact md1
     | succ i =>
      have hdl : (rs.take (i + 1)).length = i + 1 := by rw [List.length_take]; omega
      refine xE0 ?_
      refine CallK.mk hih ?_
      refine dq1 ?_
      exact t6'
    ·have : i = ts.length := by omega
     subst this
     have hlr : ts.length = rs.length := hrl.symm
     clear hra
     rw [hlr]
     cases rs with
     | nil =>
      refine nf1 ?_
      rfl
     | cons a rs =>
      refine ng1 ?_
      rw [← encs_map]; rfl
 ·have hr' := hsub (fun h => by rw [h] at h1; simp at h1)
  refine zB0 (ι := Nat) (fun i => match i with
    | 0 => mk 48 [(0, slV (bs.map GBind.enc)), (3, .one (.ptr 3 0)), (4, .one (.ptr 4 0)), (7, .one (.ptr 7 0)), (8, zH0 (0 : Nat))] [(3, .var [iC k, iC n, sC s, tC ts]), (4, .var zT), (7, .var [iC k, iC n, sC s, .nil])]
    | i + 1 => mk 48 [(0, slV (bs.map GBind.enc)), (3, .one (.ptr 3 0)), (4, .one (.ptr 4 0)), (7, .one (.ptr 7 0)), (8, zH0 (i + 1 : Nat))] [(3, .var [iC k, iC n, sC s, tC ts]), (4, .var zT), (7, .var [iC k, iC n, sC s, .own 45 (i + 1)]), (45, .arr 34 4 (rowsOf Tm.enc (rs.take (i + 1))) false)])
   (fun i => i ≤ ts.length) (fun i => ts.length - i) 0 (Nat.zero_le _) ?_ zE0 zA0 (by decide +kernel) ?_
  ·exact t2'
  ·intro i hi
   rcases Nat.lt_or_ge i ts.length with hlt | hge
   ·have hg := zG0 ts i hlt
    have ht : rs.take (i + 1) = rs.take i ++ [ts[i].sub bs] := by rw [List.take_add_one, List.getElem?_eq_getElem (by omega), hra i hlt]; rfl
    have hih := ih _ (List.getElem_mem hlt)
    cases i with
    | zero =>
     refine xE0 ?_
     refine c0' hih ?_
     simp only [List.take_zero, List.nil_append] at ht
     exact md1
    | succ i =>
     have hdl : (rs.take (i + 1)).length = i + 1 := by rw [List.length_take]; omega
     refine xE0 ?_
     refine CallK.mk hih ?_
     refine dq1 ?_
     exact t6'
   ·have : i = ts.length := by omega
    subst this
    have hlr : ts.length = rs.length := hrl.symm
    clear hra
    rw [hlr]
    cases rs with
    | nil =>
     refine nf1 ?_
     rfl
    | cons a rs =>
     refine ng1 ?_
     rw [← encs_map]; rfl
theorem jg0 (bs : List GBind) (hbl : bs.length < 100000000) (hb : ∀ b, b ∈ bs → b.t.size < 1048577) : ∀ (t : Tm), t.size < 10000000 → Sat Tryz.prog 144 [slV (bs.map GBind.enc), tmV t] (tmV (t.sub bs)) := by
 refine Tm.ind (fun k n s ts ih h => rA0 bs hbl hb k n s ts ?_ (fun t ht => ih t ht ?_))
 ·have := zI0 ts; simp only [Tm.size] at h; omega
 ·have := zQ0 ts t ht; simp only [Tm.size] at h; omega
theorem nF0 (bs : List GBind) (hbl : bs.length < 100000000) (hb : ∀ b, b ∈ bs → b.t.size < 1048577) (k n : Int) (s : ByteArray) (ts : List Tm) (hl : ts.length < 10000000) (ih : ∀ t, t ∈ ts → SatF Tryz.prog 196 [slV (bs.map GBind.enc), tmV t] (tmV (t.sub bs))) : SatF Tryz.prog 196 [slV (bs.map GBind.enc), tmV (.mk k n s ts)] (tmV ((.mk k n s ts : Tm).sub bs)) := by
 have hrl : (Tm.subs bs ts).length = ts.length := by rw [kO0, List.length_map]
 have hra : ∀ i (h : i < ts.length), (Tm.subs bs ts)[i]'(by omega) = ts[i].sub bs := fun i h => by simp [kO0]
 obtain ⟨r, hr⟩ : ∃ r, r = (.mk k n s ts : Tm).sub bs := ⟨_, rfl⟩
 have hsub : (k = 1 → bnd bs s = none) → r = .mk k n s (Tm.subs bs ts) := fun h => by rw [hr]; exact sO0 bs k n s ts h
 have hvar : ∀ t, k = 1 → bnd bs s = some t → r = t := fun t h1 h2 => by rw [hr, h1]; exact yn1 bs n s ts t h2
 rw [← hr]
 clear hr
 obtain ⟨rs, hrs_⟩ : ∃ rs, rs = Tm.subs bs ts := ⟨_, rfl⟩
 rw [← hrs_] at hsub hrl
 simp only [← hrs_] at hra
 refine sfc [tmV r] rfl (fun _ h => by cases h) zE0 zA0 Tryz.func196 ?_
 refine jj0 ?_
 refine ⟨fun h1 => ?_, fun h1 => ?_⟩
 ·refine CallK.mk (qX1 bs s hbl) ?_
  cases hb1 : bnd bs s with
  | some t =>
   have hr' := hvar t h1 hb1
   subst hr'
   have hts := rU0 bs hb s r hb1
   obtain ⟨k', n', s', ts'⟩ := r
   simp -implicitDefEqProofs (disch := omega) only [go_sem, Option.getD_some, Option.isSome_some]
   refine CallK.own (qA0 _ (by omega)) rfl ?_
   simp -implicitDefEqProofs (disch := omega) only [go_sem, Tm.enc]
  | none =>
   have hr' := hsub (fun _ => hb1)
   simp -implicitDefEqProofs (disch := omega) only [go_sem, Option.getD_none, Option.isSome_none, zeroT, Tm.enc]
   refine zB0 (ι := Nat) (fun i => match i with
     | 0 => mk 47 [(0, slV (bs.map GBind.enc)), (3, .one (.ptr 3 0)), (4, .one (.ptr 4 0)), (7, .one (.ptr 7 0)), (31, xU0 ts), (32, zH0 ts.length), (33, zH0 (0 : Nat))] [(3, .var [iC k, iC n, sC s, tC ts]), (4, .var zT), (7, .var [iC k, iC n, sC s, .nil])]
     | i + 1 => mk 47 [(0, slV (bs.map GBind.enc)), (3, .one (.ptr 3 0)), (4, .one (.ptr 4 0)), (7, .one (.ptr 7 0)), (31, xU0 ts), (32, zH0 ts.length), (33, zH0 (i + 1 : Nat))] [(3, .var [iC k, iC n, sC s, tC ts]), (4, .var zT), (7, .var [iC k, iC n, sC s, .own 43 (i + 1)]), (43, .arr 34 4 (zV0 Tm.enc (rs.take (i + 1))) false)])
    (fun i => i ≤ ts.length) (fun i => ts.length - i) 0 (Nat.zero_le _) ?_ zE0 zA0 (by decide +kernel) ?_
   ·exact t2'
   ·intro i hi
    rcases Nat.lt_or_ge i ts.length with hlt | hge
    ·have hg := zG0 ts i hlt
     have ht := wG0 Tm.enc rs i (by omega)
     rw [hra i hlt] at ht
     have hih := ih _ (List.getElem_mem hlt)
     generalize ts[i].sub bs = a at hih ht
     obtain ⟨ak, an, as', at_⟩ := a
     simp only [Tm.enc, List.map_cons, List.map_nil, dC] at ht
     cases i with
     | zero =>
      have ht0 := ht.trans (congrArg (· ++ _) (show zV0 Tm.enc (List.take 0 rs) = [] from rfl))
      simp only [List.nil_append, Nat.zero_add] at ht0
      refine xE0 ?_
      refine CallK.own hih rfl ?_
      refine jj0 ?_
      refine ⟨by simp, fun _ => ⟨1, by omega, by omega, (zx0 (l := 43) (c := 3) (rows := []) rfl rfl rfl rfl).trans ?_⟩⟩
      exact fv1
     | succ i =>
      have hdl : (zV0 Tm.enc (rs.take (i + 1))).length = i + 1 := by rw [drowsOf_len, List.length_take]; omega
      refine xE0 ?_
      refine CallK.own hih rfl ?_
      refine pr1 ?_
      refine ⟨⟨by simp, by omega, by omega⟩, fun _ => ⟨i + 2, by omega, by omega, (zx0 (l := 43) (c := 3) rfl rfl rfl rfl).trans ?_⟩⟩
      exact fQ1
    ·have : i = ts.length := by omega
     subst this
     have hlr : ts.length = rs.length := hrl.symm
     clear hra
     rw [hlr]
     subst hr'
     cases rs with
     | nil =>
      simp -implicitDefEqProofs (disch := omega) only [go_sem, hlr, Nat.lt_irrefl, List.length_nil, Tm.enc, Tm.encs]
     | cons a rs =>
      simp -implicitDefEqProofs (disch := omega) only [go_sem, hlr, Nat.lt_irrefl, List.length_cons, List.take_length, drowsOf_len, Tm.enc, encs_map, List.map_cons]
 ·have hr' := hsub (fun h => by rw [h] at h1; simp at h1)
  refine zB0 (ι := Nat) (fun i => match i with
    | 0 => mk 47 [(0, slV (bs.map GBind.enc)), (3, .one (.ptr 3 0)), (4, .one (.ptr 4 0)), (7, .one (.ptr 7 0)), (31, xU0 ts), (32, zH0 ts.length), (33, zH0 (0 : Nat))] [(3, .var [iC k, iC n, sC s, tC ts]), (4, .var zT), (7, .var [iC k, iC n, sC s, .nil])]
    | i + 1 => mk 47 [(0, slV (bs.map GBind.enc)), (3, .one (.ptr 3 0)), (4, .one (.ptr 4 0)), (7, .one (.ptr 7 0)), (31, xU0 ts), (32, zH0 ts.length), (33, zH0 (i + 1 : Nat))] [(3, .var [iC k, iC n, sC s, tC ts]), (4, .var zT), (7, .var [iC k, iC n, sC s, .own 43 (i + 1)]), (43, .arr 34 4 (zV0 Tm.enc (rs.take (i + 1))) false)])
   (fun i => i ≤ ts.length) (fun i => ts.length - i) 0 (Nat.zero_le _) ?_ zE0 zA0 (by decide +kernel) ?_
  ·exact t2'
  ·intro i hi
   rcases Nat.lt_or_ge i ts.length with hlt | hge
   ·have hg := zG0 ts i hlt
    have ht := wG0 Tm.enc rs i (by omega)
    rw [hra i hlt] at ht
    have hih := ih _ (List.getElem_mem hlt)
    generalize ts[i].sub bs = a at hih ht
    obtain ⟨ak, an, as', at_⟩ := a
    simp only [Tm.enc, List.map_cons, List.map_nil, dC] at ht
    cases i with
    | zero =>
     have ht0 := ht.trans (congrArg (· ++ _) (show zV0 Tm.enc (List.take 0 rs) = [] from rfl))
     simp only [List.nil_append, Nat.zero_add] at ht0
     refine xE0 ?_
     refine CallK.own hih rfl ?_
     refine jj0 ?_
     refine ⟨by simp, fun _ => ⟨1, by omega, by omega, (zx0 (l := 43) (c := 3) (rows := []) rfl rfl rfl rfl).trans ?_⟩⟩
     exact fv1
    | succ i =>
     have hdl : (zV0 Tm.enc (rs.take (i + 1))).length = i + 1 := by rw [drowsOf_len, List.length_take]; omega
     refine xE0 ?_
     refine CallK.own hih rfl ?_
     refine pr1 ?_
     refine ⟨⟨by simp, by omega, by omega⟩, fun _ => ⟨i + 2, by omega, by omega, (zx0 (l := 43) (c := 3) rfl rfl rfl rfl).trans ?_⟩⟩
     exact fQ1
   ·have : i = ts.length := by omega
    subst this
    have hlr : ts.length = rs.length := hrl.symm
    clear hra
    rw [hlr]
    subst hr'
    cases rs with
    | nil =>
     simp -implicitDefEqProofs (disch := omega) only [go_sem, hlr, Nat.lt_irrefl, List.length_nil, Tm.enc, Tm.encs]
    | cons a rs =>
     simp -implicitDefEqProofs (disch := omega) only [go_sem, hlr, Nat.lt_irrefl, List.length_cons, List.take_length, drowsOf_len, Tm.enc, encs_map, List.map_cons]
theorem jU0 (bs : List GBind) (hbl : bs.length < 100000000) (hb : ∀ b, b ∈ bs → b.t.size < 1048577) : ∀ (t : Tm), t.size < 10000000 → SatF Tryz.prog 196 [slV (bs.map GBind.enc), tmV t] (tmV (t.sub bs)) := by
 refine Tm.ind (fun k n s ts ih h => nF0 bs hbl hb k n s ts ?_ (fun t ht => ih t ht ?_))
 ·have := zI0 ts; simp only [Tm.size] at h; omega
 ·have := zQ0 ts t ht; simp only [Tm.size] at h; omega
end Go.Ai
