/- All places where something fires: what they are, and that they are few. -/
import Derived.Test.YtphclghkljeaeaaGreatAiP8
import Derived.Test.YtphclghkljeaeaaGreatAiAccX
import Derived.Test.YtphclghkljeaeaaGreatAiRow2
import Derived.Test.YtphclghkljeaeaaGreatAiU10
import Derived.Test.YtphclghkljeaeaaGreatAiN1
import Derived.Test.YtphclghkljeaeaaGreatAiI5
set_option linter.unusedVariables false
set_option linter.unusedSimpArgs false
namespace Go.Ai
open Go.Proofs
set_option maxRecDepth 100000
def zi0 (rs : List (List (Int × List Int))) : List Int → List (Int × List Int)
 | [] => []
 | x :: xs => (rs.getD x.toNat []).map (fun q => (q.1, x :: q.2)) ++ zi0 rs xs
theorem vq0 (rs : List (List (Int × List Int))) : ∀ (xs ys : List Int), zi0 rs (xs ++ ys) = zi0 rs xs ++ zi0 rs ys
 | [], _ => rfl
 | x :: xs, ys => by simp only [List.cons_append, zi0, vq0 rs xs ys, List.append_assoc]
theorem fF0 (rs : List (List (Int × List Int))) (xs : List Int) (i : Nat) (h : i < xs.length) : zi0 rs (xs.take (i + 1)) = zi0 rs (xs.take i) ++ (rs.getD xs[i].toNat []).map (fun q => (q.1, xs[i] :: q.2)) := by
 rw [List.take_add_one, List.getElem?_eq_getElem h, vq0]
 simp [zi0]
mutual
def Tm.all (st : List GStrict) (ro : Tm → List Int) : Tm → List (Int × List Int)
 | .mk k n s ts => (ro (.mk k n s ts)).map (fun x => (x, [])) ++ zi0 (Tm.alls st ro ts) (if k = 2 then zI0 st s else [])
def Tm.alls (st : List GStrict) (ro : Tm → List Int) : List Tm → List (List (Int × List Int))
 | [] => []
 | a :: ts => a.all st ro :: Tm.alls st ro ts
end
theorem dE0 (st : List GStrict) (ro : Tm → List Int) : ∀ (ts : List Tm), Tm.alls st ro ts = ts.map (Tm.all st ro)
 | [] => rfl
 | a :: ts => by simp only [Tm.alls, List.map_cons, dE0 st ro ts]
theorem pT0 (st : List GStrict) (ro : Tm → List Int) (ts : List Tm) (i : Nat) (h : i < ts.length) : (Tm.alls st ro ts).getD i [] = ts[i].all st ro := by
 rw [dE0]; simp [List.getD, h]
def zo0 (p : GRule → Bool) : List GRule → Int → List Int
 | [], _ => []
 | r :: rs, k => (if p r then [k] else []) ++ zo0 p rs (k + 1)
theorem wQ0 (p : GRule → Bool) : ∀ (rs : List GRule) (k : Int), (zo0 p rs k).length ≤ rs.length
 | [], _ => by simp [zo0]
 | r :: rs, k => by
  have := wQ0 p rs (k + 1)
  simp only [zo0, List.length_append, List.length_cons]
  split <;> simp <;> omega
theorem cJ0 (p : GRule → Bool) : ∀ (rs rs' : List GRule) (k : Int), zo0 p (rs ++ rs') k = zo0 p rs k ++ zo0 p rs' (k + rs.length)
 | [], _, k => by simp [zo0]
 | r :: rs, rs', k => by
  simp only [List.cons_append, zo0, cJ0 p rs rs' (k + 1), List.append_assoc, List.length_cons]
  congr 3
  omega
theorem fA0 (p : GRule → Bool) (rs : List GRule) (i : Nat) (h : i < rs.length) : zo0 p (rs.take (i + 1)) 0 = zo0 p (rs.take i) 0 ++ (if p rs[i] then [(i : Int)] else []) := by
 rw [List.take_add_one, List.getElem?_eq_getElem h, cJ0]
 simp [zo0, List.length_take, Nat.min_eq_left (Nat.le_of_lt h)]
def ndS (st : List GStrict) : Prop := ∀ s, (zI0 st s).Nodup
theorem gE1 (si : GSignature) (st : List GStrict) (h : cy0 si st = true) : ndS st := by
 intro s
 unfold zI0
 have key : st.Pairwise fun x y => ¬ (x.op.toList = y.op.toList ∧ x.ar = y.ar) := by
  rw [List.pairwise_iff_getElem]
  intro i j hi hj hij he
  have h1 := List.all_eq_true.1 h j (List.mem_range.2 hj)
  simp only [bP0, List.getD_eq_getElem?_getD, List.getElem?_eq_getElem hj, Option.getD_some, Bool.and_eq_true, Bool.not_eq_true'] at h1
  have h2 := h1.2
  rw [List.any_eq_false] at h2
  have h3 := h2 st[i] (by
   rw [List.mem_take_iff_getElem]
   exact ⟨i, by omega, rfl⟩)
  apply h3
  rw [kA0]
  simp only [Bool.and_eq_true, beq_iff_eq]
  exact ⟨by simp only [eqS]; first | exact beq_iff_eq.2 he.1 | simpa using he.1, he.2⟩
 rw [List.Nodup, List.pairwise_map, List.pairwise_filter]
 refine key.imp (fun hxy hx hy he => hxy ⟨?_, he⟩)
 rw [beq_iff_eq.1 hx, beq_iff_eq.1 hy]
theorem yC1 (d : GDefinition) (t : Tm) (h : yu0 d t = true) : ndS d.st := by
 simp only [yu0, dW0, Bool.and_eq_true] at h
 exact gE1 d.si d.st h.1.1.1.1.2
theorem sU0 (f : Nat → Nat) : ∀ (xs ys : List Nat), xs.Nodup → (∀ x, x ∈ xs → x ∈ ys) → (xs.map f).sum ≤ (ys.map f).sum
 | [], _, _, _ => by simp
 | x :: xs, ys, hn, hs => by
  obtain ⟨y1, y2, rfl⟩ := List.append_of_mem (hs x (by simp))
  have hn := List.nodup_cons.1 hn
  have := sU0 f xs (y1 ++ y2) hn.2 (fun z hz => by
   have h1 := hs z (by simp [hz])
   simp only [List.mem_append, List.mem_cons] at h1 ⊢
   rcases h1 with h1 | h1 | h1
   ·exact .inl h1
   ·subst h1; exact absurd hz hn.1
   ·exact .inr h1)
  simp only [List.map_append, List.map_cons, List.sum_append, List.sum_cons] at this ⊢
  omega
theorem vr0 (rs : List (List (Int × List Int))) : ∀ (xs : List Int), (zi0 rs xs).length = (xs.map fun x => (rs.getD x.toNat []).length).sum
 | [] => rfl
 | x :: xs => by simp only [zi0, List.length_append, List.length_map, vr0 rs xs, List.map_cons, List.sum_cons]
theorem ym1 (rs : List (List (Int × List Int))) (xs : List Int) (hn : xs.Nodup) (h0 : ∀ x, x ∈ xs → 0 ≤ x ∧ x.toNat < rs.length) : (zi0 rs xs).length ≤ (rs.map List.length).sum := by
 rw [vr0]
 have e1 : (xs.map fun x => (rs.getD x.toNat []).length) = (xs.map Int.toNat).map fun i => (rs.getD i []).length := by simp [Function.comp_def]
 have e2 : rs.map List.length = (List.range rs.length).map fun i => (rs.getD i []).length := by
  apply List.ext_getElem
  ·simp
  ·intro i h1 h2; simp [List.getD] at h1 ⊢; simp [h1]
 rw [e1, e2]
 refine sU0 _ _ _ ?_ (fun i hi => ?_)
 ·rw [List.Nodup, List.pairwise_map]
  refine List.Pairwise.imp_of_mem ?_ hn
  intro a b ha hb hab he
  have := h0 a ha; have := h0 b hb
  omega
 ·obtain ⟨x, hx, rfl⟩ := List.mem_map.1 hi
  exact List.mem_range.2 (h0 x hx).2
theorem nm0 (st : List GStrict) (ro : Tm → List Int) (R : Nat) (hR : ∀ t, (ro t).length ≤ R) (hnd : ndS st) : ∀ (t : Tm), rng st t → (t.all st ro).length ≤ R * t.cnt := by
 refine Tm.ind (fun k n s ts ih hr => ?_)
 rw [Tm.all, List.length_append, List.length_map]
 have h1 := hR (.mk k n s ts)
 have h2 : (zi0 (Tm.alls st ro ts) (if k = 2 then zI0 st s else [])).length ≤ R * Tm.cnts ts := by
  have hle : ((Tm.alls st ro ts).map List.length).sum ≤ R * Tm.cnts ts := by
   have hrs := hr.2
   clear h1 hr
   induction ts with
   | nil => simp [Tm.alls, Tm.cnts]
   | cons a ts ih2 =>
    simp only [Tm.alls, List.map_cons, List.sum_cons, Tm.cnts, Nat.mul_add]
    have := ih a (by simp) hrs.1
    have := ih2 (fun t ht => ih t (by simp [ht])) hrs.2
    omega
  by_cases hk : k = 2
  ·rw [if_pos hk]
   refine Nat.le_trans (ym1 _ _ (hnd s) (fun x hx => ?_)) hle
   rw [dE0, List.length_map]
   exact hr.1 hk x hx
  ·rw [if_neg hk]; simp [zi0]
 simp only [Tm.cnt, Nat.mul_add, Nat.mul_one]
 omega
def zp0 (d : GDefinition) (t : Tm) : List Int := zo0 (fun x => (wn0 x t).isSome) d.ru 0
def tG0 (path : List Int) (q : Int × List Int) : List C := [.v (.int .i64 q.1), .sl ((path ++ q.2).map encI)]
theorem yV1 (path : List Int) (x : Int) (q : Int × List Int) : tG0 (path ++ [x]) q = tG0 path (q.1, x :: q.2) := by simp [tG0]
def kP0 (path : List Int) (l : List (Int × List Int)) : List (List AC) := l.map fun q => (tG0 path q).map mC
theorem sI0 (path : List Int) (l : List (Int × List Int)) (x : Int) : kP0 path l ++ [[iC x, .m (.sl (path.map encI))]] = kP0 path (l ++ [(x, [])]) := by
 simp [kP0, tG0, mC]
theorem sH0 (path : List Int) (l m : List (Int × List Int)) (x : Int) : kP0 path l ++ (m.map (tG0 (path ++ [x]))).map (fun r => r.map mC) = kP0 path (l ++ m.map fun q => (q.1, x :: q.2)) := by
 simp [kP0, yV1]
theorem kF1 (path : List Int) (l : List (Int × List Int)) : (kP0 path l).length = l.length := by simp [kP0]
theorem xY1 (path : List Int) (l : List (Int × List Int)) (lb : Lk) (e : TypeId) (sz : Nat) (fz : Bool) : inB lb (.arr e sz (kP0 path l) fz) := by
 intro r hr a ha
 obtain ⟨q, _, rfl⟩ := List.mem_map.1 hr
 simp only [tG0, List.map_cons, List.map_nil, mC, List.mem_cons, List.not_mem_nil, or_false] at ha
 rcases ha with rfl | rfl <;> trivial
theorem kD1 (path : List Int) (l : List (Int × List Int)) (lb : Lk) (e : TypeId) (sz : Nat) (fz : Bool) : inB lb (.arr e sz (kP0 path l) fz) = True := eq_true (xY1 path l lb e sz fz)
attribute [go_sem ↓] kD1
attribute [go_sem] kF1
theorem kE1 (path : List Int) (l : List (Int × List Int)) : ∀ r, r ∈ kP0 path l → ∀ x, x ∈ r → isO x = true := by
 intro r hr a ha
 obtain ⟨q, _, rfl⟩ := List.mem_map.1 hr
 simp only [tG0, List.map_cons, List.map_nil, mC, List.mem_cons, List.not_mem_nil, or_false] at ha
 rcases ha with rfl | rfl <;> rfl
theorem kG1 (path : List Int) (l : List (Int × List Int)) : (kP0 path l).map (fun r => r.map toC) = l.map (tG0 path) := by
 simp [kP0, tG0, mC, toC]
theorem mf0 (xs : List Int) : ∀ r, r ∈ rowsOf encI xs → ∀ x, x ∈ r → isO x = true := by
 intro r hr x hx
 obtain ⟨y, _, rfl⟩ := List.mem_map.1 hr
 simp [encI] at hx
 subst hx; rfl
abbrev wm1 (f : FuncId) (d : GDefinition) (t : Tm) : Prop := ∀ path : List Int, path.length + t.size < 1000000 → SatF Tryz.prog f [zz0 d.enc, tmV t, slV (path.map encI)] (slV ((t.all d.st (zp0 d)).map (tG0 path)))
theorem yv1 (d : GDefinition) (hl : d.ru.length < 1000000) (hls : d.st.length < 1048577) (hnd : ndS d.st) (hd : ∀ x, x ∈ d.ru → qS0 x) (k n : Int) (s : ByteArray) (ts : List Tm) (ht : kc0 (.mk k n s ts)) (hrg : rng d.st (.mk k n s ts)) (ih : ∀ t, t ∈ ts → wm1 55 d t) : wm1 55 d (.mk k n s ts) := by
 intro path hpl
 have hst := pI0 d hls k n s ts
 have hcl := xY0 path (by omega)
 have hf := fun i hi => xe0 d (by omega) i hi (hd _ (List.getElem_mem hi)) (.mk k n s ts) ht
 obtain ⟨p, hp⟩ : ∃ p : GRule → Option (List GBind), p = fun x => wn0 x (.mk k n s ts) := ⟨_, rfl⟩
 obtain ⟨p2, hp2⟩ : ∃ p2 : GRule → Tm, p2 = fun x => wL0 x (.mk k n s ts) := ⟨_, rfl⟩
 have hf : ∀ i (hi : i < d.ru.length), Sat Tryz.prog 120 [zz0 d.enc, zG0 i, tmV (.mk k n s ts)] (.tup [tmV (p2 d.ru[i]), boolV (p d.ru[i]).isSome]) := by rw [hp, hp2]; exact hf
 have hlen := nm0 d.st (zp0 d) d.ru.length (fun t => wQ0 _ _ _) hnd
 have hbig := hlen (.mk k n s ts) hrg
 have hcnt := ht.2.1
 have hmul : d.ru.length * (Tm.mk k n s ts).cnt ≤ 60000000 := by
  have := Nat.mul_le_mul (show d.ru.length ≤ 1000000 by omega) hcnt
  omega
 obtain ⟨r, hr⟩ : ∃ r, r = (Tm.mk k n s ts).all d.st (zp0 d) := ⟨_, rfl⟩
 rw [← hr] at hbig ⊢
 have hr : r = (zo0 (fun x => (p x).isSome) d.ru 0).map (fun x => (x, [])) ++ zi0 (Tm.alls d.st (zp0 d) ts) (if k = 2 then zI0 d.st s else []) := by
  rw [hr, Tm.all, hp]; rfl
 have hxs : ∀ x, x ∈ (if k = 2 then zI0 d.st s else []) → 0 ≤ x ∧ x.toNat < ts.length := by
  intro x hx
  split at hx
  ·rename_i hk; exact hrg.1 hk x hx
  ·cases hx
 have hxl : (if k = 2 then zI0 d.st s else []).length < 1048577 := by
  split
  ·have := wl0 d.st s d.st.length
   rw [List.take_length] at this
   omega
  ·simp
 generalize (if k = 2 then zI0 d.st s else []) = xs at hst hr hxs hxl
 have hts := zH0 ts
 have hsz : ∀ t, t ∈ ts → t.size < s.size + Tm.sizes ts := fun t ht => by have := zQ0 ts t ht; omega
 simp only [Tm.size] at hpl
 have hnx := fun i hi => pT0 d.st (zp0 d) ts i hi
 generalize Tm.alls d.st (zp0 d) ts = als at hr hnx
 have hde := dE' d
 refine sfv [(12, ([⟨1, 11, [3], [51, 53]⟩, ⟨2, 11, [4], [51, 53]⟩, ⟨3, 11, [45], [51, 53]⟩, ⟨5, 11, [46, 47], [51, 53]⟩, ⟨6, 11, [48], [51, 53]⟩], []))] [slV (r.map (tG0 path))] rfl (fun _ h => by cases h) zE0 zA0 Tryz.func55 ?_
 refine cJ1 ?_
 refine zn0 [(12, ([⟨1, 11, [3], [51, 53]⟩, ⟨2, 11, [4], [51, 53]⟩, ⟨3, 11, [45], [51, 53]⟩, ⟨5, 11, [46, 47], [51, 53]⟩, ⟨6, 11, [48], [51, 53]⟩], []))] (ι := Nat) (fun i => mk 59 [(2, slV (path.map encI)), (3, .one (.ptr 3 0)), (4, .one (.ptr 4 0)), (7, .one (.own 9000 (zo0 (fun x => (p x).isSome) (d.ru.take i) 0).length)), (15, zG0 d.ru.length), (16, zG0 i)] [(3, .var [.c (.sl (d.si.so.map encS)), .c (.sl (d.si.op.map GOp.enc)), .c (.sl (d.ru.map GRule.enc)), .c (.sl (d.st.map GStrict.enc))]), (4, .var [iC k, iC n, sC s, tC ts]), (9000, .arr 100 2 (kP0 path ((zo0 (fun x => (p x).isSome) (d.ru.take i) 0).map fun x => (x, []))) false)])
  (fun i => i ≤ d.ru.length) (fun i => d.ru.length - i) 0 (Nat.zero_le _) ?_ zE0 zA0 (by decide +kernel) ?_
 ·refine (bT0 (t := 7) 9000 100 2 rfl (by decide) rfl (by decide)).trans ?_
  exact le_mk (by simp [go_sem, zo0]) (by simp [go_sem, zo0, kP0])
 ·intro i hi
  rcases Nat.lt_or_ge i d.ru.length with hlt | hge
  ·have hfx := hf i hlt
   have htk := fA0 (fun x => (p x).isSome) d.ru i hlt
   have hfl : (zo0 (fun x => (p x).isSome) (d.ru.take i) 0).length ≤ 1000000 := by
    have := wQ0 (fun x => (p x).isSome) (d.ru.take i) 0
    rw [List.length_take] at this; omega
   generalize hl1 : zo0 (fun x => (p x).isSome) (d.ru.take i) 0 = l1 at htk hfl
   generalize (p d.ru[i]).isSome = b at hfx htk
   generalize p2 d.ru[i] = y at hfx
   obtain ⟨yk, yn, ys, yt⟩ := y
   simp -implicitDefEqProofs (disch := omega) only [go_sem, hlt, List.length_map, hde]
   refine CallK.mk hfx ?_
   refine cJ1 ?_
   refine ⟨fun hb => ?_, fun hb => ⟨i + 1, hlt, by omega, ?_⟩⟩
   ·subst hb
    rw [if_pos rfl] at htk
    refine CallK.outN hcl rfl rfl ?_
    refine wj0 ?_
    refine ⟨⟨by simp, by omega, by omega⟩, fun _ => ⟨i + 1, hlt, by omega, ?_⟩⟩
    refine (dA0 (l := 9000) (T := 30) (c := 1) rfl rfl rfl (by simp [rowsOf_len]) zS0 (mf0 _) (by decide) rowsOf_toC).trans ?_
    rw [htk, List.map_append, List.map_cons, List.map_nil]
    simp only [List.set_cons_succ, List.set_cons_zero, sI0]
    exact lek
   ·subst hb
    rw [if_neg (by simp), List.append_nil] at htk
    rw [htk]
    exact lek
  ·have hi : i = d.ru.length := by omega
   subst hi
   have hlq : (zo0 (fun x => (p x).isSome) d.ru 0).length = ((zo0 (fun x => (p x).isSome) d.ru 0).map (fun x => (x, ([] : List Int)))).length := by rw [List.length_map]
   rw [List.take_length, hlq]
   generalize (zo0 (fun x => (p x).isSome) d.ru 0).map (fun x => (x, ([] : List Int))) = l1 at hr
   have hr0 : r = l1 ++ zi0 als xs := hr
   refine dP1 ?_
   refine CallK.mk hst ?_
   refine mV1 ?_
   refine zn0 [(12, ([⟨1, 11, [3], [51, 53]⟩, ⟨2, 11, [4], [51, 53]⟩, ⟨3, 11, [45], [51, 53]⟩, ⟨5, 11, [46, 47], [51, 53]⟩, ⟨6, 11, [48], [51, 53]⟩], []))] (ι := Nat) (fun i => mk 59 [(2, slV (path.map encI)), (3, .one (.ptr 3 0)), (4, .one (.ptr 4 0)), (7, .one (.own 9000 (l1 ++ zi0 als (xs.take i)).length)), (37, slV (xs.map encI)), (38, zG0 xs.length), (39, zG0 i)] [(3, .var [.c (.sl (d.si.so.map encS)), .c (.sl (d.si.op.map GOp.enc)), .c (.sl (d.ru.map GRule.enc)), .c (.sl (d.st.map GStrict.enc))]), (4, .var [iC k, iC n, sC s, tC ts]), (9000, .arr 100 2 (kP0 path (l1 ++ zi0 als (xs.take i))) false)])
    (fun i => i ≤ xs.length) (fun i => xs.length - i) 0 (Nat.zero_le _) ?_ zE0 zA0 (by decide +kernel) ?_
   ·exact le_mk (by simp [go_sem, zi0]) (by simp [go_sem, zi0])
   ·intro i hi
    rcases Nat.lt_or_ge i xs.length with hlt | hge'
    ·have hg := zD0 (ec := encI) hlt
     simp only [encI] at hg
     have hgt := fF0 als xs i hlt
     have hx := hxs _ (List.getElem_mem hlt)
     obtain ⟨j, hj⟩ : ∃ j : Nat, xs[i] = (j : Int) := ⟨xs[i].toNat, by omega⟩
     rw [hj] at hg hgt hx
     simp only [Int.toNat_natCast] at hgt hx
     have hjl : j < ts.length := hx.2
     have hgj := zF0 ts j hjl
     have hih := ih _ (List.getElem_mem hjl) (path ++ [(j : Int)]) (by have := hsz _ (List.getElem_mem hjl); simp; omega)
     have hle : (l1 ++ zi0 als (xs.take (i + 1))).length ≤ 60000000 := by
      have e1 : zi0 als xs = zi0 als (xs.take (i + 1)) ++ zi0 als (xs.drop (i + 1)) := by rw [← vq0, List.take_append_drop]
      rw [hr0, e1] at hbig
      simp only [List.length_append] at hbig ⊢
      omega
     rw [hnx j hjl] at hgt
     generalize ts[j] = a at hgj hih hgt
     generalize hq : a.all d.st (zp0 d) = q at hih hgt
     rw [hgt, ← List.append_assoc] at hle
     generalize hl2 : l1 ++ zi0 als (xs.take i) = l2 at hle
     have hgt2 : l1 ++ zi0 als (xs.take (i + 1)) = l2 ++ q.map fun q => (q.1, (j : Int) :: q.2) := by rw [hgt, ← List.append_assoc, hl2]
     have hle2 : l1.length + (zi0 als (xs.take (i + 1))).length = l2.length + q.length := by
      have := congrArg List.length hgt2
      simpa using this
     rw [List.length_append, List.length_map] at hle
     obtain ⟨ak, an, as', at_⟩ := a
     simp only [Tm.enc] at hgj
     simp -implicitDefEqProofs (disch := omega) only [go_sem, hg, hlt, List.length_map, hgj, hjl, hde]
     refine CallK.outN hcl rfl rfl ?_
     have e1 : rowsOf encI path ++ [[iC (j : Int)]] = rowsOf encI (path ++ [(j : Int)]) := rowsOf_snoc (ec := encI) (j : Int)
     simp -implicitDefEqProofs (disch := omega) only [go_sem, rowsOf_len, e1, rowsOf_toC, hde]
     refine ⟨⟨by simp, by omega, by omega⟩, fun _ => CallK.own hih rfl ?_⟩
     refine mV1 ?_
     refine ⟨by decide +kernel, ⟨fun r hr => by obtain ⟨z, _, rfl⟩ := List.mem_map.1 hr; rfl, by omega, by omega⟩, fun _ => ⟨i + 1, hlt, by omega, ?_⟩⟩
     rw [hle2, hgt2, sH0]
     exact lek
    ·have hi : i = xs.length := by omega
     subst hi
     rw [List.take_length, ← hr0]
     refine dP1 ?_
     exact ⟨kE1 path r, kG1 path r⟩
theorem rQ0 (d : GDefinition) (hl : d.ru.length < 1000000) (hls : d.st.length < 1048577) (hnd : ndS d.st) (hd : ∀ x, x ∈ d.ru → qS0 x) : ∀ (t : Tm), kc0 t → rng d.st t → wm1 55 d t :=
 Tm.ind (fun k n s ts ih h hr => yv1 d hl hls hnd hd k n s ts h hr (fun t ht => ih t ht (kL0 k n s ts h t ht) (yf0 d.st ts hr.2 t ht)))
end Go.Ai
namespace Go.Ai
open Go.Proofs
set_option maxRecDepth 100000
def kg0 (q : Int × List Int) : List C := [.v (.int .i64 q.1), .sl (q.2.map encI)]
theorem pM1 {α : Type} (f g : α → Nat) : ∀ (xs : List α), (∀ x, x ∈ xs → f x ≤ g x) → (xs.map f).sum ≤ (xs.map g).sum
 | [], _ => by simp
 | x :: xs, h => by
  have h1 := h x (by simp)
  have h2 := pM1 f g xs (fun y hy => h y (by simp [hy]))
  simp only [List.map_cons, List.sum_cons]; omega
theorem tt0 (R : Nat) : ∀ (ts : List Tm), (ts.map fun t => R * t.cnt).sum = R * Tm.cnts ts
 | [] => by simp [Tm.cnts]
 | a :: ts => by simp only [List.map_cons, List.sum_cons, Tm.cnts, Nat.mul_add, tt0 R ts]
def wt (R : Nat) (ts : List Tm) (k : Nat) : Nat := R * ((ts[k]?).map Tm.cnt).getD 0
theorem cp1 (R : Nat) (ts : List Tm) : ((List.range ts.length).map (wt R ts)).sum = R * Tm.cnts ts := by
 rw [← tt0]
 congr 1
 apply List.ext_getElem
 ·simp
 ·intro i h1 h2
  simp only [List.length_map] at h2
  simp [wt, List.getElem?_eq_getElem h2]
theorem zk2 (R : Nat) (ts : List Tm) (als : List (List (Int × List Int))) (xs : List Int) (i : Nat) (hi : i < xs.length) (hn : xs.Nodup) (h0 : ∀ x, x ∈ xs → 0 ≤ x ∧ x.toNat < ts.length)
  (ha : ∀ k (h : k < ts.length), (als.getD k []).length ≤ R * ts[k].cnt) (j : Nat) (hj : xs[i] = (j : Int)) (hjl : j < ts.length) : (zi0 als (xs.take i)).length + R * ts[j].cnt ≤ R * Tm.cnts ts := by
 have hle := sU0 (wt R ts) ((xs.take (i + 1)).map Int.toNat) (List.range ts.length) ?_ ?_
 ·rw [cp1] at hle
  rw [List.take_add_one, List.getElem?_eq_getElem hi, hj] at hle
  simp only [Option.toList_some, List.map_append, List.map_cons, List.map_nil, List.sum_append, List.sum_cons, List.sum_nil, Int.toNat_natCast, Nat.add_zero, List.map_map] at hle
  have hw : wt R ts j = R * ts[j].cnt := by simp [wt, List.getElem?_eq_getElem hjl]
  rw [hw] at hle
  have hp := pM1 (fun x : Int => (als.getD x.toNat []).length) (wt R ts ∘ Int.toNat) (xs.take i) (fun x hx => by
   have hr := (h0 x (List.mem_of_mem_take hx)).2
   have := ha _ hr
   simp only [Function.comp, wt, List.getElem?_eq_getElem hr, Option.map_some, Option.getD_some]
   exact this)
  rw [vr0]
  omega
 ·rw [List.Nodup, List.pairwise_map]
  refine List.Pairwise.imp_of_mem ?_ (hn.sublist (List.take_sublist _ _))
  intro a b ha hb hab he
  have := h0 a (List.mem_of_mem_take ha); have := h0 b (List.mem_of_mem_take hb)
  omega
 ·intro k hk
  obtain ⟨x, hx, rfl⟩ := List.mem_map.1 hk
  exact List.mem_range.2 (h0 x (List.mem_of_mem_take hx)).2
def qu0 (path : List Int) (l : List (Int × List Int)) : List (Int × List Int) := l.map fun q => (q.1, path ++ q.2)
theorem bz0 (path : List Int) (l m : List (Int × List Int)) : qu0 path (l ++ m) = qu0 path l ++ qu0 path m := by simp [qu0]
theorem cA0 (path : List Int) (l : List (Int × List Int)) : (qu0 path l).length = l.length := by simp [qu0]
theorem lA0 (path : List Int) (x : Int) (l : List (Int × List Int)) : qu0 (path ++ [x]) l = qu0 path (l.map fun q => (q.1, x :: q.2)) := by simp [qu0]
theorem yH1 : ∀ (ts : List Tm) (t : Tm), t ∈ ts → t.cnt ≤ Tm.cnts ts
 | [], _, h => by cases h
 | a :: ts, t, h => by
  simp only [Tm.cnts]
  rcases List.mem_cons.1 h with rfl | h
  ·omega
  ·have := yH1 ts t h; omega
def bv0 (acc : List (Int × List Int)) (path : List Int) (p : GRule → Bool) (rs : List GRule) : List (Int × List Int) := acc ++ (zo0 p rs 0).map fun x => (x, path)
def gg0 (acc : List (Int × List Int)) (path : List Int) (als : List (List (Int × List Int))) (xs : List Int) : List (Int × List Int) := acc ++ qu0 path (zi0 als xs)
theorem vI1 (acc : List (Int × List Int)) (path : List Int) (p : GRule → Bool) (rs : List GRule) : bv0 acc path p (rs.take 0) = acc := by simp [bv0, zo0]
theorem se0 (acc : List (Int × List Int)) (path : List Int) (als : List (List (Int × List Int))) (xs : List Int) : gg0 acc path als (xs.take 0) = acc := by simp [gg0, zi0, qu0]
abbrev nl0 (d : GDefinition) (t : Tm) : Prop := ∀ (path : List Int) (acc : List (Int × List Int)), path.length + t.size < 1000000 → acc.length + d.ru.length * t.cnt < 1000000000 →
 SatA Tryz.prog 69 [zz0 d.enc, tmV t, slV (path.map encI)] [] 100 2 (rowsOf kg0 acc) (rowsOf kg0 (acc ++ qu0 path (t.all d.st (zp0 d)))) []
theorem mv0 (d : GDefinition) (hl : d.ru.length < 1000000) (hls : d.st.length < 1048577) (hnd : ndS d.st) (hd : ∀ x, x ∈ d.ru → qS0 x ∧ qk0 d.si x = true) (k n : Int) (s : ByteArray) (ts : List Tm) (ht : kc0 (.mk k n s ts)) (hrg : rng d.st (.mk k n s ts)) (ih : ∀ t, t ∈ ts → nl0 d t) : nl0 d (.mk k n s ts) := by
 intro path acc hpl hacc
 have hst := yi0 d hls s
 have hf := fun x hx => jb0 x (hd x hx).1 (.mk k n s ts) ht
 have hfs : ∀ x, x ∈ d.ru → (jM0 x (.mk k n s ts)).2 = (wn0 x (.mk k n s ts)).isSome := fun x hx => vQ0 d.si x _ (hd x hx).2
 obtain ⟨p, hp⟩ : ∃ p : GRule → Bool, p = fun x => (wn0 x (.mk k n s ts)).isSome := ⟨_, rfl⟩
 obtain ⟨p2, hp2⟩ : ∃ p2 : GRule → List GBind, p2 = fun x => (jM0 x (.mk k n s ts)).1 := ⟨_, rfl⟩
 have hf : ∀ x, x ∈ d.ru → Sat Tryz.prog 139 [zz0 x.enc, tmV (.mk k n s ts)] (.tup [slV ((p2 x).map GBind.enc), boolV (p x)]) := by
  intro x hx
  have := hf x hx
  rw [hfs x hx] at this
  rw [hp, hp2]; exact this
 have hlen := nm0 d.st (zp0 d) d.ru.length (fun t => wQ0 _ _ _) hnd
 have hbig := hlen (.mk k n s ts) hrg
 obtain ⟨r, hr⟩ : ∃ r, r = (Tm.mk k n s ts).all d.st (zp0 d) := ⟨_, rfl⟩
 rw [← hr] at hbig ⊢
 have hr : r = (zo0 p d.ru 0).map (fun x => (x, [])) ++ zi0 (Tm.alls d.st (zp0 d) ts) (if k = 2 then zI0 d.st s else []) := by
  rw [hr, Tm.all, hp]; rfl
 have hxs : k = 2 → ∀ x, x ∈ zI0 d.st s → 0 ≤ x ∧ x.toNat < ts.length := hrg.1
 have hxn : (zI0 d.st s).Nodup := hnd s
 have hxl : (zI0 d.st s).length < 1048577 := by
  have := wl0 d.st s d.st.length
  rw [List.take_length] at this
  omega
 generalize zI0 d.st s = xs at hst hr hxs hxl hxn
 have hts := zH0 ts
 have hsz : ∀ t, t ∈ ts → t.size < s.size + Tm.sizes ts := fun t ht => by have := zQ0 ts t ht; omega
 have hcts := yH1 ts
 simp only [Tm.size] at hpl
 simp only [Tm.cnt] at hacc hbig
 have hnx := fun i hi => pT0 d.st (zp0 d) ts i hi
 have hal := fun i (hi : i < ts.length) => hlen ts[i] (yf0 d.st ts hrg.2 _ (List.getElem_mem hi))
 generalize Tm.alls d.st (zp0 d) ts = als at hr hnx
 have hde := dE' d
 refine gL0 [(12, ([⟨0, 11, [4], [73, 74]⟩, ⟨1, 11, [5], [73, 74]⟩, ⟨2, 11, [65], [73, 74]⟩, ⟨5, 11, [67, 68], [73, 74]⟩, ⟨6, 11, [69], [73, 74]⟩, ⟨7, 11, [66, 70], [73, 74]⟩, ⟨8, 11, [71], [73, 74]⟩, ⟨11, 14, [73, 74], [76, 77]⟩, ⟨11, 15, [73, 74], [78]⟩, ⟨11, 16, [73, 74], [79]⟩, ⟨0, 17, [4], [75, 80]⟩, ⟨1, 17, [5], [75, 80]⟩, ⟨2, 17, [65], [75, 80]⟩, ⟨5, 17, [67, 68], [75, 80]⟩, ⟨6, 17, [69], [75, 80]⟩, ⟨7, 17, [66, 70], [75, 80]⟩, ⟨8, 17, [71], [75, 80]⟩], []))] zE0 zA0 Tryz.func69 rfl rfl rfl (by decide +kernel) (by decide +kernel) (Nat.le_of_ble_eq_true rfl) (by decide) rfl zb0 zb0 zS0 zS0 ?_
 refine cJ1 ?_
 refine zn0 [(12, ([⟨0, 11, [4], [73, 74]⟩, ⟨1, 11, [5], [73, 74]⟩, ⟨2, 11, [65], [73, 74]⟩, ⟨5, 11, [67, 68], [73, 74]⟩, ⟨6, 11, [69], [73, 74]⟩, ⟨7, 11, [66, 70], [73, 74]⟩, ⟨8, 11, [71], [73, 74]⟩, ⟨11, 14, [73, 74], [76, 77]⟩, ⟨11, 15, [73, 74], [78]⟩, ⟨11, 16, [73, 74], [79]⟩, ⟨0, 17, [4], [75, 80]⟩, ⟨1, 17, [5], [75, 80]⟩, ⟨2, 17, [65], [75, 80]⟩, ⟨5, 17, [67, 68], [75, 80]⟩, ⟨6, 17, [69], [75, 80]⟩, ⟨7, 17, [66, 70], [75, 80]⟩, ⟨8, 17, [71], [75, 80]⟩], []))] (ι := Nat) (fun i => mk 85 [(2, slV (path.map encI)), (3, .one (.own 9001 (bv0 acc path p (d.ru.take i)).length)), (4, .one (.ptr 4 0)), (5, .one (.ptr 5 0)), (9, zG0 i)] [(4, .var [.c (.sl (d.si.so.map encS)), .c (.sl (d.si.op.map GOp.enc)), .c (.sl (d.ru.map GRule.enc)), .c (.sl (d.st.map GStrict.enc))]), (5, .var [iC k, iC n, sC s, tC ts]), (9001, .arr 100 2 (rowsOf kg0 (bv0 acc path p (d.ru.take i))) false)])
  (fun i => i ≤ d.ru.length) (fun i => d.ru.length - i) 0 (Nat.zero_le _) ?_ zE0 zA0 (by decide +kernel) ?_
 ·have e0 := vI1 acc path p d.ru
  simp only [e0]
  exact lek
 ·intro i hi
  rcases Nat.lt_or_ge i d.ru.length with hlt | hge
  ·have hg := zD0 (ec := GRule.enc) hlt
   have hfx := hf _ (List.getElem_mem hlt)
   have htk := fA0 p d.ru i hlt
   have hfl : (bv0 acc path p (d.ru.take i)).length ≤ 1002000000 := by
    have := wQ0 p (d.ru.take i) 0
    rw [List.length_take] at this
    rw [bv0, List.length_append, List.length_map]
    omega
   have htk2 : bv0 acc path p (d.ru.take (i + 1)) = bv0 acc path p (d.ru.take i) ++ (if p d.ru[i] then [((i : Int), path)] else []) := by
    rw [bv0, bv0, htk, List.map_append, List.append_assoc]
    congr 2
    split <;> rfl
   generalize bv0 acc path p (d.ru.take i) = l1 at hfl htk2
   generalize d.ru[i] = x at hg hfx htk2
   generalize p x = b at hfx htk2
   generalize (p2 x).map GBind.enc = y at hfx
   obtain ⟨na, ⟨lk, ln, ls, lt⟩, ⟨rk, rn, rs, rt⟩, gu⟩ := x
   simp only [GRule.enc, Tm.enc, encS, encL, List.cons_append, List.nil_append] at hg
   simp -implicitDefEqProofs (disch := omega) only [go_sem, hg, hlt, List.length_map, hde]
   refine CallK.mk hfx ?_
   refine mW1 ?_
   refine ⟨fun hb => ?_, fun hb => ⟨i + 1, hlt, by omega, ?_⟩⟩
   ·subst hb
    rw [if_pos rfl] at htk2
    refine ⟨⟨wy0 (fun _ => rfl), by omega, by omega⟩, fun _ => ⟨⟨by simp, by omega, by omega⟩, fun _ => ⟨i + 1, hlt, by omega, ?_⟩⟩⟩
    refine (sb0 (l := 9001) (T := 34) (c := 1) (y := path.map encI) rfl rfl rfl (by simp [rowsOf_len]) yF0 (by decide)).trans ?_
    simp only [List.set_cons_succ, List.set_cons_zero]
    have eq1 : rowsOf kg0 l1 ++ [[iC (i : Int), .c (.sl (path.map encI))]] = rowsOf kg0 (l1 ++ [((i : Int), path)]) := rowsOf_snoc (ec := kg0) ((i : Int), path)
    rw [eq1]
    rw [htk2]
    exact lek
   ·subst hb
    rw [if_neg (by simp), List.append_nil] at htk2
    rw [htk2]
    exact lek
  ·have hi : i = d.ru.length := by omega
   subst hi
   rw [List.take_length]
   refine dP1 ?_
   refine CallK.mk hst ?_
   refine mV1 ?_
   have hl1 : (bv0 acc path p d.ru).length ≤ acc.length + d.ru.length := by
    have := wQ0 p d.ru 0
    rw [bv0, List.length_append, List.length_map]
    omega
   have hfin : acc ++ qu0 path r = if k = 2 then gg0 (bv0 acc path p d.ru) path als xs else bv0 acc path p d.ru := by
    rw [hr, bz0]
    have e1 : qu0 path ((zo0 p d.ru 0).map fun x => (x, ([] : List Int))) = (zo0 p d.ru 0).map fun x => (x, path) := by simp [qu0]
    rw [e1]
    split
    ·rw [gg0, bv0, List.append_assoc]
    ·simp [bv0, zi0, qu0]
   have htot : acc.length + r.length < 1000000000 := by omega
   have htot2 : (if k = 2 then gg0 (bv0 acc path p d.ru) path als xs else bv0 acc path p d.ru).length < 1000000000 := by
    rw [← hfin, List.length_append, cA0]; exact htot
   rw [hfin]
   generalize bv0 acc path p d.ru = l1 at hl1 hfin htot2
   refine zn0 [(12, ([⟨0, 11, [4], [73, 74]⟩, ⟨1, 11, [5], [73, 74]⟩, ⟨2, 11, [65], [73, 74]⟩, ⟨5, 11, [67, 68], [73, 74]⟩, ⟨6, 11, [69], [73, 74]⟩, ⟨7, 11, [66, 70], [73, 74]⟩, ⟨8, 11, [71], [73, 74]⟩, ⟨11, 14, [73, 74], [76, 77]⟩, ⟨11, 15, [73, 74], [78]⟩, ⟨11, 16, [73, 74], [79]⟩, ⟨0, 17, [4], [75, 80]⟩, ⟨1, 17, [5], [75, 80]⟩, ⟨2, 17, [65], [75, 80]⟩, ⟨5, 17, [67, 68], [75, 80]⟩, ⟨6, 17, [69], [75, 80]⟩, ⟨7, 17, [66, 70], [75, 80]⟩, ⟨8, 17, [71], [75, 80]⟩], []))] (ι := Nat) (fun i => mk 85 [(2, slV (path.map encI)), (3, .one (.own 9001 (gg0 l1 path als (xs.take i)).length)), (4, .one (.ptr 4 0)), (5, .one (.ptr 5 0)), (12, slV (xs.map encI)), (13, zG0 i)] [(4, .var [.c (.sl (d.si.so.map encS)), .c (.sl (d.si.op.map GOp.enc)), .c (.sl (d.ru.map GRule.enc)), .c (.sl (d.st.map GStrict.enc))]), (5, .var [iC k, iC n, sC s, tC ts]), (9001, .arr 100 2 (rowsOf kg0 (gg0 l1 path als (xs.take i))) false)])
    (fun i => i ≤ xs.length ∧ (¬ k = 2 → i = 0)) (fun i => xs.length - i) 0 ⟨Nat.zero_le _, fun _ => rfl⟩ ?_ zE0 zA0 (by decide +kernel) ?_
   ·have e0 := se0 l1 path als xs
    simp only [e0]
    exact lek
   ·rintro i ⟨hi, hk0⟩
    rcases Nat.lt_or_ge i xs.length with hlt | hge'
    ·by_cases hk : k = 2
     ·subst hk
      have hg := zD0 (ec := encI) hlt
      simp only [encI] at hg
      have hgt := fF0 als xs i hlt
      have hx := hxs rfl _ (List.getElem_mem hlt)
      obtain ⟨j, hj⟩ : ∃ j : Nat, xs[i] = (j : Int) := ⟨xs[i].toNat, by omega⟩
      rw [hj] at hg hgt hx
      simp only [Int.toNat_natCast] at hgt hx
      have hjl : j < ts.length := hx.2
      have hgj := zF0 ts j hjl
      have hin := ww0 (j : Int) 0 ((ts.length : Int) - 1)
      rw [show (decide ((0 : Int) ≤ (j : Int)) && decide ((j : Int) ≤ (ts.length : Int) - 1)) = true by simp; omega] at hin
      have hle : (gg0 l1 path als (xs.take i)).length + d.ru.length * ts[j].cnt < 1000000000 := by
       have hrm := zk2 d.ru.length ts als xs i hlt hxn (hxs rfl) (fun k hk => by rw [hnx k hk]; exact hal k hk) j hj hjl
       rw [gg0, List.length_append, cA0]
       have := hacc
       rw [Nat.mul_add, Nat.mul_one] at this
       omega
      have hih := ih _ (List.getElem_mem hjl) (path ++ [(j : Int)]) (gg0 l1 path als (xs.take i)) (by have := hsz _ (List.getElem_mem hjl); simp; omega) hle
      rw [lA0] at hih
      have hnext : gg0 l1 path als (xs.take (i + 1)) = gg0 l1 path als (xs.take i) ++ qu0 path ((ts[j].all d.st (zp0 d)).map fun q => (q.1, (j : Int) :: q.2)) := by
       rw [gg0, gg0, hgt, bz0, hnx j hjl, List.append_assoc]
      rw [← hnext] at hih
      generalize ts[j] = a at hgj hih
      obtain ⟨ak, an, as', at_⟩ := a
      simp only [Tm.enc] at hgj
      simp -implicitDefEqProofs (disch := omega) only [go_sem, hg, hlt, List.length_map, hgj, hjl, hde, enc_len]
      refine CallK.mk hin ?_
      have e1 : rowsOf encI path ++ [[iC (j : Int)]] = rowsOf encI (path ++ [(j : Int)]) := rowsOf_snoc (ec := encI) (j : Int)
      simp -implicitDefEqProofs (disch := omega) only [go_sem, hg, hlt, List.length_map, hgj, hjl, hde, enc_len, e1]
      refine ⟨⟨wy0 (fun _ => rfl), by omega, by omega⟩, fun _ => ⟨⟨by simp, by omega, by omega⟩, fun _ => CallK.accF 3 (by decide +kernel) hih ⟨by simp [rowsOf_len], rfl, by simp [qC0, AV.owns, AC.owns]⟩ rfl ?_⟩⟩
      simp -implicitDefEqProofs (disch := omega) only [go_sem, hg, hlt, List.length_map, hgj, hjl, hde, enc_len, e1]
      refine ⟨i + 1, hlt, by omega, ?_⟩
      generalize gg0 l1 path als (xs.take (i + 1)) = zs
      refine (le_mk (L' := [(2, slV (path.map encI)), (3, .one (.own 83 zs.length)), (4, .one (.ptr 4 0)), (5, .one (.ptr 5 0)), (12, slV (xs.map encI)), (13, zG0 (i + 1 : Nat))]) (B' := [(4, .var [.c (.sl (d.si.so.map encS)), .c (.sl (d.si.op.map GOp.enc)), .c (.sl (d.ru.map GRule.enc)), .c (.sl (d.st.map GStrict.enc))]), (5, .var [iC 2, iC n, sC s, tC ts]), (83, .arr 100 2 (rowsOf kg0 zs) false)]) (by simp [go_sem]) (by simp [go_sem])).trans ?_
      refine (qm0 (t := 3) (l := 83) (k := zs.length) 9001 rfl rfl (by simp [rowsOf_len]) (by decide) rfl zb0 zS0).trans ?_
      exact lek
     ·have hi0 := hk0 hk
      have hkb : (k == 2) = false := by simpa using hk
      subst hi0
      have e0 := se0 l1 path als xs
      simp only [e0]
      rw [if_neg hk]
      simp -implicitDefEqProofs (disch := omega) only [go_sem, hlt, hkb, List.length_map, hde]
    ·have hi' : i = xs.length := by omega
     subst hi'
     have e : (if k = 2 then gg0 l1 path als xs else l1) = gg0 l1 path als xs := by
      split
      ·rfl
      ·rename_i hk
       have : xs = [] := List.eq_nil_of_length_eq_zero (hk0 hk)
       subst this
       simp [gg0, zi0, qu0]
     rw [e, List.take_length]
     simp -implicitDefEqProofs (disch := omega) only [go_sem, Nat.lt_irrefl, List.length_map, hde]
theorem ka0 (d : GDefinition) (hl : d.ru.length < 1000000) (hls : d.st.length < 1048577) (hnd : ndS d.st) (hd : ∀ x, x ∈ d.ru → qS0 x ∧ qk0 d.si x = true) : ∀ (t : Tm), kc0 t → rng d.st t → nl0 d t :=
 Tm.ind (fun k n s ts ih h hr => mv0 d hl hls hnd hd k n s ts h hr (fun t ht => ih t ht (kL0 k n s ts h t ht) (yf0 d.st ts hr.2 t ht)))
open Go.Proofs Go.RowKit
structure GRedex where
 ru : Int
 ps : List Int
def GRedex.enc (x : GRedex) : List C := encI x.ru ++ (encL encI x.ps)
def GRedex.size (x : GRedex) : Nat := szI x.ru + (szL szI) x.ps
def GRedex.wf (x : GRedex) : Prop := wfI x.ru ∧ (wfL wfI) x.ps
def GRedex.eqb (x y : GRedex) : Bool := eqI x.ru y.ru && ((eqL eqI) x.ps y.ps)
theorem GRedex.enc_len (x : GRedex) : x.enc.length = 2 := by simp [GRedex.enc, encI, encS, wV1, encL, Go.Ai.enc_len]
theorem GRedex.enc_take (x : GRedex) : x.enc.take 2 = x.enc := List.take_of_length_le (by rw [GRedex.enc_len]; exact Nat.le_refl _)
theorem GRedex.encm_take (x : GRedex) : (x.enc.map AC.c).take 2 = x.enc.map AC.c := List.take_of_length_le (by rw [List.length_map, GRedex.enc_len]; exact Nat.le_refl _)
attribute [go_sem] GRedex.enc_len GRedex.enc_take GRedex.encm_take
theorem GRedex.csz (x : GRedex) : zg0 x.enc = x.size := by simp only [GRedex.enc, GRedex.size, zl0, Nat.add_assoc, tC0, kf0 tC0]
theorem GRedex.nar (x : GRedex) : zw0 x.enc := (zR0 _ _ (tb0 x.ru) (kq0 (fun y => ⟨by simp [encI], tb0 y⟩) x.ps))
def rdG (q : Int × List Int) : GRedex := ⟨q.1, q.2⟩
def qp2 (d : GDefinition) (t : Tm) : List GRedex := if yu0 d t then (t.all d.st (zp0 d)).map rdG else []
theorem yD1 (d : GDefinition) (t : Tm) (h : yu0 d t = true) : d.ru.length ≤ 16 := by
 simp only [yu0, dW0, Bool.and_eq_true, decide_eq_true_eq] at h
 exact h.1.1.1.1.1.1.2
theorem cN0 (rs : List (List (Int × List Int))) : ∀ (xs : List Int) (q : Int × List Int), q ∈ zi0 rs xs → ∃ x q', x ∈ xs ∧ q' ∈ rs.getD x.toNat [] ∧ q = (q'.1, x :: q'.2)
 | [], q, h => by cases h
 | x :: xs, q, h => by
  simp only [zi0, List.mem_append, List.mem_map] at h
  rcases h with ⟨q', h1, rfl⟩ | h
  ·exact ⟨x, q', by simp, h1, rfl⟩
  ·obtain ⟨y, q', h1, h2, h3⟩ := cN0 rs xs q h
   exact ⟨y, q', by simp [h1], h2, h3⟩
end Go.Ai
