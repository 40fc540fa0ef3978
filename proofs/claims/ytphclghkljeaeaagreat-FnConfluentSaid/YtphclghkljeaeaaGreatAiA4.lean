/- All places where something fires: what they are, and that they are few. -/
import Derived.Test.YtphclghkljeaeaaGreatAiP8
import Derived.Test.YtphclghkljeaeaaGreatAiAccX
import Derived.Test.YtphclghkljeaeaaGreatAiRow2
import Derived.Test.YtphclghkljeaeaaGreatAiU10
import Derived.Test.YtphclghkljeaeaaGreatAiN1
import Derived.Test.YtphclghkljeaeaaGreatAiI5
set_option linter.unusedVariables false
set_option linter.unusedSimpArgs false
namespace Go.Ai
open Go.Proofs
set_option maxRecDepth 100000
def qT0 (rs : List (List (Int × List Int))) : List Int → List (Int × List Int)
 | [] => []
 | x :: xs => (rs.getD x.toNat []).map (fun q => (q.1, x :: q.2)) ++ qT0 rs xs
theorem cf0 (rs : List (List (Int × List Int))) : ∀ (xs ys : List Int), qT0 rs (xs ++ ys) = qT0 rs xs ++ qT0 rs ys
 | [], _ => rfl
 | x :: xs, ys => by simp only [List.cons_append, qT0, cf0 rs xs ys, List.append_assoc]
theorem ri0 (rs : List (List (Int × List Int))) (xs : List Int) (i : Nat) (h : i < xs.length) : qT0 rs (xs.take (i + 1)) = qT0 rs (xs.take i) ++ (rs.getD xs[i].toNat []).map (fun q => (q.1, xs[i] :: q.2)) := by
 rw [List.take_add_one, List.getElem?_eq_getElem h, cf0]
 simp [qT0]
mutual
def Tm.all (st : List GStrict) (ro : Tm → List Int) : Tm → List (Int × List Int)
 | .mk k n s ts => (ro (.mk k n s ts)).map (fun x => (x, [])) ++ qT0 (Tm.alls st ro ts) (if k = 2 then zL0 st s else [])
def Tm.alls (st : List GStrict) (ro : Tm → List Int) : List Tm → List (List (Int × List Int))
 | [] => []
 | a :: ts => a.all st ro :: Tm.alls st ro ts
end
theorem dc0 (st : List GStrict) (ro : Tm → List Int) : ∀ (ts : List Tm), Tm.alls st ro ts = ts.map (Tm.all st ro)
 | [] => rfl
 | a :: ts => by simp only [Tm.alls, List.map_cons, dc0 st ro ts]
theorem db0 (st : List GStrict) (ro : Tm → List Int) (ts : List Tm) (i : Nat) (h : i < ts.length) : (Tm.alls st ro ts).getD i [] = ts[i].all st ro := by
 rw [dc0]; simp [List.getD, h]
def qa0 (p : GRule → Bool) : List GRule → Int → List Int
 | [], _ => []
 | r :: rs, k => (if p r then [k] else []) ++ qa0 p rs (k + 1)
theorem jQ0 (p : GRule → Bool) : ∀ (rs : List GRule) (k : Int), (qa0 p rs k).length ≤ rs.length
 | [], _ => by simp [qa0]
 | r :: rs, k => by
  have := jQ0 p rs (k + 1)
  simp only [qa0, List.length_append, List.length_cons]
  split <;> simp <;> omega
theorem cb0 (p : GRule → Bool) : ∀ (rs rs' : List GRule) (k : Int), qa0 p (rs ++ rs') k = qa0 p rs k ++ qa0 p rs' (k + rs.length)
 | [], _, k => by simp [qa0]
 | r :: rs, rs', k => by
  simp only [List.cons_append, qa0, cb0 p rs rs' (k + 1), List.append_assoc, List.length_cons]
  congr 3
  omega
theorem rf0 (p : GRule → Bool) (rs : List GRule) (i : Nat) (h : i < rs.length) : qa0 p (rs.take (i + 1)) 0 = qa0 p (rs.take i) 0 ++ (if p rs[i] then [(i : Int)] else []) := by
 rw [List.take_add_one, List.getElem?_eq_getElem h, cb0]
 simp [qa0, List.length_take, Nat.min_eq_left (Nat.le_of_lt h)]
def ndS (st : List GStrict) : Prop := ∀ s, (zL0 st s).Nodup
theorem gG1 (si : GSignature) (st : List GStrict) (h : dT0 si st = true) : ndS st := by
 intro s
 unfold zL0
 have key : st.Pairwise fun x y => ¬ (x.op.toList = y.op.toList ∧ x.ar = y.ar) := by
  rw [List.pairwise_iff_getElem]
  intro i j hi hj hij he
  have h1 := List.all_eq_true.1 h j (List.mem_range.2 hj)
  simp only [bh0, List.getD_eq_getElem?_getD, List.getElem?_eq_getElem hj, Option.getD_some, Bool.and_eq_true, Bool.not_eq_true'] at h1
  have h2 := h1.2
  rw [List.any_eq_false] at h2
  have h3 := h2 st[i] (by
   rw [List.mem_take_iff_getElem]
   exact ⟨i, by omega, rfl⟩)
  apply h3
  rw [kW0]
  simp only [Bool.and_eq_true, beq_iff_eq]
  exact ⟨by simp only [eqS]; first | exact beq_iff_eq.2 he.1 | simpa using he.1, he.2⟩
 rw [List.Nodup, List.pairwise_map, List.pairwise_filter]
 refine key.imp (fun hxy hx hy he => hxy ⟨?_, he⟩)
 rw [beq_iff_eq.1 hx, beq_iff_eq.1 hy]
theorem pP1 (d : GDefinition) (t : Tm) (h : yr0 d t = true) : ndS d.st := by
 simp only [yr0, du0, Bool.and_eq_true] at h
 exact gG1 d.si d.st h.1.1.1.1.2
theorem sq0 (f : Nat → Nat) : ∀ (xs ys : List Nat), xs.Nodup → (∀ x, x ∈ xs → x ∈ ys) → (xs.map f).sum ≤ (ys.map f).sum
 | [], _, _, _ => by simp
 | x :: xs, ys, hn, hs => by
  obtain ⟨y1, y2, rfl⟩ := List.append_of_mem (hs x (by simp))
  have hn := List.nodup_cons.1 hn
  have := sq0 f xs (y1 ++ y2) hn.2 (fun z hz => by
   have h1 := hs z (by simp [hz])
   simp only [List.mem_append, List.mem_cons] at h1 ⊢
   rcases h1 with h1 | h1 | h1
   ·exact .inl h1
   ·subst h1; exact absurd hz hn.1
   ·exact .inr h1)
  simp only [List.map_append, List.map_cons, List.sum_append, List.sum_cons] at this ⊢
  omega
theorem xK0 (rs : List (List (Int × List Int))) : ∀ (xs : List Int), (qT0 rs xs).length = (xs.map fun x => (rs.getD x.toNat []).length).sum
 | [] => rfl
 | x :: xs => by simp only [qT0, List.length_append, List.length_map, xK0 rs xs, List.map_cons, List.sum_cons]
theorem jO1 (rs : List (List (Int × List Int))) (xs : List Int) (hn : xs.Nodup) (h0 : ∀ x, x ∈ xs → 0 ≤ x ∧ x.toNat < rs.length) : (qT0 rs xs).length ≤ (rs.map List.length).sum := by
 rw [xK0]
 have e1 : (xs.map fun x => (rs.getD x.toNat []).length) = (xs.map Int.toNat).map fun i => (rs.getD i []).length := by simp [Function.comp_def]
 have e2 : rs.map List.length = (List.range rs.length).map fun i => (rs.getD i []).length := by
  apply List.ext_getElem
  ·simp
  ·intro i h1 h2; simp [List.getD] at h1 ⊢; simp [h1]
 rw [e1, e2]
 refine sq0 _ _ _ ?_ (fun i hi => ?_)
 ·rw [List.Nodup, List.pairwise_map]
  refine List.Pairwise.imp_of_mem ?_ hn
  intro a b ha hb hab he
  have := h0 a ha; have := h0 b hb
  omega
 ·obtain ⟨x, hx, rfl⟩ := List.mem_map.1 hi
  exact List.mem_range.2 (h0 x hx).2
theorem yR1 (st : List GStrict) (ro : Tm → List Int) (R : Nat) (hR : ∀ t, (ro t).length ≤ R) (hnd : ndS st) : ∀ (t : Tm), rng st t → (t.all st ro).length ≤ R * t.cnt := by
 refine Tm.ind (fun k n s ts ih hr => ?_)
 rw [Tm.all, List.length_append, List.length_map]
 have h1 := hR (.mk k n s ts)
 have h2 : (qT0 (Tm.alls st ro ts) (if k = 2 then zL0 st s else [])).length ≤ R * Tm.cnts ts := by
  have hle : ((Tm.alls st ro ts).map List.length).sum ≤ R * Tm.cnts ts := by
   have hrs := hr.2
   clear h1 hr
   induction ts with
   | nil => simp [Tm.alls, Tm.cnts]
   | cons a ts ih2 =>
    simp only [Tm.alls, List.map_cons, List.sum_cons, Tm.cnts, Nat.mul_add]
    have := ih a (by simp) hrs.1
    have := ih2 (fun t ht => ih t (by simp [ht])) hrs.2
    omega
  by_cases hk : k = 2
  ·rw [if_pos hk]
   refine Nat.le_trans (jO1 _ _ (hnd s) (fun x hx => ?_)) hle
   rw [dc0, List.length_map]
   exact hr.1 hk x hx
  ·rw [if_neg hk]; simp [qT0]
 simp only [Tm.cnt, Nat.mul_add, Nat.mul_one]
 omega
def wU0 (d : GDefinition) (t : Tm) : List Int := qa0 (fun x => (wk0 x t).isSome) d.ru 0
def sb1 (path : List Int) (q : Int × List Int) : List C := [.v (.int .i64 q.1), .sl ((path ++ q.2).map encI)]
end Go.Ai
/- All places where something fires, in the program. -/
namespace Go.Ai
open Go.Proofs
set_option maxRecDepth 100000
def zM2 (path : List Int) (l : List (Int × List Int)) : List (List AC) := l.map fun q => (sb1 path q).map mC
theorem kf1 (xs : List Int) : ∀ r, r ∈ zA0 encI xs → ∀ x, x ∈ r → isO x = true := by
 intro r hr x hx
 obtain ⟨y, _, rfl⟩ := List.mem_map.1 hr
 simp [encI] at hx
 subst hx; rfl
abbrev sZ1 (f : FuncId) (d : GDefinition) (t : Tm) : Prop := ∀ path : List Int, path.length + t.size < 1000000 → SatF Tryz.prog f [zv0 d.enc, tmV t, slV (path.map encI)] (slV ((t.all d.st (wU0 d)).map (sb1 path)))
end Go.Ai
/- All places where something fires, in the reference. -/
namespace Go.Ai
open Go.Proofs
set_option maxRecDepth 100000
def rc0 (q : Int × List Int) : List C := [.v (.int .i64 q.1), .sl (q.2.map encI)]
theorem ph1 {α : Type} (f g : α → Nat) : ∀ (xs : List α), (∀ x, x ∈ xs → f x ≤ g x) → (xs.map f).sum ≤ (xs.map g).sum
 | [], _ => by simp
 | x :: xs, h => by
  have h1 := h x (by simp)
  have h2 := ph1 f g xs (fun y hy => h y (by simp [hy]))
  simp only [List.map_cons, List.sum_cons]; omega
theorem zP1 (R : Nat) : ∀ (ts : List Tm), (ts.map fun t => R * t.cnt).sum = R * Tm.cnts ts
 | [] => by simp [Tm.cnts]
 | a :: ts => by simp only [List.map_cons, List.sum_cons, Tm.cnts, Nat.mul_add, zP1 R ts]
def wt (R : Nat) (ts : List Tm) (k : Nat) : Nat := R * ((ts[k]?).map Tm.cnt).getD 0
theorem dB1 (R : Nat) (ts : List Tm) : ((List.range ts.length).map (wt R ts)).sum = R * Tm.cnts ts := by
 rw [← zP1]
 congr 1
 apply List.ext_getElem
 ·simp
 ·intro i h1 h2
  simp only [List.length_map] at h2
  simp [wt, List.getElem?_eq_getElem h2]
theorem zK2 (R : Nat) (ts : List Tm) (als : List (List (Int × List Int))) (xs : List Int) (i : Nat) (hi : i < xs.length) (hn : xs.Nodup) (h0 : ∀ x, x ∈ xs → 0 ≤ x ∧ x.toNat < ts.length)
  (ha : ∀ k (h : k < ts.length), (als.getD k []).length ≤ R * ts[k].cnt) (j : Nat) (hj : xs[i] = (j : Int)) (hjl : j < ts.length) : (qT0 als (xs.take i)).length + R * ts[j].cnt ≤ R * Tm.cnts ts := by
 have hle := sq0 (wt R ts) ((xs.take (i + 1)).map Int.toNat) (List.range ts.length) ?_ ?_
 ·rw [dB1] at hle
  rw [List.take_add_one, List.getElem?_eq_getElem hi, hj] at hle
  simp only [Option.toList_some, List.map_append, List.map_cons, List.map_nil, List.sum_append, List.sum_cons, List.sum_nil, Int.toNat_natCast, Nat.add_zero, List.map_map] at hle
  have hw : wt R ts j = R * ts[j].cnt := by simp [wt, List.getElem?_eq_getElem hjl]
  rw [hw] at hle
  have hp := ph1 (fun x : Int => (als.getD x.toNat []).length) (wt R ts ∘ Int.toNat) (xs.take i) (fun x hx => by
   have hr := (h0 x (List.mem_of_mem_take hx)).2
   have := ha _ hr
   simp only [Function.comp, wt, List.getElem?_eq_getElem hr, Option.map_some, Option.getD_some]
   exact this)
  rw [xK0]
  omega
 ·rw [List.Nodup, List.pairwise_map]
  refine List.Pairwise.imp_of_mem ?_ (hn.sublist (List.take_sublist _ _))
  intro a b ha hb hab he
  have := h0 a (List.mem_of_mem_take ha); have := h0 b (List.mem_of_mem_take hb)
  omega
 ·intro k hk
  obtain ⟨x, hx, rfl⟩ := List.mem_map.1 hk
  exact List.mem_range.2 (h0 x (List.mem_of_mem_take hx)).2
def wS0 (path : List Int) (l : List (Int × List Int)) : List (Int × List Int) := l.map fun q => (q.1, path ++ q.2)
theorem cR0 (path : List Int) (l m : List (Int × List Int)) : wS0 path (l ++ m) = wS0 path l ++ wS0 path m := by simp [wS0]
theorem cS0 (path : List Int) (l : List (Int × List Int)) : (wS0 path l).length = l.length := by simp [wS0]
theorem lT0 (path : List Int) (x : Int) (l : List (Int × List Int)) : wS0 (path ++ [x]) l = wS0 path (l.map fun q => (q.1, x :: q.2)) := by simp [wS0]
theorem yk1 : ∀ (ts : List Tm) (t : Tm), t ∈ ts → t.cnt ≤ Tm.cnts ts
 | [], _, h => by cases h
 | a :: ts, t, h => by
  simp only [Tm.cnts]
  rcases List.mem_cons.1 h with rfl | h
  ·omega
  ·have := yk1 ts t h; omega
def cN0 (acc : List (Int × List Int)) (path : List Int) (p : GRule → Bool) (rs : List GRule) : List (Int × List Int) := acc ++ (qa0 p rs 0).map fun x => (x, path)
def lF0 (acc : List (Int × List Int)) (path : List Int) (als : List (List (Int × List Int))) (xs : List Int) : List (Int × List Int) := acc ++ wS0 path (qT0 als xs)
theorem vb1 (acc : List (Int × List Int)) (path : List Int) (p : GRule → Bool) (rs : List GRule) : cN0 acc path p (rs.take 0) = acc := by simp [cN0, qa0]
theorem tA0 (acc : List (Int × List Int)) (path : List Int) (als : List (List (Int × List Int))) (xs : List Int) : lF0 acc path als (xs.take 0) = acc := by simp [lF0, qT0, wS0]
abbrev rE0 (d : GDefinition) (t : Tm) : Prop := ∀ (path : List Int) (acc : List (Int × List Int)), path.length + t.size < 1000000 → acc.length + d.ru.length * t.cnt < 1000000000 →
 bn0 Tryz.prog 69 [zv0 d.enc, tmV t, slV (path.map encI)] [] 100 2 (zA0 rc0 acc) (zA0 rc0 (acc ++ wS0 path (t.all d.st (wU0 d)))) []
theorem nQ0 (d : GDefinition) (hl : d.ru.length < 1000000) (hls : d.st.length < 1048577) (hnd : ndS d.st) (hd : ∀ x, x ∈ d.ru → qm0 x ∧ qs0 d.si x = true) (k n : Int) (s : ByteArray) (ts : List Tm) (ht : vO0 (.mk k n s ts)) (hrg : rng d.st (.mk k n s ts)) (ih : ∀ t, t ∈ ts → rE0 d t) : rE0 d (.mk k n s ts) := by
 intro path acc hpl hacc
 have hst := jG0 d hls s
 have hf := fun x hx => jy0 x (hd x hx).1 (.mk k n s ts) ht
 have hfs : ∀ x, x ∈ d.ru → (jh0 x (.mk k n s ts)).2 = (wk0 x (.mk k n s ts)).isSome := fun x hx => vj0 d.si x _ (hd x hx).2
 obtain ⟨p, hp⟩ : ∃ p : GRule → Bool, p = fun x => (wk0 x (.mk k n s ts)).isSome := ⟨_, rfl⟩
 obtain ⟨p2, hp2⟩ : ∃ p2 : GRule → List GBind, p2 = fun x => (jh0 x (.mk k n s ts)).1 := ⟨_, rfl⟩
 have hf : ∀ x, x ∈ d.ru → Sat Tryz.prog 139 [zv0 x.enc, tmV (.mk k n s ts)] (.tup [slV ((p2 x).map GBind.enc), boolV (p x)]) := by
  intro x hx
  have := hf x hx
  rw [hfs x hx] at this
  rw [hp, hp2]; exact this
 have hlen := yR1 d.st (wU0 d) d.ru.length (fun t => jQ0 _ _ _) hnd
 have hbig := hlen (.mk k n s ts) hrg
 obtain ⟨r, hr⟩ : ∃ r, r = (Tm.mk k n s ts).all d.st (wU0 d) := ⟨_, rfl⟩
 rw [← hr] at hbig ⊢
 have hr : r = (qa0 p d.ru 0).map (fun x => (x, [])) ++ qT0 (Tm.alls d.st (wU0 d) ts) (if k = 2 then zL0 d.st s else []) := by
  rw [hr, Tm.all, hp]; rfl
 have hxs : k = 2 → ∀ x, x ∈ zL0 d.st s → 0 ≤ x ∧ x.toNat < ts.length := hrg.1
 have hxn : (zL0 d.st s).Nodup := hnd s
 have hxl : (zL0 d.st s).length < 1048577 := by
  have := yF0 d.st s d.st.length
  rw [List.take_length] at this
  omega
 generalize zL0 d.st s = xs at hst hr hxs hxl hxn
 have hts := zJ0 ts
 have hsz : ∀ t, t ∈ ts → t.size < s.size + Tm.sizes ts := fun t ht => by have := zU0 ts t ht; omega
 have hcts := yk1 ts
 simp only [Tm.size] at hpl
 simp only [Tm.cnt] at hacc hbig
 have hnx := fun i hi => db0 d.st (wU0 d) ts i hi
 have hal := fun i (hi : i < ts.length) => hlen ts[i] (js0 d.st ts hrg.2 _ (List.getElem_mem hi))
 generalize Tm.alls d.st (wU0 d) ts = als at hr hnx
 have hde : d.enc = [.sl (d.si.so.map encS), .sl (d.si.op.map GOp.enc), .sl (d.ru.map GRule.enc), .sl (d.st.map GStrict.enc)] := rfl
 refine gl0 [(12, ([⟨0, 11, [4], [73, 74]⟩, ⟨1, 11, [5], [73, 74]⟩, ⟨2, 11, [65], [73, 74]⟩, ⟨5, 11, [67, 68], [73, 74]⟩, ⟨6, 11, [69], [73, 74]⟩, ⟨7, 11, [66, 70], [73, 74]⟩, ⟨8, 11, [71], [73, 74]⟩, ⟨11, 14, [73, 74], [76, 77]⟩, ⟨11, 15, [73, 74], [78]⟩, ⟨11, 16, [73, 74], [79]⟩, ⟨0, 17, [4], [75, 80]⟩, ⟨1, 17, [5], [75, 80]⟩, ⟨2, 17, [65], [75, 80]⟩, ⟨5, 17, [67, 68], [75, 80]⟩, ⟨6, 17, [69], [75, 80]⟩, ⟨7, 17, [66, 70], [75, 80]⟩, ⟨8, 17, [71], [75, 80]⟩], []))] zF0 zB0 Tryz.func69 rfl rfl rfl (by decide +kernel) (by decide +kernel) (Nat.le_of_ble_eq_true rfl) (by decide) rfl zp0 zp0 zb0 zb0 ?_
 simp -implicitDefEqProofs (disch := omega) only [go_sem, Tm.enc, hde]
 refine qB0 [(12, ([⟨0, 11, [4], [73, 74]⟩, ⟨1, 11, [5], [73, 74]⟩, ⟨2, 11, [65], [73, 74]⟩, ⟨5, 11, [67, 68], [73, 74]⟩, ⟨6, 11, [69], [73, 74]⟩, ⟨7, 11, [66, 70], [73, 74]⟩, ⟨8, 11, [71], [73, 74]⟩, ⟨11, 14, [73, 74], [76, 77]⟩, ⟨11, 15, [73, 74], [78]⟩, ⟨11, 16, [73, 74], [79]⟩, ⟨0, 17, [4], [75, 80]⟩, ⟨1, 17, [5], [75, 80]⟩, ⟨2, 17, [65], [75, 80]⟩, ⟨5, 17, [67, 68], [75, 80]⟩, ⟨6, 17, [69], [75, 80]⟩, ⟨7, 17, [66, 70], [75, 80]⟩, ⟨8, 17, [71], [75, 80]⟩], []))] (ι := Nat) (fun i => mk 85 [(2, slV (path.map encI)), (3, .one (.own 9001 (cN0 acc path p (d.ru.take i)).length)), (4, .one (.ptr 4 0)), (5, .one (.ptr 5 0)), (9, zG0 i)] [(4, .var [.c (.sl (d.si.so.map encS)), .c (.sl (d.si.op.map GOp.enc)), .c (.sl (d.ru.map GRule.enc)), .c (.sl (d.st.map GStrict.enc))]), (5, .var [iC k, iC n, sC s, tC ts]), (9001, .arr 100 2 (zA0 rc0 (cN0 acc path p (d.ru.take i))) false)])
  (fun i => i ≤ d.ru.length) (fun i => d.ru.length - i) 0 (Nat.zero_le _) ?_ zF0 zB0 (by decide +kernel) ?_
 ·have e0 := vb1 acc path p d.ru
  simp only [e0]
  exact lek
 ·intro i hi
  rcases Nat.lt_or_ge i d.ru.length with hlt | hge
  ·have hg := zE0 (ec := GRule.enc) hlt
   have hfx := hf _ (List.getElem_mem hlt)
   have htk := rf0 p d.ru i hlt
   have hfl : (cN0 acc path p (d.ru.take i)).length ≤ 1002000000 := by
    have := jQ0 p (d.ru.take i) 0
    rw [List.length_take] at this
    rw [cN0, List.length_append, List.length_map]
    omega
   have htk2 : cN0 acc path p (d.ru.take (i + 1)) = cN0 acc path p (d.ru.take i) ++ (if p d.ru[i] then [((i : Int), path)] else []) := by
    rw [cN0, cN0, htk, List.map_append, List.append_assoc]
    congr 2
    split <;> rfl
   generalize cN0 acc path p (d.ru.take i) = l1 at hfl htk2
   generalize d.ru[i] = x at hg hfx htk2
   generalize p x = b at hfx htk2
   generalize (p2 x).map GBind.enc = y at hfx
   obtain ⟨na, ⟨lk, ln, ls, lt⟩, ⟨rk, rn, rs, rt⟩, gu⟩ := x
   simp only [GRule.enc, Tm.enc, encS, encL, List.cons_append, List.nil_append] at hg
   refine mc1 ?_
   refine CallK.mk hfx ?_
   simp -implicitDefEqProofs (disch := omega) only [go_sem, hde]
   refine ⟨fun hb => ?_, fun hb => ⟨i + 1, hlt, by omega, ?_⟩⟩
   ·subst hb
    rw [if_pos rfl] at htk2
    refine ⟨⟨wt0 (fun _ => rfl), by omega, by omega⟩, fun _ => ⟨⟨by simp, by omega, by omega⟩, fun _ => ⟨i + 1, hlt, by omega, ?_⟩⟩⟩
    refine (sx0 (l := 9001) (T := 34) (c := 1) (y := path.map encI) rfl rfl rfl (by simp [zH0]) wH0 (by decide)).trans ?_
    simp only [List.set_cons_succ, List.set_cons_zero]
    have eq1 : zA0 rc0 l1 ++ [[iC (i : Int), .c (.sl (path.map encI))]] = zA0 rc0 (l1 ++ [((i : Int), path)]) := zo0 (ec := rc0) ((i : Int), path)
    rw [eq1]
    rw [htk2]
    exact lek
   ·subst hb
    rw [if_neg (by simp), List.append_nil] at htk2
    rw [htk2]
    exact lek
  ·have hi : i = d.ru.length := by omega
   subst hi
   rw [List.take_length]
   simp -implicitDefEqProofs (disch := omega) only [go_sem, Nat.lt_irrefl, List.length_map, hde]
   refine CallK.mk hst ?_
   simp -implicitDefEqProofs (disch := omega) only [go_sem, List.length_map, hde]
   have hl1 : (cN0 acc path p d.ru).length ≤ acc.length + d.ru.length := by
    have := jQ0 p d.ru 0
    rw [cN0, List.length_append, List.length_map]
    omega
   have hfin : acc ++ wS0 path r = if k = 2 then lF0 (cN0 acc path p d.ru) path als xs else cN0 acc path p d.ru := by
    rw [hr, cR0]
    have e1 : wS0 path ((qa0 p d.ru 0).map fun x => (x, ([] : List Int))) = (qa0 p d.ru 0).map fun x => (x, path) := by simp [wS0]
    rw [e1]
    split
    ·rw [lF0, cN0, List.append_assoc]
    ·simp [cN0, qT0, wS0]
   have htot : acc.length + r.length < 1000000000 := by omega
   have htot2 : (if k = 2 then lF0 (cN0 acc path p d.ru) path als xs else cN0 acc path p d.ru).length < 1000000000 := by
    rw [← hfin, List.length_append, cS0]; exact htot
   rw [hfin]
   generalize cN0 acc path p d.ru = l1 at hl1 hfin htot2
   refine qB0 [(12, ([⟨0, 11, [4], [73, 74]⟩, ⟨1, 11, [5], [73, 74]⟩, ⟨2, 11, [65], [73, 74]⟩, ⟨5, 11, [67, 68], [73, 74]⟩, ⟨6, 11, [69], [73, 74]⟩, ⟨7, 11, [66, 70], [73, 74]⟩, ⟨8, 11, [71], [73, 74]⟩, ⟨11, 14, [73, 74], [76, 77]⟩, ⟨11, 15, [73, 74], [78]⟩, ⟨11, 16, [73, 74], [79]⟩, ⟨0, 17, [4], [75, 80]⟩, ⟨1, 17, [5], [75, 80]⟩, ⟨2, 17, [65], [75, 80]⟩, ⟨5, 17, [67, 68], [75, 80]⟩, ⟨6, 17, [69], [75, 80]⟩, ⟨7, 17, [66, 70], [75, 80]⟩, ⟨8, 17, [71], [75, 80]⟩], []))] (ι := Nat) (fun i => mk 85 [(2, slV (path.map encI)), (3, .one (.own 9001 (lF0 l1 path als (xs.take i)).length)), (4, .one (.ptr 4 0)), (5, .one (.ptr 5 0)), (12, slV (xs.map encI)), (13, zG0 i)] [(4, .var [.c (.sl (d.si.so.map encS)), .c (.sl (d.si.op.map GOp.enc)), .c (.sl (d.ru.map GRule.enc)), .c (.sl (d.st.map GStrict.enc))]), (5, .var [iC k, iC n, sC s, tC ts]), (9001, .arr 100 2 (zA0 rc0 (lF0 l1 path als (xs.take i))) false)])
    (fun i => i ≤ xs.length ∧ (¬ k = 2 → i = 0)) (fun i => xs.length - i) 0 ⟨Nat.zero_le _, fun _ => rfl⟩ ?_ zF0 zB0 (by decide +kernel) ?_
   ·have e0 := tA0 l1 path als xs
    simp only [e0]
    exact lek
   ·rintro i ⟨hi, hk0⟩
    rcases Nat.lt_or_ge i xs.length with hlt | hge'
    ·by_cases hk : k = 2
     ·subst hk
      have hg := zE0 (ec := encI) hlt
      simp only [encI] at hg
      have hgt := ri0 als xs i hlt
      have hx := hxs rfl _ (List.getElem_mem hlt)
      obtain ⟨j, hj⟩ : ∃ j : Nat, xs[i] = (j : Int) := ⟨xs[i].toNat, by omega⟩
      rw [hj] at hg hgt hx
      simp only [Int.toNat_natCast] at hgt hx
      have hjl : j < ts.length := hx.2
      have hgj := zI0 ts j hjl
      have hin := qw0 (j : Int) 0 ((ts.length : Int) - 1)
      rw [show (decide ((0 : Int) ≤ (j : Int)) && decide ((j : Int) ≤ (ts.length : Int) - 1)) = true by simp; omega] at hin
      have hle : (lF0 l1 path als (xs.take i)).length + d.ru.length * ts[j].cnt < 1000000000 := by
       have hrm := zK2 d.ru.length ts als xs i hlt hxn (hxs rfl) (fun k hk => by rw [hnx k hk]; exact hal k hk) j hj hjl
       rw [lF0, List.length_append, cS0]
       have := hacc
       rw [Nat.mul_add, Nat.mul_one] at this
       omega
      have hih := ih _ (List.getElem_mem hjl) (path ++ [(j : Int)]) (lF0 l1 path als (xs.take i)) (by have := hsz _ (List.getElem_mem hjl); simp; omega) hle
      rw [lT0] at hih
      have hnext : lF0 l1 path als (xs.take (i + 1)) = lF0 l1 path als (xs.take i) ++ wS0 path ((ts[j].all d.st (wU0 d)).map fun q => (q.1, (j : Int) :: q.2)) := by
       rw [lF0, lF0, hgt, cR0, hnx j hjl, List.append_assoc]
      rw [← hnext] at hih
      generalize ts[j] = a at hgj hih
      obtain ⟨ak, an, as', at_⟩ := a
      simp only [Tm.enc] at hgj
      simp -implicitDefEqProofs (disch := omega) only [go_sem, hg, hlt, List.length_map, hgj, hjl, hde, enc_len]
      refine CallK.mk hin ?_
      have e1 : zA0 encI path ++ [[iC (j : Int)]] = zA0 encI (path ++ [(j : Int)]) := zo0 (ec := encI) (j : Int)
      simp -implicitDefEqProofs (disch := omega) only [go_sem, hg, hlt, List.length_map, hgj, hjl, hde, enc_len, e1]
      refine ⟨⟨wt0 (fun _ => rfl), by omega, by omega⟩, fun _ => ⟨⟨by simp, by omega, by omega⟩, fun _ => CallK.accF 3 (by decide +kernel) hih ⟨by simp [zH0], rfl, by simp [qH0, AV.owns, AC.owns]⟩ rfl ?_⟩⟩
      simp -implicitDefEqProofs (disch := omega) only [go_sem, hg, hlt, List.length_map, hgj, hjl, hde, enc_len, e1]
      refine ⟨i + 1, hlt, by omega, ?_⟩
      generalize lF0 l1 path als (xs.take (i + 1)) = zs
      refine (zM0 (L' := [(2, slV (path.map encI)), (3, .one (.own 83 zs.length)), (4, .one (.ptr 4 0)), (5, .one (.ptr 5 0)), (12, slV (xs.map encI)), (13, zG0 (i + 1 : Nat))]) (B' := [(4, .var [.c (.sl (d.si.so.map encS)), .c (.sl (d.si.op.map GOp.enc)), .c (.sl (d.ru.map GRule.enc)), .c (.sl (d.st.map GStrict.enc))]), (5, .var [iC 2, iC n, sC s, tC ts]), (83, .arr 100 2 (zA0 rc0 zs) false)]) (by simp [go_sem]) (by simp [go_sem])).trans ?_
      refine (qu0 (t := 3) (l := 83) (k := zs.length) 9001 rfl rfl (by simp [zH0]) (by decide) rfl zp0 zb0).trans ?_
      exact lek
     ·have hi0 := hk0 hk
      have hkb : (k == 2) = false := by simpa using hk
      subst hi0
      have e0 := tA0 l1 path als xs
      simp only [e0]
      rw [if_neg hk]
      simp -implicitDefEqProofs (disch := omega) only [go_sem, hlt, hkb, List.length_map, hde]
    ·have hi' : i = xs.length := by omega
     subst hi'
     have e : (if k = 2 then lF0 l1 path als xs else l1) = lF0 l1 path als xs := by
      split
      ·rfl
      ·rename_i hk
       have : xs = [] := List.eq_nil_of_length_eq_zero (hk0 hk)
       subst this
       simp [lF0, qT0, wS0]
     rw [e, List.take_length]
     simp -implicitDefEqProofs (disch := omega) only [go_sem, Nat.lt_irrefl, List.length_map, hde]
theorem cH0 (d : GDefinition) (hl : d.ru.length < 1000000) (hls : d.st.length < 1048577) (hnd : ndS d.st) (hd : ∀ x, x ∈ d.ru → qm0 x ∧ qs0 d.si x = true) : ∀ (t : Tm), vO0 t → rng d.st t → rE0 d t :=
 Tm.ind (fun k n s ts ih h hr => nQ0 d hl hls hnd hd k n s ts h hr (fun t ht => ih t ht (xA0 k n s ts h t ht) (js0 d.st ts hr.2 t ht)))
end Go.Ai
/- The law on AllRedexes. Written by mk34.py. -/
namespace Go.Ai
open Go.Proofs Go.RowKit
set_option maxRecDepth 100000
structure GRedex where
 ru : Int
 ps : List Int
def GRedex.enc (x : GRedex) : List C := encI x.ru ++ (encL encI x.ps)
def GRedex.size (x : GRedex) : Nat := szI x.ru + (szL szI) x.ps
def GRedex.wf (x : GRedex) : Prop := wfI x.ru ∧ (wfL wfI) x.ps
def GRedex.eqb (x y : GRedex) : Bool := eqI x.ru y.ru && ((eqL eqI) x.ps y.ps)
theorem GRedex.enc_len (x : GRedex) : x.enc.length = 2 := by simp [GRedex.enc, encI, encS, wx1, encL, Go.Ai.enc_len]
theorem GRedex.enc_take (x : GRedex) : x.enc.take 2 = x.enc := List.take_of_length_le (by rw [GRedex.enc_len]; exact Nat.le_refl _)
theorem GRedex.encm_take (x : GRedex) : (x.enc.map AC.c).take 2 = x.enc.map AC.c := List.take_of_length_le (by rw [List.length_map, GRedex.enc_len]; exact Nat.le_refl _)
attribute [go_sem] GRedex.enc_len GRedex.enc_take GRedex.encm_take
theorem GRedex.csz (x : GRedex) : zm0 x.enc = x.size := by simp only [GRedex.enc, GRedex.size, zr0, Nat.add_assoc, tU0, ky0 tU0]
theorem GRedex.nar (x : GRedex) : qA0 x.enc := (zV0 _ _ (tw0 x.ru) (vG0 (fun y => ⟨by simp [encI], tw0 y⟩) x.ps))
def rdG (q : Int × List Int) : GRedex := ⟨q.1, q.2⟩
def qX2 (d : GDefinition) (t : Tm) : List GRedex := if yr0 d t then (t.all d.st (wU0 d)).map rdG else []
theorem pQ1 (d : GDefinition) (t : Tm) (h : yr0 d t = true) : d.ru.length ≤ 16 := by
 simp only [yr0, du0, Bool.and_eq_true, decide_eq_true_eq] at h
 exact h.1.1.1.1.1.1.2
theorem cg0 (rs : List (List (Int × List Int))) : ∀ (xs : List Int) (q : Int × List Int), q ∈ qT0 rs xs → ∃ x q', x ∈ xs ∧ q' ∈ rs.getD x.toNat [] ∧ q = (q'.1, x :: q'.2)
 | [], q, h => by cases h
 | x :: xs, q, h => by
  simp only [qT0, List.mem_append, List.mem_map] at h
  rcases h with ⟨q', h1, rfl⟩ | h
  ·exact ⟨x, q', by simp, h1, rfl⟩
  ·obtain ⟨y, q', h1, h2, h3⟩ := cg0 rs xs q h
   exact ⟨y, q', by simp [h1], h2, h3⟩
end Go.Ai
