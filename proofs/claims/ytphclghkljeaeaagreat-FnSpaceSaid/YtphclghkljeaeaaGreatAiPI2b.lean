/- Paths in a space: the parts. -/
import Derived.Test.YtphclghkljeaeaaGreatAiSP2
import Derived.Test.YtphclghkljeaeaaGreatAiA4
import Derived.Test.YtphclghkljeaeaaGreatAiG1
import Derived.Test.YtphclghkljeaeaaGreatAiAccX
import Derived.Test.YtphclghkljeaeaaGreatAiRow2
set_option linter.unusedVariables false
set_option linter.unusedSimpArgs false
namespace Go.Ai
open Go.Proofs
set_option maxRecDepth 100000
theorem vt1 (m : GMove) (to : Int) : Sat Tryz.prog 65 [zz0 m.enc, .one (.ip [.v (.int .i64 to)])] (boolV (m.tg == to)) := by
 obtain ⟨fr, tg, ru, ps⟩ := m
 refine soc zE0 zA0 Tryz.func65 ?_
 simp -implicitDefEqProofs only [go_sem, GMove.enc, GRedex.enc, encI, encL, List.cons_append, List.nil_append]
def fH0 (to : Int) : List GMove → Nat → Int
 | [], _ => -1
 | m :: ms, k => if m.tg == to then (k : Int) else fH0 to ms (k + 1)
theorem dq0 (ms : List GMove) (hl : ms.length < 1000000000) (to : Int) : Sat Tryz.prog 64 [slV (ms.map GMove.enc), .one (.clo 65 [.ip [.v (.int .i64 to)]])] (zG0 (fH0 to ms 0)) := by
 obtain ⟨r, hr⟩ : ∃ r, r = fH0 to ms 0 := ⟨_, rfl⟩
 rw [← hr]
 refine soc zE0 zA0 Tryz.func64 ?_
 refine bW0 ?_
 refine zB0 (ι := Nat) (fun i => mk 19 [(0, slV (ms.map GMove.enc)), (1, .one (.clo 65 [.ip [.v (.int .i64 to)]])), (7, zG0 ms.length), (8, zG0 i)] []) (fun i => i ≤ ms.length ∧ r = fH0 to (ms.drop i) i) (fun i => ms.length - i) 0 ⟨Nat.zero_le _, by simpa using hr⟩ ?_ zE0 zA0 (by decide +kernel) ?_
 ·exact lek
 ·rintro i ⟨hi, hr⟩
  rcases Nat.lt_or_ge i ms.length with hlt | hge
  ·have hg := zD0 (ec := GMove.enc) hlt
   rw [List.drop_eq_getElem_cons hlt] at hr
   simp only [fH0] at hr
   have hs := vt1 ms[i] to
   generalize ms[i] = m at hg hr hs
   obtain ⟨fr, tg, ru, ps⟩ := m
   simp only [GMove.enc, GRedex.enc, encI, encL, List.cons_append, List.nil_append] at hg hs hr
   refine xF0 ?_
   refine SelfK.mk hs rfl ?_
   refine wj0 ?_
   refine ⟨fun h => ?_, fun h => ⟨i + 1, ⟨hlt, ?_⟩, by omega, lek⟩⟩
   ·rw [hr, if_pos (by simpa using h)]
   ·rw [hr, if_neg (by simpa using h)]
  ·have : i = ms.length := by omega
   subst this
   rw [List.drop_length] at hr
   simp only [fH0] at hr
   refine ru0 ?_
   exact hr.symm
abbrev rR (l : List GRedex) : List (List AC) := rowsOf GRedex.enc l
def rv {α : Type} (d : α) (xs : List α) (i : Nat) : List α := (List.range xs.length).map fun j => if j < i ∨ xs.length ≤ j + i then xs.getD (xs.length - 1 - j) d else xs.getD j d
section
variable {α : Type} {d : α}
theorem fz0 (xs : List α) (i : Nat) : (rv d xs i).length = xs.length := by simp [rv]
theorem fy0 (xs : List α) (i j : Nat) (h : j < (rv d xs i).length) : (rv d xs i)[j] = if j < i ∨ xs.length ≤ j + i then xs.getD (xs.length - 1 - j) d else xs.getD j d := by simp [rv]
theorem fp1 (xs : List α) : rv d xs 0 = xs := by
 refine List.ext_getElem (fz0 xs 0) (fun j h1 h2 => ?_)
 rw [fy0, if_neg (by omega), List.getD_eq_getElem?_getD, List.getElem?_eq_getElem h2]; rfl
theorem cj1 (xs : List α) (i : Nat) (h : xs.length ≤ i + i + 1) : rv d xs i = xs.reverse := by
 refine List.ext_getElem (by rw [fz0, List.length_reverse]) (fun j h1 h2 => ?_)
 rw [fz0] at h1
 rw [fy0, List.getElem_reverse]
 split
 ·rw [List.getD_eq_getElem?_getD, List.getElem?_eq_getElem (by omega)]; rfl
 ·have e : xs.length - 1 - j = j := by omega
  simp only [e]
  rw [List.getD_eq_getElem?_getD, List.getElem?_eq_getElem h1]; rfl
theorem fo1 (xs : List α) (i : Nat) (h : i + i + 1 < xs.length) : ((rv d xs i).set i (xs.getD (xs.length - 1 - i) d)).set (xs.length - 1 - i) (xs.getD i d) = rv d xs (i + 1) := by
 refine List.ext_getElem (by simp [fz0]) (fun j h1 h2 => ?_)
 rw [fz0] at h2
 rw [fy0, List.getElem_set]
 split
 ·subst j; rw [if_pos (by omega)]; congr 1; omega
 ·rw [List.getElem_set]
  split
  ·subst i; rw [if_pos (by omega)]
  ·rw [fy0]
   by_cases c : j < i ∨ xs.length ≤ j + i
   ·rw [if_pos c, if_pos (by omega)]
   ·rw [if_neg c, if_neg (by omega)]
end
def zR : GRedex := ⟨0, []⟩
theorem jn1 (xs : List GRedex) (i : Nat) (h : i < xs.length) : (rR xs).getD i [] = [iC xs[i].ru, .c (.sl (xs[i].ps.map encI))] := by
 rw [jF0 h]; simp [GRedex.enc, encI, encL]
theorem cZ1 (xs : List GRedex) (i : Nat) (x : GRedex) : (rR xs).set i [iC x.ru, .c (.sl (x.ps.map encI))] = rR (xs.set i x) := by
 simp [rowsOf, GRedex.enc, encI, encL, List.map_set]
theorem qv1 (xs : List GRedex) (hl : xs.length < 1000000000) : qo0 Tryz.prog 66 [.one (.own 0 xs.length)] [.arr 100 2 (rR xs) false] [.arr 100 2 (rR xs.reverse) false] (.tup []) := by
 refine sxv [] zE0 zA0 Tryz.func66 ?_
 simp -implicitDefEqProofs (disch := omega) only [go_sem, rowsOf_len]
 refine zn0 [] (ι := Nat) (fun i => mk 28 [(0, .one (.own 9000 xs.length)), (2, zG0 i), (3, zG0 (xs.length - 1 - i))] [(9000, .arr 100 2 (rR (rv zR xs i)) false)] [.one (.own 9000 xs.length)]) (fun i => i + i ≤ xs.length) (fun i => xs.length - i) 0 (Nat.zero_le _) ?_ zE0 zA0 (by decide +kernel) ?_
 ·have e0 := fp1 (d := zR) xs
  simp only [e0]
  exact lek
 ·intro i hi
  rcases Nat.lt_or_ge (i + i + 1) xs.length with hlt | hge
  ·have e1 : (xs.length : Int) - 1 - i = ((xs.length - 1 - i : Nat) : Int) := by omega
   have hst := fo1 (d := zR) xs i hlt
   have hln := fz0 (d := zR) xs i
   have hq : i < xs.length - 1 - i := by omega
   have hq2 : xs.length - 1 - i < xs.length := by omega
   have hq3 : i < xs.length := by omega
   have hlo : (rR (rv zR xs i)).getD i [] = [iC (xs.getD i zR).ru, .c (.sl ((xs.getD i zR).ps.map encI))] := by
    rw [jn1 _ _ (by omega), fy0, if_neg (by omega)]
   have hhi : (rR (rv zR xs i)).getD (xs.length - 1 - i) [] = [iC (xs.getD (xs.length - 1 - i) zR).ru, .c (.sl ((xs.getD (xs.length - 1 - i) zR).ps.map encI))] := by
    rw [jn1 _ _ (by omega), fy0, if_neg (by omega)]
   have hhi2 : (rR ((rv zR xs i).set i (xs.getD (xs.length - 1 - i) zR))).getD (xs.length - 1 - i) [] = [iC (xs.getD (xs.length - 1 - i) zR).ru, .c (.sl ((xs.getD (xs.length - 1 - i) zR).ps.map encI))] := by
    rw [jn1 _ _ (by rw [List.length_set]; omega), List.getElem_set_ne (by omega), fy0, if_neg (by omega)]
   rw [e1]
   generalize xs.getD i zR = a at *
   generalize xs.getD (xs.length - 1 - i) zR = b at *
   simp -implicitDefEqProofs (disch := omega) only [go_sem, hlo, hhi, rowsOf_len, hln, cZ1, List.length_set, hq, hq2, hq3, List.forall_mem_cons, List.not_mem_nil, hhi2, hst]
   refine ⟨i + 1, by omega, by omega, le_mk ?_ ?_⟩
   ·simp [go_sem]; omega
   ·simp [go_sem]
  ·have hno : ¬ ((i : Int) < xs.length - 1 - i) := by omega
   have hend := cj1 (d := zR) xs i (by omega)
   have hln := fz0 (d := zR) xs i
   simp -implicitDefEqProofs (disch := omega) only [go_sem, rowsOf_len, hln, hno, hend, List.length_reverse]
   exact t9'
def rM (l : List GRedex) : List (List AC) := l.map fun x => [iC x.ru, .m (.sl (x.ps.map encI))]
theorem ms1 (l : List GRedex) (lb : Lk) (e : TypeId) (sz : Nat) (fz : Bool) : inB lb (.arr e sz (rM l) fz) = True := by
 refine eq_true ?_
 intro r hr a ha
 obtain ⟨q, _, rfl⟩ := List.mem_map.1 hr
 simp only [List.mem_cons, List.not_mem_nil, or_false] at ha
 rcases ha with rfl | rfl <;> trivial
theorem cX1 (l : List GRedex) : (rM l).length = l.length := by simp [rM]
attribute [go_sem ↓] ms1
attribute [go_sem] cX1
theorem cW1 (l : List GRedex) : ∀ r, r ∈ rM l → ∀ x, x ∈ r → isO x = true := by
 intro r hr a ha
 obtain ⟨q, _, rfl⟩ := List.mem_map.1 hr
 simp only [List.mem_cons, List.not_mem_nil, or_false] at ha
 rcases ha with rfl | rfl <;> rfl
theorem cY1 (l : List GRedex) : (rM l).map (fun r => r.map toC) = l.map GRedex.enc := by
 simp [rM, GRedex.enc, encI, encL, toC]
theorem ff1 (l : List GRedex) (x : GRedex) : rM l ++ [[iC x.ru, .m (.sl (x.ps.map encI))]] = rM (l ++ [x]) := by simp [rM]
theorem pv0 (xs : List GRedex) (hl : xs.length < 1000000000) (hw : ∀ x, x ∈ xs → x.ps.length < 100000000) : SatF Tryz.prog 67 [slV (xs.map GRedex.enc)] (slV (xs.map GRedex.enc)) := by
 obtain ⟨r, hr⟩ : ∃ r, r = xs.map GRedex.enc := ⟨_, rfl⟩
 refine sfc [slV (xs.map GRedex.enc)] rfl (fun _ h => by cases h) zE0 zA0 Tryz.func67 ?_
 refine bW0 ?_
 refine zB0 (ι := Nat) (fun i => mk 23 [(3, .one (.own 9000 i)), (6, slV (xs.map GRedex.enc)), (7, zG0 xs.length), (8, zG0 i)] [(9000, .arr 100 2 (rM (xs.take i)) false)]) (fun i => i ≤ xs.length) (fun i => xs.length - i) 0 (Nat.zero_le _) ?_ zE0 zA0 (by decide +kernel) ?_
 ·refine (bT0 (t := 3) 9000 100 2 rfl (by decide) rfl (by decide)).trans ?_
  exact le_mk (by simp [go_sem]) (by simp [go_sem, rM])
 ·intro i hi
  rcases Nat.lt_or_ge i xs.length with hlt | hge
  ·have hg := zD0 (ec := GRedex.enc) hlt
   have hwx := hw _ (List.getElem_mem hlt)
   have htk : xs.take (i + 1) = xs.take i ++ [xs[i]] := by rw [List.take_add_one, List.getElem?_eq_getElem hlt]; rfl
   have hle : (xs.take i).length = i := by rw [List.length_take]; omega
   generalize hx : xs[i] = x at hg hwx htk
   obtain ⟨ru, ps⟩ := x
   simp only [GRedex.enc, encI, encL, List.cons_append, List.nil_append] at hg hwx
   have hcl := xY0 ps (by omega)
   simp -implicitDefEqProofs (disch := omega) only [go_sem, hg, hlt, List.length_map, hle]
   refine CallK.outN hcl rfl rfl ?_
   simp -implicitDefEqProofs (disch := omega) only [go_sem, hle]
   refine ⟨⟨by simp, by omega, by omega⟩, fun _ => ⟨i + 1, hlt, by omega, ?_⟩⟩
   refine (dA0 (l := 9000) (T := 17) (c := 1) rfl rfl rfl (by simp [rowsOf_len]) zS0 (mf0 _) (by decide) rowsOf_toC).trans ?_
   simp only [List.set_cons_succ, List.set_cons_zero]
   have e1 : rM (xs.take i) ++ [[iC ru, .m (.sl (ps.map encI))]] = rM (xs.take (i + 1)) := by rw [htk]; exact ff1 _ ⟨ru, ps⟩
   rw [e1]
   exact lek
  ·have : i = xs.length := by omega
   subst this
   simp -implicitDefEqProofs (disch := omega) only [go_sem, Nat.lt_irrefl, List.length_map, List.take_length]
   exact ⟨cW1 xs, cY1 xs⟩
end Go.Ai
namespace Go.Ai
open Go.Proofs
set_option maxRecDepth 100000
def yy0 (to : Int) : List GMove → Option GMove
 | [] => none
 | m :: ms => if m.tg == to then some m else yy0 to ms
theorem cP0 (to : Int) : ∀ (ms : List GMove) (k : Nat), yy0 to ms = none → fH0 to ms k = -1
 | [], _, _ => rfl
 | m :: ms, k, h => by
  simp only [yy0] at h
  split at h
  ·cases h
  ·rename_i hc
   simp only [fH0, hc]
   exact cP0 to ms (k + 1) h
theorem cQ0 (to : Int) : ∀ (ms : List GMove) (k : Nat) (m : GMove), yy0 to ms = some m → ∃ j, fH0 to ms k = ((k + j : Nat) : Int) ∧ ∃ h : j < ms.length, ms[j] = m
 | [], _, _, h => by cases h
 | a :: ms, k, m, h => by
  simp only [yy0] at h
  split at h
  ·rename_i hc
   cases h
   exact ⟨0, by simp [fH0, hc], by simp, rfl⟩
  ·rename_i hc
   obtain ⟨j, h1, h2, h3⟩ := cQ0 to ms (k + 1) m h
   refine ⟨j + 1, ?_, by simpa using h2, by simpa using h3⟩
   simp only [fH0, hc]
   rw [if_neg (by simp), h1]
   congr 1; omega
def back (ms : List GMove) : Nat → Int → Option (List GRedex)
 | 0, to => if to ≤ 0 then some [] else none
 | n + 1, to => if to ≤ 0 then some [] else match yy0 to ms with
  | none => none
  | some m => if m.fr < 0 ∨ m.fr ≥ to then none else (back ms n m.fr).map (fun l => m.re :: l)
theorem dI0 (ms : List GMove) (n : Nat) (to : Int) (h : to ≤ 0) : back ms n to = some [] := by cases n <;> simp [back, h]
theorem gz0 (ms : List GMove) (n : Nat) (to : Int) (h : 0 < to) (m : GMove) (hm : yy0 to ms = some m) (hf : ¬ (m.fr < 0 ∨ m.fr ≥ to)) (hn : to.toNat ≤ n) : back ms n to = (back ms (n - 1) m.fr).map (fun l => m.re :: l) := by
 cases n with
 | zero => omega
 | succ n => simp only [back, if_neg (show ¬ to ≤ 0 by omega), hm, if_neg hf, Nat.add_sub_cancel]
theorem gy0 (ms : List GMove) (n : Nat) (to : Int) (h : 0 < to) (hm : ∀ m, yy0 to ms = some m → m.fr < 0 ∨ m.fr ≥ to) : back ms n to = none := by
 cases n with
 | zero => simp only [back, if_neg (show ¬ to ≤ 0 by omega)]
 | succ n =>
  simp only [back, if_neg (show ¬ to ≤ 0 by omega)]
  cases hq : yy0 to ms with
  | none => rfl
  | some m => simp only [if_pos (hm m hq)]
theorem gx0 (ms : List GMove) : ∀ (n k : Nat) (to : Int), to.toNat ≤ n → to.toNat ≤ k → back ms n to = back ms k to
 | n, k, to, hn, hk => by
  rcases Int.lt_or_le 0 to with h | h
  ·cases n with
   | zero => omega
   | succ n =>
    cases k with
    | zero => omega
    | succ k =>
     simp only [back, if_neg (show ¬ to ≤ 0 by omega)]
     cases yy0 to ms with
     | none => rfl
     | some m =>
      simp only
      split
      ·rfl
      ·rw [gx0 ms n k m.fr (by omega) (by omega)]
  ·rw [dI0 _ _ _ h, dI0 _ _ _ h]
def qb1 (x : GSpace) (to : Int) : Option (List GRedex) := if 0 ≤ to ∧ to < x.te.length then back x.mo to.toNat to else none
def xL1 (acc : List GRedex) (q : Option (List GRedex)) : Option (List GRedex) := q.map fun l => (acc ++ l).reverse
def xK1 (q : Option (List GRedex)) : List GRedex := q.getD []
theorem bi0 (x : GSpace) (hxl : x.te.length < 1000000000) (hml : x.mo.length < 1000000000) (hw : ∀ m, m ∈ x.mo → m.re.ps.length < 100000000) (to : Int) :
  SatF Tryz.prog 15 [zz0 x.enc, zG0 to] (.tup [slV ((xK1 (xL1 [] (qb1 x to))).map GRedex.enc), boolV (xL1 [] (qb1 x to)).isSome]) := by
 obtain ⟨r, hr⟩ : ∃ r, r = xL1 [] (qb1 x to) := ⟨_, rfl⟩
 rw [← hr]
 unfold qb1 at hr
 have hde : x.enc = [.sl (x.te.map Tm.enc), .sl (x.mo.map GMove.enc), .v (.bool x.fu)] := rfl
 refine sfc [slV ((xK1 r).map GRedex.enc), boolV r.isSome] rfl (fun _ h => by cases h; rfl) zE0 zA0 Tryz.func15 ?_
 simp -implicitDefEqProofs only [go_sem, hde, List.length_map]
 have hno : (to < 0 ∨ to ≥ (x.te.length : Int)) → r = none := by
  intro h
  rw [hr, if_neg (by omega)]; rfl
 refine ⟨fun h1 => ⟨fun h2 => ?_, fun h2 => ?_⟩, fun h1 => ?_⟩
 ·rw [hno (.inr h2)]; simp [go_sem, xK1]
 ·rw [if_pos (by omega)] at hr
  clear hno
  refine zB0 (ι := Int × List GRedex) (fun q => mk 63 [(2, .one (.ptr 2 0)), (3, .one (.ptr 3 0)), (6, .one (.own 9000 q.2.length))] [(2, .var [.c (.sl (x.te.map Tm.enc)), .c (.sl (x.mo.map GMove.enc)), .c (.v (.bool x.fu))]), (3, .var [iC q.1]), (9000, .arr 100 2 (rR q.2) false)])
   (fun q => 0 ≤ q.1 ∧ q.2.length + q.1.toNat ≤ to.toNat ∧ r = xL1 q.2 (back x.mo q.1.toNat q.1) ∧ ∀ y, y ∈ q.2 → y.ps.length < 100000000) (fun q => q.1.toNat) (to, []) ⟨by simp only; omega, by simp, hr, fun _ h => by cases h⟩ ?_ zE0 zA0 (by decide +kernel) ?_
  ·refine (bT0 (t := 6) 9000 100 2 rfl (by decide) rfl (by decide)).trans ?_
   exact fs1
  ·rintro ⟨t, acc⟩ ⟨ht0, hal, hr, hac⟩
   simp only at ht0 hal hr hac
   have hix := dq0 x.mo hml t
   rcases Int.lt_or_le 0 t with htp | htz
   ·cases hm : yy0 t x.mo with
    | none =>
     have hrn : r = none := by
      rw [hr, gy0 _ _ _ htp (fun m h => by rw [hm] at h; cases h)]; rfl
     rw [cP0 t x.mo 0 hm] at hix
     simp -implicitDefEqProofs only [go_sem, htp, hde, List.length_map]
     refine CloK.mk hix rfl trivial (by simp [go_sem]) rfl ?_
     simp -implicitDefEqProofs only [go_sem, hde, List.length_map]
     rw [hrn]; simp [go_sem, xK1]
    | some m =>
     obtain ⟨j, e, hj, hm2⟩ := cQ0 t x.mo 0 m hm
     rw [e, Nat.zero_add] at hix
     have hg := zD0 (ec := GMove.enc) hj
     have hwm := hw _ (List.getElem_mem hj)
     rw [hm2] at hg hwm
     have hst : ¬ (m.fr < 0 ∨ m.fr ≥ t) → r = xL1 (acc ++ [m.re]) (back x.mo m.fr.toNat m.fr) := by
      intro h
      rw [hr, gz0 _ _ _ htp m hm h (Nat.le_refl _), gx0 x.mo (t.toNat - 1) m.fr.toNat m.fr (by omega) (by omega)]
      cases back x.mo m.fr.toNat m.fr <;> simp [xL1]
     have hrn : (m.fr < 0 ∨ m.fr ≥ t) → r = none := by
      intro h
      rw [hr, gy0 _ _ _ htp (fun m' h' => by rw [hm] at h'; cases h'; exact h)]; rfl
     have hsn : rowsOf GRedex.enc acc ++ [m.re.enc.map .c] = rR (acc ++ [m.re]) := rowsOf_snoc (ec := GRedex.enc) m.re
     obtain ⟨fr, tg, ru, ps⟩ := m
     simp only [GMove.enc, GRedex.enc, encI, encL, List.cons_append, List.nil_append, List.map_cons, List.map_nil] at hg hst hrn hwm hsn
     simp -implicitDefEqProofs only [go_sem, htp, hde, List.length_map]
     refine CloK.mk hix rfl trivial (by simp [go_sem]) rfl ?_
     simp -implicitDefEqProofs only [go_sem, hde, List.length_map, hg, hj]
     refine ⟨fun h3 => ⟨fun h4 => ?_, fun h4 => ⟨⟨by simp, by omega, by omega⟩, fun _ => ⟨(fr, acc ++ [⟨ru, ps⟩]), ⟨by simp only; omega, by simp; omega, hst (by omega), fun y hy => ?_⟩, by simp only; omega, ?_⟩⟩⟩, fun h3 => ?_⟩
     ·rw [hrn (.inr h4)]; simp [go_sem, xK1]
     ·rcases List.mem_append.1 hy with hy | hy
      ·exact hac y hy
      ·rw [List.mem_singleton.1 hy]; exact hwm
     ·rw [hsn]
      exact lek
     ·rw [hrn (.inl h3)]; simp [go_sem, xK1]
   ·have htz' : ¬ (t > 0) := by omega
    rw [dI0 _ _ _ htz] at hr
    have hrr : r = some acc.reverse := by rw [hr]; simp [xL1]
    have hrv := qv1 acc (by omega)
    have hcp := pv0 acc.reverse (by simp; omega) (fun y hy => hac y (List.mem_reverse.1 hy))
    simp -implicitDefEqProofs only [go_sem, htz', hde, List.length_map]
    refine CallK.con [9000] [] rfl hrv (by simp [go_sem]) ?_
    simp -implicitDefEqProofs only [go_sem, htz', hde, List.length_map, List.length_reverse]
    refine CallK.own hcp rfl ?_
    simp -implicitDefEqProofs only [go_sem, htz', hde, List.length_map]
    rw [hrr]; simp [go_sem, xK1]
 ·rw [hno (.inl h1)]; simp [go_sem, xK1]
end Go.Ai
