/- Subterms at positions, in the reference and in the program; a subterm is put in. -/
import Derived.Test.YtphclghkljeaeaaGreatAiG1
import Derived.Test.YtphclghkljeaeaaGreatAiI3
import Derived.Test.YtphclghkljeaeaaGreatAiP8
import Derived.Test.YtphclghkljeaeaaGreatAiP12
set_option linter.unusedVariables false
set_option linter.unusedSimpArgs false
namespace Go.Ai
open Go.Proofs
set_option maxRecDepth 100000
def atp : List Int → Tm → Option Tm
 | [], t => some t
 | i :: p, .mk _ _ _ ts => if decide (0 ≤ i) && decide (i < (ts.length : Int)) then atp p (ts.getD i.toNat qS0) else none
def ga0 : List Int → Tm → Tm → Tm
 | [], _, u => u
 | i :: p, .mk k n s ts, u => .mk k n s (ts.set i.toNat (ga0 p (ts.getD i.toNat qS0) u))
theorem vl1 (p : List Int) (i : Nat) (h : i < p.length) (k n : Int) (s : ByteArray) (ts : List Tm) : atp (p.drop i) (.mk k n s ts) = if decide (0 ≤ p[i]) && decide (p[i] < (ts.length : Int)) then atp (p.drop (i + 1)) (ts.getD p[i].toNat qS0) else none := by
 rw [List.drop_eq_getElem_cons h]; rfl
theorem tH0 : ∀ (p : List Int) (t u : Tm), atp p t = some u → u.size ≤ t.size
 | [], t, u, h => by cases h; exact Nat.le_refl _
 | i :: p, .mk k n s ts, u, h => by
  simp only [atp] at h
  split at h
  ·rename_i hc
   simp only [Bool.and_eq_true, decide_eq_true_eq] at hc
   have hlt : i.toNat < ts.length := by omega
   have := tH0 p _ u h
   rw [List.getD_eq_getElem?_getD, List.getElem?_eq_getElem hlt, Option.getD_some] at this
   have h2 := zU0 ts _ (List.getElem_mem hlt)
   simp only [Tm.size]; omega
  ·cases h
theorem zU1 (k n : Int) (s : ByteArray) (ts : List Tm) (i : Nat) (h : i < ts.length) : ts[i].size < (Tm.mk k n s ts).size := by
 have := zU0 ts _ (List.getElem_mem h)
 simp only [Tm.size]; omega
theorem nJ0 : ∀ (ts : List Tm) (i : Nat) (h : i < ts.length) (u : Tm), Tm.sizes (ts.set i u) + ts[i].size = Tm.sizes ts + u.size
 | t :: ts, 0, h, u => by simp [Tm.sizes]; omega
 | t :: ts, i + 1, h, u => by
  have := nJ0 ts i (by simpa using h) u
  simp [Tm.sizes]; omega
theorem mo0 : ∀ (p : List Int) (t u v : Tm), atp p t = some u → (ga0 p t v).size ≤ t.size + v.size
 | [], t, u, v, h => by simp [ga0]
 | i :: p, .mk k n s ts, u, v, h => by
  simp only [atp] at h
  split at h
  ·rename_i hc
   simp only [Bool.and_eq_true, decide_eq_true_eq] at hc
   have hlt : i.toNat < ts.length := by omega
   have e : ts.getD i.toNat qS0 = ts[i.toNat] := by rw [List.getD_eq_getElem?_getD, List.getElem?_eq_getElem hlt, Option.getD_some]
   have := mo0 p _ u v h
   simp only [ga0, Tm.size]
   rw [e] at this ⊢
   have h2 := nJ0 ts i.toNat hlt (ga0 p ts[i.toNat] v)
   omega
  ·cases h
theorem bd0 (t : Tm) (hz : t.size < 1048577) (p : List Int) (hp : p.length < 100000000) : Sat Tryz.prog 141 [tmV t, slV (p.map encI)] (.tup [tmV ((atp p t).getD qS0), boolV (atp p t).isSome]) := by
 obtain ⟨r, hr⟩ : ∃ r, r = atp p t := ⟨_, rfl⟩
 rw [← hr]
 have hcp := fun u hu => wn0 u (Nat.lt_of_le_of_lt (tH0 p t u hu) hz)
 rw [← hr] at hcp
 obtain ⟨k, n, s, ts⟩ := t
 refine soc zF0 zB0 Tryz.func141 ?_
 refine kF0 ?_
 refine zC0 (ι := Nat × Int × Int × ByteArray × List Tm) (fun i => mk 34 [(1, slV (p.map encI)), (2, .one (.ptr 2 0)), (4, .one (.ptr 4 0)), (6, zG0 i.1)] [(2, .var [iC i.2.1, iC i.2.2.1, sC i.2.2.2.1, tC i.2.2.2.2]), (4, .var zT)])
  (fun i => i.1 ≤ p.length ∧ (Tm.mk i.2.1 i.2.2.1 i.2.2.2.1 i.2.2.2.2).size < 1048577 ∧ r = atp (p.drop i.1) (.mk i.2.1 i.2.2.1 i.2.2.2.1 i.2.2.2.2)) (fun i => p.length - i.1) (0, k, n, s, ts) ⟨Nat.zero_le _, hz, by simpa using hr⟩ ?_ zF0 zB0 (by decide +kernel) ?_
 ·exact zM0 (by simp [go_sem]) (by simp [go_sem, zT])
 ·rintro ⟨i, k, n, s, ts⟩ ⟨hi, hsz, he⟩
  simp only at hi hsz he
  have hln := zJ0 ts
  have hsz' := hsz
  simp only [Tm.size] at hsz'
  rcases Nat.lt_or_ge i p.length with hlt | hge
  ·have hg := zE0 (ec := encI) hlt
   simp only [encI] at hg
   rw [vl1 p i hlt] at he
   generalize p[i] = x at hg he
   have hin := qw0 x 0 ((ts.length : Int) - 1)
   have e0 : (decide (0 ≤ x) && decide (x < (ts.length : Int))) = (decide (0 ≤ x) && decide (x ≤ (ts.length : Int) - 1)) := by
    congr 1; exact decide_eq_decide.2 (by omega)
   rw [e0] at he
   simp -implicitDefEqProofs (disch := omega) only [go_sem, hg, hlt, List.length_map, enc_len]
   refine CallK.mk hin ?_
   by_cases hc : (decide (0 ≤ x) && decide (x ≤ (ts.length : Int) - 1)) = true
   ·rw [if_pos hc] at he
    have hc' := hc
    simp only [Bool.and_eq_true, decide_eq_true_eq] at hc'
    obtain ⟨j, rfl⟩ : ∃ j : Nat, x = (j : Int) := ⟨x.toNat, by omega⟩
    have hjl : j < ts.length := by omega
    have e1 : ts.getD ((j : Int)).toNat qS0 = ts[j] := by rw [Int.toNat_natCast, List.getD_eq_getElem?_getD, List.getElem?_eq_getElem hjl, Option.getD_some]
    rw [e1] at he
    have hgt := zI0 ts j hjl
    have hsj := zU1 k n s ts j hjl
    generalize ts[j] = a at hgt he hsj
    obtain ⟨ak, an, as', at_⟩ := a
    simp only [Tm.enc] at hgt
    rw [hc]
    simp -implicitDefEqProofs (disch := omega) only [go_sem, hg, hlt, List.length_map, enc_len, hgt, hjl]
    exact ⟨(i + 1, ak, an, as', at_), ⟨hlt, by simp only; omega, he⟩, by simp only; omega, lek⟩
   ·rw [if_neg hc] at he
    have hc : (decide (0 ≤ x) && decide (x ≤ (ts.length : Int) - 1)) = false := by simpa using hc
    subst he
    rw [hc]
    simp -implicitDefEqProofs (disch := omega) only [go_sem, qS0, Tm.enc, Tm.encs]
    rfl
  ·have e1 : p.drop i = [] := List.drop_of_length_le hge
   rw [e1] at he
   have he : r = some (.mk k n s ts) := he
   have hc := hcp _ he
   subst he
   refine nm0 ?_
   refine CallK.mk hc ?_
   refine kF0 ?_
   rfl
theorem sD0 (k n : Int) (s : ByteArray) (ts : List Tm) (hz : (Tm.mk k n s ts).size < 1048577) : SatO Tryz.prog 58 [tmV (.mk k n s ts)] 34 4 (zA0 Tm.enc ts) (.agg [iC k, iC n, sC s, .own 0 ts.length]) := by
 have ih : ∀ t, t ∈ ts → Sat Tryz.prog 58 [tmV t] (tmV t) := fun t ht => wn0 t (by have := zU0 ts t ht; simp only [Tm.size] at hz; omega)
 have hl : ts.length < 1048577 := by have := zJ0 ts; simp only [Tm.size] at hz; omega
 refine yD0 [.agg [iC k, iC n, sC s, .own 0 ts.length]] rfl (by simp) zF0 zB0 Tryz.func58 rfl rfl rfl (by decide +kernel) (by decide +kernel) (Nat.le_of_ble_eq_true rfl) (by decide) zp0 zb0 rfl ?_
 refine kF0 ?_
 refine zC0 (ι := Nat) (fun i => mk 25 [(1, .one (.ptr 1 0)), (2, .one (.ptr 2 0)), (3, .one (.own 5 (ts.take i).length)), (4, zG0 i)] [(1, .var [iC k, iC n, sC s, tC ts]), (2, .var zT), (5, .arr 34 4 (zA0 Tm.enc (ts.take i)) false)])
  (fun i => i ≤ ts.length) (fun i => ts.length - i) 0 (Nat.zero_le _) ?_ zF0 zB0 (by decide +kernel) ?_
 ·exact zM0 (by simp [go_sem]) (by simp [go_sem, zA0])
 ·intro i hi
  have hln : (ts.take i).length ≤ ts.length := by rw [List.length_take]; omega
  rcases Nat.lt_or_ge i ts.length with hlt | hge
  ·have hg := zI0 ts i hlt
   have ht : ts.take (i + 1) = ts.take i ++ [ts[i]] := by rw [List.take_add_one, List.getElem?_eq_getElem hlt]; rfl
   refine cU1 ?_
   refine c0' (ih _ (List.getElem_mem hlt)) ?_
   refine ⟨⟨by simp [enc_len], by omega, by omega⟩, fun _ => ⟨i + 1, hlt, by omega, ?_⟩⟩
   rw [ht]
   generalize ts.take i = acc
   generalize ts[i] = a
   exact zM0 (by simp [go_sem]) (by simp [go_sem, zT]; exact zo0 a)
  ·have : i = ts.length := by omega
   subst this
   simp -implicitDefEqProofs (disch := omega) only [go_sem, Nat.lt_irrefl, List.take_length]
theorem wd1 (ts : List Tm) (j : Nat) (k n : Int) (s : ByteArray) (us : List Tm) : (zA0 Tm.enc ts).set j [iC k, iC n, sC s, tC us] = zA0 Tm.enc (ts.set j (.mk k n s us)) := by
 simp [zA0, Tm.enc, List.map_set]
abbrev bF0 (f : FuncId) (t : Tm) (p : List Int) (v : Tm) : Prop := Sat Tryz.prog f [tmV t, slV (p.map encI), tmV v] (tmV (ga0 p t v))
theorem kt1 (i : Int) (p : List Int) (hp : p.length < 10000000) (k n : Int) (s : ByteArray) (ts : List Tm) (hz : (Tm.mk k n s ts).size < 1048577) (v : Tm) (j : Nat) (hj : i = (j : Int)) (hjl : j < ts.length) (ih : bF0 142 ts[j] p v) : bF0 142 (.mk k n s ts) (i :: p) v := by
 have hcp := sD0 k n s ts hz
 have hln := zJ0 ts
 simp only [Tm.size] at hz
 unfold bF0 at ih ⊢
 subst hj
 have e1 : ts.getD j qS0 = ts[j] := by rw [List.getD_eq_getElem?_getD, List.getElem?_eq_getElem hjl, Option.getD_some]
 simp only [ga0, Int.toNat_natCast]
 rw [e1]
 have hgt := zI0 ts j hjl
 have hgr := ke0 (ec := Tm.enc) hjl
 generalize ga0 p ts[j] v = r at ih ⊢
 generalize ts[j] = a at hgt ih hgr
 obtain ⟨ak, an, as', at_⟩ := a
 obtain ⟨rk, rn, rs, rt⟩ := r
 obtain ⟨vk, vn, vs, vt⟩ := v
 simp only [Tm.enc] at hgt
 simp only [Tm.enc, List.map_cons, List.map_nil] at hgr
 have hst := wd1 ts j rk rn rs rt
 have hdr : ∀ (x : List C) (l : List (List C)), List.drop (Int.toNat 1) (x :: l) = l := fun _ _ => rfl
 have hlm : (p.map encI).length < 10000000 := by rw [List.length_map]; exact hp
 refine soc zF0 zB0 Tryz.func142 ?_
 simp -implicitDefEqProofs only [go_sem, Tm.enc, List.map_cons, List.length_cons, encI]
 refine ⟨fun h => by omega, fun _ => CallK.out hcp rfl ?_⟩
 simp -implicitDefEqProofs only [go_sem, hgt, hjl, enc_len, List.map_cons, List.length_cons, List.length_map, List.getD_cons_zero, List.drop_succ_cons, List.drop_zero, hdr]
 refine ⟨by omega, fun _ => ⟨by omega, fun _ => ⟨⟨by omega, by omega, by simp [encI]⟩, fun _ => CallK.mk ih ?_⟩⟩⟩
 simp -implicitDefEqProofs only [go_sem, hgr, hjl, hst, zH0, rowsOf_toC, Tm.enc, List.map_cons, List.length_cons]
 exact ⟨by simp, fun _ => ⟨by simp, by simp [Tm.enc, encs_map, List.map_set]⟩⟩
theorem tG0 (i : Int) (p : List Int) (k n : Int) (s : ByteArray) (ts : List Tm) (u : Tm) (h : atp (i :: p) (.mk k n s ts) = some u) : ∃ (j : Nat) (hj : j < ts.length), i = (j : Int) ∧ atp p ts[j] = some u := by
 simp only [atp] at h
 split at h
 ·rename_i hc
  simp only [Bool.and_eq_true, decide_eq_true_eq] at hc
  have hlt : i.toNat < ts.length := by omega
  rw [List.getD_eq_getElem?_getD, List.getElem?_eq_getElem hlt, Option.getD_some] at h
  exact ⟨i.toNat, hlt, by omega, h⟩
 ·cases h
theorem sm0 (t v : Tm) (hv : v.size < 1048577) : bF0 142 t [] v := by
 have hc := wn0 v hv
 unfold bF0
 simp only [ga0]
 obtain ⟨k, n, s, ts⟩ := t
 obtain ⟨vk, vn, vs, vt⟩ := v
 refine soc zF0 zB0 Tryz.func142 ?_
 simp -implicitDefEqProofs only [go_sem, Tm.enc, List.map_nil, List.length_nil]
 refine ⟨fun _ => CallK.mk hc ?_, fun h => by simp at h⟩
 refine bp0 ?_
 rfl
theorem bb0 (v : Tm) (hv : v.size < 1048577) : ∀ (p : List Int), p.length < 10000000 → ∀ (t u : Tm), t.size < 1048577 → atp p t = some u → bF0 142 t p v
 | [], _, t, u, _, _ => sm0 t v hv
 | i :: p, hp, .mk k n s ts, u, hz, h => by
  obtain ⟨j, hj, e, h2⟩ := tG0 i p k n s ts u h
  have hs := zU1 k n s ts j hj
  simp only [List.length_cons] at hp
  exact kt1 i p (by omega) k n s ts hz v j e hj (bb0 v hv p (by omega) ts[j] u (by omega) h2)
end Go.Ai
/- A step: the redex, what is put in, on both sides. -/
namespace Go.Ai
open Go.Proofs
set_option maxRecDepth 100000
theorem fZ0 (rs : List (Option (Int × List Int))) : ∀ (xs : List Int) (q : Int × List Int), wV0 rs xs = some q → ∃ x p, x ∈ xs ∧ q.2 = x :: p ∧ rs.getD x.toNat none = some (q.1, p)
 | [], q, h => by cases h
 | x :: xs, q, h => by
  simp only [wV0] at h
  cases hg : rs.getD x.toNat none with
  | none =>
   rw [hg] at h
   obtain ⟨y, p, h1, h2, h3⟩ := fZ0 rs xs q h
   exact ⟨y, p, List.mem_cons_of_mem _ h1, h2, h3⟩
  | some q' =>
   rw [hg] at h
   cases h
   exact ⟨x, q'.2, List.mem_cons_self, rfl, hg⟩
def wG1 (d : GDefinition) (t : Tm) (q : Int × List Int) : Prop := q.2.length < 1000 ∧ ∃ (j : Nat) (hj : j < d.ru.length) (u : Tm), q.1 = (j : Int) ∧ atp q.2 t = some u ∧ vO0 u ∧ (wk0 d.ru[j] u).isSome = true
def doB (d : GDefinition) (t : Tm) (q : Int × List Int) : Tm := ga0 q.2 t (jP0 (d.ru.getD q.1.toNat ⟨sE, qS0, qS0, []⟩) ((atp q.2 t).getD qS0))
def qE2 (d : GDefinition) (t : Tm) : Option Tm := match xX0 d t with
 | none => none
 | some q => if (doB d t q).valid then some (doB d t q) else none
theorem tb0 (x : GRule) (hx : qm0 x) (t : Tm) (ht : vO0 t) (h : (wk0 x t).isSome = true) : (jP0 x t).size ≤ 40000 ∧ (jP0 x t).wf := by
 obtain ⟨bs, hb⟩ := Option.isSome_iff_exists.1 h
 have := xE1 x hx t ht bs hb
 rw [lv0, hb]
 exact ⟨this.1, this.2.1⟩
theorem dQ0 (d : GDefinition) (hl : d.ru.length < 100000000) (hd : ∀ x, x ∈ d.ru → qm0 x ∧ qs0 d.si x = true) (t : Tm) (hz : t.size < 1048577) (q : Int × List Int) (hq : wG1 d t q) : Sat Tryz.prog 70 [zv0 d.enc, tmV t, .agg [iC q.1, .c (.sl (q.2.map encI))]] (.tup [tmV (doB d t q), boolV (doB d t q).valid]) := by
 obtain ⟨k, p⟩ := q
 obtain ⟨hpl, j, hj, u, hk, hat, hu, hfi⟩ := hq
 simp only at hpl hk hat ⊢
 subst hk
 obtain ⟨hxo, hrb⟩ := hd _ (List.getElem_mem hj)
 have h1 := bd0 t hz p (by omega)
 have hfs := jy0 d.ru[j] hxo u hu
 have hfo := tb0 d.ru[j] hxo u hu hfi
 have h3 := bb0 (jP0 d.ru[j] u) (by omega) p (by omega) t u hz hat
 have h4 := mo0 p t u (jP0 d.ru[j] u) hat
 have h5 := qj0 (ga0 p t (jP0 d.ru[j] u)) (by omega)
 have e : doB d t ((j : Int), p) = ga0 p t (jP0 d.ru[j] u) := by
  unfold doB
  simp [hat, List.getD, hj]
 rw [e]
 rw [hat] at h1
 unfold bF0 at h3
 have hsm := vj0 d.si d.ru[j] u hrb
 rw [hfi] at hsm
 have hsb := jB1 d.si d.ru[j] u hrb hsm
 have hso := xF1 d.ru[j] hxo u hu
 have hgr := zE0 (ec := GRule.enc) hj
 generalize (ga0 p t (jP0 d.ru[j] u)).valid = b at h5 ⊢
 generalize ga0 p t (jP0 d.ru[j] u) = r at h3 h5 ⊢
 generalize jP0 d.ru[j] u = v at h3 hsb
 generalize d.ru[j] = x at hfs hsm hsb hso hgr hxo
 generalize jh0 x u = sb at hfs hsm hsb hso
 obtain ⟨sb, ok⟩ := sb
 simp only at hfs hsm hsb hso
 subst hsm
 have z1 := xL0 sb hso.1 x.ri hxo.2.1
 have hsu := jz0 sb (by omega) (fun b hb => by have := (hso.1 b hb).1; omega) x.ri (by have := hxo.2.1.1; omega)
 have hre := wx0 (x.ri.sub sb) z1.1
 rw [hsb] at hre
 clear z1
 generalize x.ri.sub sb = y1 at hsu hre
 simp only [Option.getD_some, Option.isSome_some] at h1
 obtain ⟨na, ⟨lk, ln, ls, lt⟩, ⟨ik, in_, is_, it⟩, gu⟩ := x
 obtain ⟨rk, rn, rs, rt⟩ := r
 obtain ⟨vk, vn, vs, vt⟩ := v
 obtain ⟨yk, yn, ys, yt⟩ := y1
 obtain ⟨k, n, s, ts⟩ := t
 obtain ⟨uk, un, us, ut⟩ := u
 have hde : d.enc = [.sl (d.si.so.map encS), .sl (d.si.op.map GOp.enc), .sl (d.ru.map GRule.enc), .sl (d.st.map GStrict.enc)] := rfl
 simp only [GRule.enc, Tm.enc, encS, encL, List.cons_append, List.nil_append] at hgr
 refine soc zF0 zB0 Tryz.func70 ?_
 refine cW1 ?_
 refine CallK.mk h1 ?_
 refine sj1 ?_
 refine CallK.mk hfs ?_
 refine sj1 ?_
 refine c7' hsu ?_
 refine c7' hre ?_
 refine c7' h3 ?_
 refine c7' h5 ?_
 rfl
end Go.Ai
/- StepTerm on both sides. -/
namespace Go.Ai
open Go.Proofs
set_option maxRecDepth 100000
theorem kL1 : ∀ (p : List Int) (t u v : Tm), atp p t = some u → t.wf → v.wf → (ga0 p t v).wf
 | [], t, u, v, h, h1, h2 => h2
 | i :: p, .mk k n s ts, u, v, h, h1, h2 => by
  obtain ⟨j, hj, rfl, h3⟩ := tG0 i p k n s ts u h
  obtain ⟨w1, w2, w3, w4, w5⟩ := h1
  have hm := (jN0 ts).1 w5
  have e1 : ts.getD j qS0 = ts[j] := by rw [List.getD_eq_getElem?_getD, List.getElem?_eq_getElem hj, Option.getD_some]
  have ih := kL1 p ts[j] u v h3 (hm _ (List.getElem_mem hj)) h2
  simp only [ga0, Int.toNat_natCast]
  rw [e1]
  refine ⟨w1, w2, w3, by simpa using w4, (jN0 _).2 (fun a ha => ?_)⟩
  rcases List.mem_or_eq_of_mem_set ha with ha | rfl
  ·exact hm a ha
  ·exact ih
theorem cA1 (d : GDefinition) (hd : ∀ x, x ∈ d.ru → qm0 x) (t : Tm) (htw : t.wf) (q : Int × List Int) (hq : wG1 d t q) : (doB d t q).wf := by
 obtain ⟨k, p⟩ := q
 obtain ⟨hpl, j, hj, u, hk, hat, hu, hfi⟩ := hq
 simp only at hk hat
 subst hk
 have hfo := tb0 d.ru[j] (hd _ (List.getElem_mem hj)) u hu hfi
 have h4 := kL1 p t u (jP0 d.ru[j] u) hat htw hfo.2
 unfold doB
 simpa only [hat, Option.getD_some, Int.toNat_natCast, List.getD_eq_getElem?_getD, List.getElem?_eq_getElem hj] using h4
end Go.Ai
