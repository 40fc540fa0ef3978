/- Subterms at positions, in the reference and in the program; a subterm is put in. -/
import Derived.Test.YtphclghkljeaeaaGreatAiG1
import Derived.Test.YtphclghkljeaeaaGreatAiI3
import Derived.Test.YtphclghkljeaeaaGreatAiP8
import Derived.Test.YtphclghkljeaeaaGreatAiP12
set_option linter.unusedVariables false
set_option linter.unusedSimpArgs false
namespace Go.Ai
open Go.Proofs
set_option maxRecDepth 100000
def atp : List Int → Tm → Option Tm
 | [], t => some t
 | i :: p, .mk _ _ _ ts => if decide (0 ≤ i) && decide (i < (ts.length : Int)) then atp p (ts.getD i.toNat zeroT) else none
def ne0 : List Int → Tm → Tm → Tm
 | [], _, u => u
 | i :: p, .mk k n s ts, u => .mk k n s (ts.set i.toNat (ne0 p (ts.getD i.toNat zeroT) u))
theorem jf1 (p : List Int) (i : Nat) (h : i < p.length) (k n : Int) (s : ByteArray) (ts : List Tm) : atp (p.drop i) (.mk k n s ts) = if decide (0 ≤ p[i]) && decide (p[i] < (ts.length : Int)) then atp (p.drop (i + 1)) (ts.getD p[i].toNat zeroT) else none := by
 rw [List.drop_eq_getElem_cons h]; rfl
theorem rM0 : ∀ (p : List Int) (t u : Tm), atp p t = some u → u.size ≤ t.size
 | [], t, u, h => by cases h; exact Nat.le_refl _
 | i :: p, .mk k n s ts, u, h => by
  simp only [atp] at h
  split at h
  ·rename_i hc
   simp only [Bool.and_eq_true, decide_eq_true_eq] at hc
   have hlt : i.toNat < ts.length := by omega
   have := rM0 p _ u h
   rw [List.getD_eq_getElem?_getD, List.getElem?_eq_getElem hlt, Option.getD_some] at this
   have h2 := zQ0 ts _ (List.getElem_mem hlt)
   simp only [Tm.size]; omega
  ·cases h
theorem vk0 (k n : Int) (s : ByteArray) (ts : List Tm) (i : Nat) (h : i < ts.length) : ts[i].size < (Tm.mk k n s ts).size := by
 have := zQ0 ts _ (List.getElem_mem h)
 simp only [Tm.size]; omega
theorem fW0 : ∀ (ts : List Tm) (i : Nat) (h : i < ts.length) (u : Tm), Tm.sizes (ts.set i u) + ts[i].size = Tm.sizes ts + u.size
 | t :: ts, 0, h, u => by simp [Tm.sizes]; omega
 | t :: ts, i + 1, h, u => by
  have := fW0 ts i (by simpa using h) u
  simp [Tm.sizes]; omega
theorem lH0 : ∀ (p : List Int) (t u v : Tm), atp p t = some u → (ne0 p t v).size ≤ t.size + v.size
 | [], t, u, v, h => by simp [ne0]
 | i :: p, .mk k n s ts, u, v, h => by
  simp only [atp] at h
  split at h
  ·rename_i hc
   simp only [Bool.and_eq_true, decide_eq_true_eq] at hc
   have hlt : i.toNat < ts.length := by omega
   have e : ts.getD i.toNat zeroT = ts[i.toNat] := by rw [List.getD_eq_getElem?_getD, List.getElem?_eq_getElem hlt, Option.getD_some]
   have := lH0 p _ u v h
   simp only [ne0, Tm.size]
   rw [e] at this ⊢
   have h2 := fW0 ts i.toNat hlt (ne0 p ts[i.toNat] v)
   omega
  ·cases h
theorem ff0 (t : Tm) (hz : t.size < 1048577) (p : List Int) (hp : p.length < 100000000) : Sat Tryz.prog 141 [tmV t, slV (p.map encI)] (.tup [tmV ((atp p t).getD zeroT), boolV (atp p t).isSome]) := by
 obtain ⟨r, hr⟩ : ∃ r, r = atp p t := ⟨_, rfl⟩
 rw [← hr]
 have hcp := fun u hu => qk0 u (Nat.lt_of_le_of_lt (rM0 p t u hu) hz)
 rw [← hr] at hcp
 obtain ⟨k, n, s, ts⟩ := t
 refine soc zE0 zA0 Tryz.func141 ?_
 refine jj0 ?_
 refine zB0 (ι := Nat × Int × Int × ByteArray × List Tm) (fun i => mk 34 [(1, slV (p.map encI)), (2, .one (.ptr 2 0)), (4, .one (.ptr 4 0)), (6, zH0 i.1)] [(2, .var [iC i.2.1, iC i.2.2.1, sC i.2.2.2.1, tC i.2.2.2.2]), (4, .var zT)])
  (fun i => i.1 ≤ p.length ∧ (Tm.mk i.2.1 i.2.2.1 i.2.2.2.1 i.2.2.2.2).size < 1048577 ∧ r = atp (p.drop i.1) (.mk i.2.1 i.2.2.1 i.2.2.2.1 i.2.2.2.2)) (fun i => p.length - i.1) (0, k, n, s, ts) ⟨Nat.zero_le _, hz, by simpa using hr⟩ ?_ zE0 zA0 (by decide +kernel) ?_
 ·exact t2'
 ·rintro ⟨i, k, n, s, ts⟩ ⟨hi, hsz, he⟩
  simp only at hi hsz he
  have hln := zI0 ts
  have hsz' := hsz
  simp only [Tm.size] at hsz'
  rcases Nat.lt_or_ge i p.length with hlt | hge
  ·have hg := zD0 (ec := encI) hlt
   simp only [encI] at hg
   rw [jf1 p i hlt] at he
   generalize p[i] = x at hg he
   have hin := yD0 x 0 ((ts.length : Int) - 1)
   have e0 : (decide (0 ≤ x) && decide (x < (ts.length : Int))) = (decide (0 ≤ x) && decide (x ≤ (ts.length : Int) - 1)) := by
    congr 1; exact decide_eq_decide.2 (by omega)
   rw [e0] at he
   simp -implicitDefEqProofs (disch := omega) only [go_sem, hg, hlt, List.length_map, enc_len]
   refine CallK.mk hin ?_
   by_cases hc : (decide (0 ≤ x) && decide (x ≤ (ts.length : Int) - 1)) = true
   ·rw [if_pos hc] at he
    have hc' := hc
    simp only [Bool.and_eq_true, decide_eq_true_eq] at hc'
    obtain ⟨j, rfl⟩ : ∃ j : Nat, x = (j : Int) := ⟨x.toNat, by omega⟩
    have hjl : j < ts.length := by omega
    have e1 : ts.getD ((j : Int)).toNat zeroT = ts[j] := by rw [Int.toNat_natCast, List.getD_eq_getElem?_getD, List.getElem?_eq_getElem hjl, Option.getD_some]
    rw [e1] at he
    have hgt := zG0 ts j hjl
    have hsj := vk0 k n s ts j hjl
    generalize ts[j] = a at hgt he hsj
    obtain ⟨ak, an, as', at_⟩ := a
    simp only [Tm.enc] at hgt
    rw [hc]
    simp -implicitDefEqProofs (disch := omega) only [go_sem, hg, hlt, List.length_map, enc_len, hgt, hjl]
    exact ⟨(i + 1, ak, an, as', at_), ⟨hlt, by simp only; omega, he⟩, by simp only; omega, lek⟩
   ·rw [if_neg hc] at he
    have hc : (decide (0 ≤ x) && decide (x ≤ (ts.length : Int) - 1)) = false := by simpa using hc
    subst he
    rw [hc]
    refine gH1 ?_
    rfl
  ·have e1 : p.drop i = [] := List.drop_of_length_le hge
   rw [e1] at he
   have he : r = some (.mk k n s ts) := he
   have hc := hcp _ he
   subst he
   refine mD0 ?_
   refine c5' hc ?_
   rfl
theorem jW0 (k n : Int) (s : ByteArray) (ts : List Tm) (hz : (Tm.mk k n s ts).size < 1048577) : SatO Tryz.prog 58 [tmV (.mk k n s ts)] 34 4 (rowsOf Tm.enc ts) (.agg [iC k, iC n, sC s, .own 0 ts.length]) := by
 have ih : ∀ t, t ∈ ts → Sat Tryz.prog 58 [tmV t] (tmV t) := fun t ht => qk0 t (by have := zQ0 ts t ht; simp only [Tm.size] at hz; omega)
 have hl : ts.length < 1048577 := by have := zI0 ts; simp only [Tm.size] at hz; omega
 refine qe0 [.agg [iC k, iC n, sC s, .own 0 ts.length]] rfl (by simp) zE0 zA0 Tryz.func58 rfl rfl rfl (by decide +kernel) (by decide +kernel) (Nat.le_of_ble_eq_true rfl) (by decide) zk0 zd0 rfl ?_
 refine jj0 ?_
 refine zB0 (ι := Nat) (fun i => mk 25 [(1, .one (.ptr 1 0)), (2, .one (.ptr 2 0)), (3, .one (.own 5 (ts.take i).length)), (4, zH0 i)] [(1, .var [iC k, iC n, sC s, tC ts]), (2, .var zT), (5, .arr 34 4 (rowsOf Tm.enc (ts.take i)) false)])
  (fun i => i ≤ ts.length) (fun i => ts.length - i) 0 (Nat.zero_le _) ?_ zE0 zA0 (by decide +kernel) ?_
 ·exact xg1
 ·intro i hi
  have hln : (ts.take i).length ≤ ts.length := by rw [List.length_take]; omega
  rcases Nat.lt_or_ge i ts.length with hlt | hge
  ·have hg := zG0 ts i hlt
   have ht : ts.take (i + 1) = ts.take i ++ [ts[i]] := by rw [List.take_add_one, List.getElem?_eq_getElem hlt]; rfl
   refine jL1 ?_
   refine c0' (ih _ (List.getElem_mem hlt)) ?_
   refine ⟨⟨by simp [enc_len], by omega, by omega⟩, fun _ => ⟨i + 1, hlt, by omega, ?_⟩⟩
   rw [ht]
   generalize ts.take i = acc
   generalize ts[i] = a
   exact mh1
  ·have : i = ts.length := by omega
   subst this
   simp -implicitDefEqProofs (disch := omega) only [go_sem, Nat.lt_irrefl, List.take_length]
theorem jK0 (ts : List Tm) (j : Nat) (k n : Int) (s : ByteArray) (us : List Tm) : (rowsOf Tm.enc ts).set j [iC k, iC n, sC s, tC us] = rowsOf Tm.enc (ts.set j (.mk k n s us)) := by
 simp [rowsOf, Tm.enc, List.map_set]
theorem yt1 (xs : List Tm) : xU0 xs = slV (xs.map Tm.enc) := by rw [← encs_map]
abbrev fL0 (f : FuncId) (t : Tm) (p : List Int) (v : Tm) : Prop := Sat Tryz.prog f [tmV t, slV (p.map encI), tmV v] (tmV (ne0 p t v))
theorem yk1 (i : Int) (p : List Int) (hp : p.length < 10000000) (k n : Int) (s : ByteArray) (ts : List Tm) (hz : (Tm.mk k n s ts).size < 1048577) (v : Tm) (j : Nat) (hj : i = (j : Int)) (hjl : j < ts.length) (ih : fL0 142 ts[j] p v) : fL0 142 (.mk k n s ts) (i :: p) v := by
 have hcp := jW0 k n s ts hz
 have hln := zI0 ts
 simp only [Tm.size] at hz
 unfold fL0 at ih ⊢
 subst hj
 have e1 : ts.getD j zeroT = ts[j] := by rw [List.getD_eq_getElem?_getD, List.getElem?_eq_getElem hjl, Option.getD_some]
 simp only [ne0, Int.toNat_natCast]
 rw [e1]
 have hgt := zG0 ts j hjl
 have hgr := wL0 (ec := Tm.enc) hjl
 generalize ne0 p ts[j] v = r at ih ⊢
 generalize ts[j] = a at hgt ih hgr
 obtain ⟨ak, an, as', at_⟩ := a
 obtain ⟨rk, rn, rs, rt⟩ := r
 obtain ⟨vk, vn, vs, vt⟩ := v
 simp only [Tm.enc] at hgt
 simp only [Tm.enc, List.map_cons, List.map_nil] at hgr
 have hst := jK0 ts j rk rn rs rt
 have hdr : ∀ (x : List C) (l : List (List C)), List.drop (Int.toNat 1) (x :: l) = l := fun _ _ => rfl
 have hlm : (p.map encI).length < 10000000 := by rw [List.length_map]; exact hp
 refine soc zE0 zA0 Tryz.func142 ?_
 simp -implicitDefEqProofs only [go_sem, Tm.enc, List.map_cons, List.length_cons, encI]
 refine ⟨fun h => by omega, fun _ => CallK.out hcp rfl ?_⟩
 simp -implicitDefEqProofs only [go_sem, hgt, hjl, enc_len, List.map_cons, List.length_cons, List.length_map, List.getD_cons_zero, List.drop_succ_cons, List.drop_zero, hdr]
 refine ⟨by omega, fun _ => ⟨by omega, fun _ => ⟨⟨by omega, by omega, by simp [encI]⟩, fun _ => CallK.mk ih ?_⟩⟩⟩
 simp -implicitDefEqProofs only [go_sem, hgr, hjl, hst, rowsOf_len, rowsOf_toC, Tm.enc, List.map_cons, List.length_cons]
 exact ⟨by simp, fun _ => ⟨by simp, by simp [Tm.enc, encs_map, List.map_set]⟩⟩
theorem je1 (i : Int) (p : List Int) (k n : Int) (s : ByteArray) (ts : List Tm) (u : Tm) (h : atp (i :: p) (.mk k n s ts) = some u) : ∃ (j : Nat) (hj : j < ts.length), i = (j : Int) ∧ atp p ts[j] = some u := by
 simp only [atp] at h
 split at h
 ·rename_i hc
  simp only [Bool.and_eq_true, decide_eq_true_eq] at hc
  have hlt : i.toNat < ts.length := by omega
  rw [List.getD_eq_getElem?_getD, List.getElem?_eq_getElem hlt, Option.getD_some] at h
  exact ⟨i.toNat, hlt, by omega, h⟩
 ·cases h
theorem ny0 (t v : Tm) (hv : v.size < 1048577) : fL0 142 t [] v := by
 have hc := qk0 v hv
 unfold fL0
 simp only [ne0]
 obtain ⟨k, n, s, ts⟩ := t
 obtain ⟨vk, vn, vs, vt⟩ := v
 refine soc zE0 zA0 Tryz.func142 ?_
 simp -implicitDefEqProofs only [go_sem, Tm.enc, List.map_nil, List.length_nil]
 refine ⟨fun _ => CallK.mk hc ?_, fun h => by simp at h⟩
 refine fC0 ?_
 rfl
theorem fe0 (v : Tm) (hv : v.size < 1048577) : ∀ (p : List Int), p.length < 10000000 → ∀ (t u : Tm), t.size < 1048577 → atp p t = some u → fL0 142 t p v
 | [], _, t, u, _, _ => ny0 t v hv
 | i :: p, hp, .mk k n s ts, u, hz, h => by
  obtain ⟨j, hj, e, h2⟩ := je1 i p k n s ts u h
  have hs := vk0 k n s ts j hj
  simp only [List.length_cons] at hp
  exact yk1 i p (by omega) k n s ts hz v j e hj (fe0 v hv p (by omega) ts[j] u (by omega) h2)
theorem po0 (k n : Int) (s : ByteArray) (ts : List Tm) (hz : (Tm.mk k n s ts).size < 1048577) (v : Tm) (j : Nat) (hjl : j < ts.length) : Sat Tryz.prog 198 [tmV (.mk k n s ts), zH0 j, tmV v] (tmV (.mk k n s (ts.set j v))) := by
 have hln := zI0 ts
 simp only [Tm.size] at hz
 have hcl := cT0 ts (by omega)
 rw [← yt1] at hcl
 have hgr := wL0 (ec := Tm.enc) hjl
 generalize ts[j] = a at hgr
 obtain ⟨ak, an, as', at_⟩ := a
 obtain ⟨vk, vn, vs, vt⟩ := v
 simp only [Tm.enc, List.map_cons, List.map_nil] at hgr
 have hst := jK0 ts j vk vn vs vt
 refine soc zE0 zA0 Tryz.func198 ?_
 refine fC0 ?_
 refine CallK.out hcl rfl ?_
 simp -implicitDefEqProofs only [go_sem, hgr, hjl, hst, rowsOf_len, rowsOf_toC]
 refine ⟨by simp, fun _ => ⟨by simp, ?_⟩⟩
 simp [Tm.enc, encs_map, List.map_set]
theorem bz0 (p : GRule → Bool) : ∀ (rs : List GRule) (k : Int), 0 ≤ k → 0 ≤ rootI p rs k → ∃ (j : Nat) (h : j < rs.length), rootI p rs k = k + j ∧ p rs[j] = true
 | [], k, h0, h => by simp [rootI] at h
 | r :: rs, k, h0, h => by
  simp only [rootI] at h ⊢
  by_cases hp : p r = true
  ·rw [if_pos hp]
   exact ⟨0, by simp, by simp, by simpa using hp⟩
  ·rw [if_neg hp] at h ⊢
   obtain ⟨j, hj, h1, h2⟩ := bz0 p rs (k + 1) (by omega) h
   exact ⟨j + 1, by simpa using hj, by rw [h1]; omega, by simpa using h2⟩
def gP1 (d : GDefinition) (t : Tm) (q : Int × List Int) : Prop := q.2.length < 1000 ∧ ∃ (j : Nat) (hj : j < d.ru.length) (u : Tm), q.1 = (j : Int) ∧ atp q.2 t = some u ∧ tmOk u ∧ (fireI d.ru[j] u).isSome = true
def doB (d : GDefinition) (t : Tm) (q : Int × List Int) : Tm := ne0 q.2 t (fireT (d.ru.getD q.1.toNat ⟨sE, zeroT, zeroT, []⟩) ((atp q.2 t).getD zeroT))
def sj1 (d : GDefinition) (t : Tm) : Option Tm := match nextB d t with
 | none => none
 | some q => if (doB d t q).valid then some (doB d t q) else none
theorem rg0 (x : GRule) (hx : ruleOk x) (t : Tm) (ht : tmOk t) (h : (fireI x t).isSome = true) : (fireT x t).size ≤ 40000 ∧ (fireT x t).wf := by
 obtain ⟨bs, hb⟩ := Option.isSome_iff_exists.1 h
 have := fireI_ok x hx t ht bs hb
 rw [fireT_map, hb]
 exact ⟨this.1, this.2.1⟩
theorem zk1 (d : GDefinition) (hl : d.ru.length < 100000000) (hd : ∀ x, x ∈ d.ru → ruleOk x ∧ yb0 d.si x = true) (t : Tm) (hz : t.size < 1048577) (q : Int × List Int) (hq : gP1 d t q) : Sat Tryz.prog 70 [zn0 d.enc, tmV t, .agg [iC q.1, .c (.sl (q.2.map encI))]] (.tup [tmV (doB d t q), boolV (doB d t q).valid]) := by
 obtain ⟨k, p⟩ := q
 obtain ⟨hpl, j, hj, u, hk, hat, hu, hfi⟩ := hq
 simp only at hpl hk hat ⊢
 subst hk
 obtain ⟨hxo, hrb⟩ := hd _ (List.getElem_mem hj)
 have h1 := ff0 t hz p (by omega)
 have hfs := specFires_sat d.ru[j] hxo u hu
 have hfo := rg0 d.ru[j] hxo u hu hfi
 have h3 := fe0 (fireT d.ru[j] u) (by omega) p (by omega) t u hz hat
 have h4 := lH0 p t u (fireT d.ru[j] u) hat
 have h5 := qP0 (ne0 p t (fireT d.ru[j] u)) (by omega)
 have e : doB d t ((j : Int), p) = ne0 p t (fireT d.ru[j] u) := by
  unfold doB
  simp [hat, List.getD, hj]
 rw [e]
 rw [hat] at h1
 unfold fL0 at h3
 have hsm := fire_same d.si d.ru[j] u hrb
 rw [hfi] at hsm
 have hsb := fireS_sub d.si d.ru[j] u hrb hsm
 have hso := fireS_ok d.ru[j] hxo u hu
 have hgr := zD0 (ec := GRule.enc) hj
 generalize (ne0 p t (fireT d.ru[j] u)).valid = b at h5 ⊢
 generalize ne0 p t (fireT d.ru[j] u) = r at h3 h5 ⊢
 generalize fireT d.ru[j] u = v at h3 hsb
 generalize d.ru[j] = x at hfs hsm hsb hso hgr hxo
 generalize fireS x u = sb at hfs hsm hsb hso
 obtain ⟨sb, ok⟩ := sb
 simp only at hfs hsm hsb hso
 subst hsm
 have z1 := gsub_ok sb hso.1 x.ri hxo.2.1
 have hsu := jg0 sb (by omega) (fun b hb => by have := (hso.1 b hb).1; omega) x.ri (by have := hxo.2.1.1; omega)
 have hre := wn0 (x.ri.sub sb) z1.1
 rw [hsb] at hre
 clear z1
 generalize x.ri.sub sb = y1 at hsu hre
 simp only [Option.getD_some, Option.isSome_some] at h1
 obtain ⟨na, ⟨lk, ln, ls, lt⟩, ⟨ik, in_, is_, it⟩, gu⟩ := x
 obtain ⟨rk, rn, rs, rt⟩ := r
 obtain ⟨vk, vn, vs, vt⟩ := v
 obtain ⟨yk, yn, ys, yt⟩ := y1
 obtain ⟨k, n, s, ts⟩ := t
 obtain ⟨uk, un, us, ut⟩ := u
 have hde := dE' d
 simp only [GRule.enc, Tm.enc, encS, encL, List.cons_append, List.nil_append] at hgr
 refine soc zE0 zA0 Tryz.func70 ?_
 simp -implicitDefEqProofs only [go_sem, Tm.enc, hde]
 refine CallK.mk h1 ?_
 refine nW1 ?_
 refine CallK.mk hfs ?_
 refine nW1 ?_
 refine c7' hsu ?_
 refine c7' hre ?_
 refine c7' h3 ?_
 refine c7' h5 ?_
 rfl
end Go.Ai
