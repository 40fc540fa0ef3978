/- Subterms at positions, in the reference and in the program; a subterm is put in. -/
import Derived.Test.YtphclghkljeaeaaGreatAiG1
import Derived.Test.YtphclghkljeaeaaGreatAiI3
import Derived.Test.YtphclghkljeaeaaGreatAiP8
import Derived.Test.YtphclghkljeaeaaGreatAiP12
set_option linter.unusedVariables false
set_option linter.unusedSimpArgs false
namespace Go.Ai
open Go.Proofs
set_option maxRecDepth 100000
def atp : List Int → Tm → Option Tm
 | [], t => some t
 | i :: p, .mk _ _ _ ts => if decide (0 ≤ i) && decide (i < (ts.length : Int)) then atp p (ts.getD i.toNat zeroT) else none
def xc0 : List Int → Tm → Tm → Tm
 | [], _, u => u
 | i :: p, .mk k n s ts, u => .mk k n s (ts.set i.toNat (xc0 p (ts.getD i.toNat zeroT) u))
theorem vL1 (p : List Int) (i : Nat) (h : i < p.length) (k n : Int) (s : ByteArray) (ts : List Tm) : atp (p.drop i) (.mk k n s ts) = if decide (0 ≤ p[i]) && decide (p[i] < (ts.length : Int)) then atp (p.drop (i + 1)) (ts.getD p[i].toNat zeroT) else none := by
 rw [List.drop_eq_getElem_cons h]; rfl
theorem sW0 : ∀ (p : List Int) (t u : Tm), atp p t = some u → u.size ≤ t.size
 | [], t, u, h => by cases h; exact Nat.le_refl _
 | i :: p, .mk k n s ts, u, h => by
  simp only [atp] at h
  split at h
  ·rename_i hc
   simp only [Bool.and_eq_true, decide_eq_true_eq] at hc
   have hlt : i.toNat < ts.length := by omega
   have := sW0 p _ u h
   rw [List.getD_eq_getElem?_getD, List.getElem?_eq_getElem hlt, Option.getD_some] at this
   have h2 := zQ0 ts _ (List.getElem_mem hlt)
   simp only [Tm.size]; omega
  ·cases h
theorem xA0 (k n : Int) (s : ByteArray) (ts : List Tm) (i : Nat) (h : i < ts.length) : ts[i].size < (Tm.mk k n s ts).size := by
 have := zQ0 ts _ (List.getElem_mem h)
 simp only [Tm.size]; omega
theorem fz0 : ∀ (ts : List Tm) (i : Nat) (h : i < ts.length) (u : Tm), Tm.sizes (ts.set i u) + ts[i].size = Tm.sizes ts + u.size
 | t :: ts, 0, h, u => by simp [Tm.sizes]; omega
 | t :: ts, i + 1, h, u => by
  have := fz0 ts i (by simpa using h) u
  simp [Tm.sizes]; omega
theorem mJ0 : ∀ (p : List Int) (t u v : Tm), atp p t = some u → (xc0 p t v).size ≤ t.size + v.size
 | [], t, u, v, h => by simp [xc0]
 | i :: p, .mk k n s ts, u, v, h => by
  simp only [atp] at h
  split at h
  ·rename_i hc
   simp only [Bool.and_eq_true, decide_eq_true_eq] at hc
   have hlt : i.toNat < ts.length := by omega
   have e : ts.getD i.toNat zeroT = ts[i.toNat] := by rw [List.getD_eq_getElem?_getD, List.getElem?_eq_getElem hlt, Option.getD_some]
   have := mJ0 p _ u v h
   simp only [xc0, Tm.size]
   rw [e] at this ⊢
   have h2 := fz0 ts i.toNat hlt (xc0 p ts[i.toNat] v)
   omega
  ·cases h
theorem bK0 (t : Tm) (hz : t.size < 1048577) (p : List Int) (hp : p.length < 100000000) : Sat Tryz.prog 141 [tmV t, slV (p.map encI)] (.tup [tmV ((atp p t).getD zeroT), boolV (atp p t).isSome]) := by
 obtain ⟨r, hr⟩ : ∃ r, r = atp p t := ⟨_, rfl⟩
 rw [← hr]
 have hcp := fun u hu => qR0 u (Nat.lt_of_le_of_lt (sW0 p t u hu) hz)
 rw [← hr] at hcp
 obtain ⟨k, n, s, ts⟩ := t
 refine soc zE0 zA0 Tryz.func141 ?_
 refine kJ0 ?_
 refine zB0 (ι := Nat × Int × Int × ByteArray × List Tm) (fun i => mk 34 [(1, slV (p.map encI)), (2, .one (.ptr 2 0)), (4, .one (.ptr 4 0)), (6, zG0 i.1)] [(2, .var [iC i.2.1, iC i.2.2.1, sC i.2.2.2.1, tC i.2.2.2.2]), (4, .var zT)])
  (fun i => i.1 ≤ p.length ∧ (Tm.mk i.2.1 i.2.2.1 i.2.2.2.1 i.2.2.2.2).size < 1048577 ∧ r = atp (p.drop i.1) (.mk i.2.1 i.2.2.1 i.2.2.2.1 i.2.2.2.2)) (fun i => p.length - i.1) (0, k, n, s, ts) ⟨Nat.zero_le _, hz, by simpa using hr⟩ ?_ zE0 zA0 (by decide +kernel) ?_
 ·exact t3'
 ·rintro ⟨i, k, n, s, ts⟩ ⟨hi, hsz, he⟩
  simp only at hi hsz he
  have hln := zI0 ts
  have hsz' := hsz
  simp only [Tm.size] at hsz'
  rcases Nat.lt_or_ge i p.length with hlt | hge
  ·have hg := zF0 (ec := encI) hlt
   simp only [encI] at hg
   rw [vL1 p i hlt] at he
   generalize p[i] = x at hg he
   have hin := wR0 x 0 ((ts.length : Int) - 1)
   have e0 : (decide (0 ≤ x) && decide (x < (ts.length : Int))) = (decide (0 ≤ x) && decide (x ≤ (ts.length : Int) - 1)) := by
    congr 1; exact decide_eq_decide.2 (by omega)
   rw [e0] at he
   simp -implicitDefEqProofs (disch := omega) only [go_sem, hg, hlt, List.length_map, enc_len]
   refine CallK.mk hin ?_
   by_cases hc : (decide (0 ≤ x) && decide (x ≤ (ts.length : Int) - 1)) = true
   ·rw [if_pos hc] at he
    have hc' := hc
    simp only [Bool.and_eq_true, decide_eq_true_eq] at hc'
    obtain ⟨j, rfl⟩ : ∃ j : Nat, x = (j : Int) := ⟨x.toNat, by omega⟩
    have hjl : j < ts.length := by omega
    have e1 : ts.getD ((j : Int)).toNat zeroT = ts[j] := by rw [Int.toNat_natCast, List.getD_eq_getElem?_getD, List.getElem?_eq_getElem hjl, Option.getD_some]
    rw [e1] at he
    have hgt := zH0 ts j hjl
    have hsj := xA0 k n s ts j hjl
    generalize ts[j] = a at hgt he hsj
    obtain ⟨ak, an, as', at_⟩ := a
    simp only [Tm.enc] at hgt
    rw [hc]
    simp -implicitDefEqProofs (disch := omega) only [go_sem, hg, hlt, List.length_map, enc_len, hgt, hjl]
    exact ⟨(i + 1, ak, an, as', at_), ⟨hlt, by simp only; omega, he⟩, by simp only; omega, lek⟩
   ·rw [if_neg hc] at he
    have hc : (decide (0 ≤ x) && decide (x ≤ (ts.length : Int) - 1)) = false := by simpa using hc
    subst he
    rw [hc]
    simp -implicitDefEqProofs (disch := omega) only [go_sem, zeroT, Tm.enc, Tm.encs]
    rfl
  ·have e1 : p.drop i = [] := List.drop_of_length_le hge
   rw [e1] at he
   have he : r = some (.mk k n s ts) := he
   have hc := hcp _ he
   subst he
   refine nG0 ?_
   refine c4' hc ?_
   rfl
theorem vE0 (k n : Int) (s : ByteArray) (ts : List Tm) (hz : (Tm.mk k n s ts).size < 1048577) : SatO Tryz.prog 58 [tmV (.mk k n s ts)] 34 4 (rowsOf Tm.enc ts) (.agg [iC k, iC n, sC s, .own 0 ts.length]) := by
 have ih : ∀ t, t ∈ ts → Sat Tryz.prog 58 [tmV t] (tmV t) := fun t ht => qR0 t (by have := zQ0 ts t ht; simp only [Tm.size] at hz; omega)
 have hl : ts.length < 1048577 := by have := zI0 ts; simp only [Tm.size] at hz; omega
 refine qc0 [.agg [iC k, iC n, sC s, .own 0 ts.length]] rfl (by simp) zE0 zA0 Tryz.func58 rfl rfl rfl (by decide +kernel) (by decide +kernel) (Nat.le_of_ble_eq_true rfl) (by decide) zq0 zk0 rfl ?_
 refine kJ0 ?_
 refine zB0 (ι := Nat) (fun i => mk 25 [(1, .one (.ptr 1 0)), (2, .one (.ptr 2 0)), (3, .one (.own 5 (ts.take i).length)), (4, zG0 i)] [(1, .var [iC k, iC n, sC s, tC ts]), (2, .var zT), (5, .arr 34 4 (rowsOf Tm.enc (ts.take i)) false)])
  (fun i => i ≤ ts.length) (fun i => ts.length - i) 0 (Nat.zero_le _) ?_ zE0 zA0 (by decide +kernel) ?_
 ·exact fc1
 ·intro i hi
  have hln : (ts.take i).length ≤ ts.length := by rw [List.length_take]; omega
  rcases Nat.lt_or_ge i ts.length with hlt | hge
  ·have hg := zH0 ts i hlt
   have ht : ts.take (i + 1) = ts.take i ++ [ts[i]] := by rw [List.take_add_one, List.getElem?_eq_getElem hlt]; rfl
   refine kr1 ?_
   refine c0' (ih _ (List.getElem_mem hlt)) ?_
   refine ⟨⟨by simp [enc_len], by omega, by omega⟩, fun _ => ⟨i + 1, hlt, by omega, ?_⟩⟩
   rw [ht]
   generalize ts.take i = acc
   generalize ts[i] = a
   exact rt1
  ·have : i = ts.length := by omega
   subst this
   simp -implicitDefEqProofs (disch := omega) only [go_sem, Nat.lt_irrefl, List.take_length]
theorem kY0 (ts : List Tm) (j : Nat) (k n : Int) (s : ByteArray) (us : List Tm) : (rowsOf Tm.enc ts).set j [iC k, iC n, sC s, tC us] = rowsOf Tm.enc (ts.set j (.mk k n s us)) := by
 simp [rowsOf, Tm.enc, List.map_set]
theorem kY1 (xs : List Tm) : xm0 xs = slV (xs.map Tm.enc) := by rw [← encs_map]
abbrev fo0 (f : FuncId) (t : Tm) (p : List Int) (v : Tm) : Prop := Sat Tryz.prog f [tmV t, slV (p.map encI), tmV v] (tmV (xc0 p t v))
theorem kM1 (i : Int) (p : List Int) (hp : p.length < 10000000) (k n : Int) (s : ByteArray) (ts : List Tm) (hz : (Tm.mk k n s ts).size < 1048577) (v : Tm) (j : Nat) (hj : i = (j : Int)) (hjl : j < ts.length) (ih : fo0 142 ts[j] p v) : fo0 142 (.mk k n s ts) (i :: p) v := by
 have hcp := vE0 k n s ts hz
 have hln := zI0 ts
 simp only [Tm.size] at hz
 unfold fo0 at ih ⊢
 subst hj
 have e1 : ts.getD j zeroT = ts[j] := by rw [List.getD_eq_getElem?_getD, List.getElem?_eq_getElem hjl, Option.getD_some]
 simp only [xc0, Int.toNat_natCast]
 rw [e1]
 have hgt := zH0 ts j hjl
 have hgr := yT0 (ec := Tm.enc) hjl
 generalize xc0 p ts[j] v = r at ih ⊢
 generalize ts[j] = a at hgt ih hgr
 obtain ⟨ak, an, as', at_⟩ := a
 obtain ⟨rk, rn, rs, rt⟩ := r
 obtain ⟨vk, vn, vs, vt⟩ := v
 simp only [Tm.enc] at hgt
 simp only [Tm.enc, List.map_cons, List.map_nil] at hgr
 have hst := kY0 ts j rk rn rs rt
 have hdr : ∀ (x : List C) (l : List (List C)), List.drop (Int.toNat 1) (x :: l) = l := fun _ _ => rfl
 have hlm : (p.map encI).length < 10000000 := by rw [List.length_map]; exact hp
 refine soc zE0 zA0 Tryz.func142 ?_
 simp -implicitDefEqProofs only [go_sem, Tm.enc, List.map_cons, List.length_cons, encI]
 refine ⟨fun h => by omega, fun _ => CallK.out hcp rfl ?_⟩
 simp -implicitDefEqProofs only [go_sem, hgt, hjl, enc_len, List.map_cons, List.length_cons, List.length_map, List.getD_cons_zero, List.drop_succ_cons, List.drop_zero, hdr]
 refine ⟨by omega, fun _ => ⟨by omega, fun _ => ⟨⟨by omega, by omega, by simp [encI]⟩, fun _ => CallK.mk ih ?_⟩⟩⟩
 simp -implicitDefEqProofs only [go_sem, hgr, hjl, hst, rowsOf_len, rowsOf_toC, Tm.enc, List.map_cons, List.length_cons]
 exact ⟨by simp, fun _ => ⟨by simp, by simp [Tm.enc, encs_map, List.map_set]⟩⟩
theorem sV0 (i : Int) (p : List Int) (k n : Int) (s : ByteArray) (ts : List Tm) (u : Tm) (h : atp (i :: p) (.mk k n s ts) = some u) : ∃ (j : Nat) (hj : j < ts.length), i = (j : Int) ∧ atp p ts[j] = some u := by
 simp only [atp] at h
 split at h
 ·rename_i hc
  simp only [Bool.and_eq_true, decide_eq_true_eq] at hc
  have hlt : i.toNat < ts.length := by omega
  rw [List.getD_eq_getElem?_getD, List.getElem?_eq_getElem hlt, Option.getD_some] at h
  exact ⟨i.toNat, hlt, by omega, h⟩
 ·cases h
theorem sB0 (t v : Tm) (hv : v.size < 1048577) : fo0 142 t [] v := by
 have hc := qR0 v hv
 unfold fo0
 simp only [xc0]
 obtain ⟨k, n, s, ts⟩ := t
 obtain ⟨vk, vn, vs, vt⟩ := v
 refine soc zE0 zA0 Tryz.func142 ?_
 simp -implicitDefEqProofs only [go_sem, Tm.enc, List.map_nil, List.length_nil]
 refine ⟨fun _ => CallK.mk hc ?_, fun h => by simp at h⟩
 refine ff0 ?_
 rfl
theorem bI0 (v : Tm) (hv : v.size < 1048577) : ∀ (p : List Int), p.length < 10000000 → ∀ (t u : Tm), t.size < 1048577 → atp p t = some u → fo0 142 t p v
 | [], _, t, u, _, _ => sB0 t v hv
 | i :: p, hp, .mk k n s ts, u, hz, h => by
  obtain ⟨j, hj, e, h2⟩ := sV0 i p k n s ts u h
  have hs := xA0 k n s ts j hj
  simp only [List.length_cons] at hp
  exact kM1 i p (by omega) k n s ts hz v j e hj (bI0 v hv p (by omega) ts[j] u (by omega) h2)
theorem fQ0 (k n : Int) (s : ByteArray) (ts : List Tm) (hz : (Tm.mk k n s ts).size < 1048577) (v : Tm) (j : Nat) (hjl : j < ts.length) : Sat Tryz.prog 198 [tmV (.mk k n s ts), zG0 j, tmV v] (tmV (.mk k n s (ts.set j v))) := by
 have hln := zI0 ts
 simp only [Tm.size] at hz
 have hcl := dE0 ts (by omega)
 rw [← kY1] at hcl
 have hgr := yT0 (ec := Tm.enc) hjl
 generalize ts[j] = a at hgr
 obtain ⟨ak, an, as', at_⟩ := a
 obtain ⟨vk, vn, vs, vt⟩ := v
 simp only [Tm.enc, List.map_cons, List.map_nil] at hgr
 have hst := kY0 ts j vk vn vs vt
 refine soc zE0 zA0 Tryz.func198 ?_
 refine ff0 ?_
 refine CallK.out hcl rfl ?_
 simp -implicitDefEqProofs only [go_sem, hgr, hjl, hst, rowsOf_len, rowsOf_toC]
 refine ⟨by simp, fun _ => ⟨by simp, ?_⟩⟩
 simp [Tm.enc, encs_map, List.map_set]
theorem fH0 (rs : List (Option (Int × List Int))) : ∀ (xs : List Int) (q : Int × List Int), firstR rs xs = some q → ∃ x p, x ∈ xs ∧ q.2 = x :: p ∧ rs.getD x.toNat none = some (q.1, p)
 | [], q, h => by cases h
 | x :: xs, q, h => by
  simp only [firstR] at h
  cases hg : rs.getD x.toNat none with
  | none =>
   rw [hg] at h
   obtain ⟨y, p, h1, h2, h3⟩ := fH0 rs xs q h
   exact ⟨y, p, List.mem_cons_of_mem _ h1, h2, h3⟩
  | some q' =>
   rw [hg] at h
   cases h
   exact ⟨x, q'.2, List.mem_cons_self, rfl, hg⟩
theorem ch0 (p : GRule → Bool) : ∀ (rs : List GRule) (k : Int), 0 ≤ k → 0 ≤ rootI p rs k → ∃ (j : Nat) (h : j < rs.length), rootI p rs k = k + j ∧ p rs[j] = true
 | [], k, h0, h => by simp [rootI] at h
 | r :: rs, k, h0, h => by
  simp only [rootI] at h ⊢
  by_cases hp : p r = true
  ·rw [if_pos hp]
   exact ⟨0, by simp, by simp, by simpa using hp⟩
  ·rw [if_neg hp] at h ⊢
   obtain ⟨j, hj, h1, h2⟩ := ch0 p rs (k + 1) (by omega) h
   exact ⟨j + 1, by simpa using hj, by rw [h1]; omega, by simpa using h2⟩
def qc1 (d : GDefinition) (t : Tm) (q : Int × List Int) : Prop := q.2.length < 1000 ∧ ∃ (j : Nat) (hj : j < d.ru.length) (u : Tm), q.1 = (j : Int) ∧ atp q.2 t = some u ∧ tmOk u ∧ (fireI d.ru[j] u).isSome = true
def doB (d : GDefinition) (t : Tm) (q : Int × List Int) : Tm := xc0 q.2 t (fireT (d.ru.getD q.1.toNat ⟨sE, zeroT, zeroT, []⟩) ((atp q.2 t).getD zeroT))
def qT2 (d : GDefinition) (t : Tm) : Option Tm := match nextB d t with
 | none => none
 | some q => if (doB d t q).valid then some (doB d t q) else none
theorem dO0 (x : GRule) (hx : ruleOk x) (t : Tm) (ht : tmOk t) (h : (fireI x t).isSome = true) : (fireT x t).size ≤ 40000 ∧ (fireT x t).wf := by
 obtain ⟨bs, hb⟩ := Option.isSome_iff_exists.1 h
 have := fireI_ok x hx t ht bs hb
 rw [fireT_map, hb]
 exact ⟨this.1, this.2.1⟩
theorem cn0 (d : GDefinition) (hl : d.ru.length < 100000000) (hd : ∀ x, x ∈ d.ru → ruleOk x ∧ qz0 d.si x = true) (t : Tm) (hz : t.size < 1048577) (q : Int × List Int) (hq : qc1 d t q) : Sat Tryz.prog 70 [zW0 d.enc, tmV t, .agg [iC q.1, .c (.sl (q.2.map encI))]] (.tup [tmV (doB d t q), boolV (doB d t q).valid]) := by
 obtain ⟨k, p⟩ := q
 obtain ⟨hpl, j, hj, u, hk, hat, hu, hfi⟩ := hq
 simp only at hpl hk hat ⊢
 subst hk
 obtain ⟨hxo, hrb⟩ := hd _ (List.getElem_mem hj)
 have h1 := bK0 t hz p (by omega)
 have hfs := specFires_sat d.ru[j] hxo u hu
 have hfo := dO0 d.ru[j] hxo u hu hfi
 have h3 := bI0 (fireT d.ru[j] u) (by omega) p (by omega) t u hz hat
 have h4 := mJ0 p t u (fireT d.ru[j] u) hat
 have h5 := qL0 (xc0 p t (fireT d.ru[j] u)) (by omega)
 have e : doB d t ((j : Int), p) = xc0 p t (fireT d.ru[j] u) := by
  unfold doB
  simp [hat, List.getD, hj]
 rw [e]
 rw [hat] at h1
 unfold fo0 at h3
 have hsm := fire_same d.si d.ru[j] u hrb
 rw [hfi] at hsm
 have hsb := fireS_sub d.si d.ru[j] u hrb hsm
 have hso := fireS_ok d.ru[j] hxo u hu
 have hgr := zF0 (ec := GRule.enc) hj
 generalize (xc0 p t (fireT d.ru[j] u)).valid = b at h5 ⊢
 generalize xc0 p t (fireT d.ru[j] u) = r at h3 h5 ⊢
 generalize fireT d.ru[j] u = v at h3 hsb
 generalize d.ru[j] = x at hfs hsm hsb hso hgr hxo
 generalize fireS x u = sb at hfs hsm hsb hso
 obtain ⟨sb, ok⟩ := sb
 simp only at hfs hsm hsb hso
 subst hsm
 have z1 := gsub_ok sb hso.1 x.ri hxo.2.1
 have hsu := jq0 sb (by omega) (fun b hb => by have := (hso.1 b hb).1; omega) x.ri (by have := hxo.2.1.1; omega)
 have hre := ws0 (x.ri.sub sb) z1.1
 rw [hsb] at hre
 clear z1
 generalize x.ri.sub sb = y1 at hsu hre
 simp only [Option.getD_some, Option.isSome_some] at h1
 obtain ⟨na, ⟨lk, ln, ls, lt⟩, ⟨ik, in_, is_, it⟩, gu⟩ := x
 obtain ⟨rk, rn, rs, rt⟩ := r
 obtain ⟨vk, vn, vs, vt⟩ := v
 obtain ⟨yk, yn, ys, yt⟩ := y1
 obtain ⟨k, n, s, ts⟩ := t
 obtain ⟨uk, un, us, ut⟩ := u
 have hde := dE' d
 simp only [GRule.enc, Tm.enc, encS, encL, List.cons_append, List.nil_append] at hgr
 refine soc zE0 zA0 Tryz.func70 ?_
 simp -implicitDefEqProofs only [go_sem, Tm.enc, hde]
 refine CallK.mk h1 ?_
 refine si1 ?_
 refine CallK.mk hfs ?_
 refine si1 ?_
 refine c7' hsu ?_
 refine c7' hre ?_
 refine c7' h3 ?_
 refine c7' h5 ?_
 rfl
end Go.Ai
namespace Go.Ai
open Go.Proofs
set_option maxRecDepth 100000
theorem jh1 : ∀ (p : List Int) (t u v : Tm), atp p t = some u → t.wf → v.wf → (xc0 p t v).wf
 | [], t, u, v, h, h1, h2 => h2
 | i :: p, .mk k n s ts, u, v, h, h1, h2 => by
  obtain ⟨j, hj, rfl, h3⟩ := sV0 i p k n s ts u h
  obtain ⟨w1, w2, w3, w4, w5⟩ := h1
  have hm := (wm0 ts).1 w5
  have e1 : ts.getD j zeroT = ts[j] := by rw [List.getD_eq_getElem?_getD, List.getElem?_eq_getElem hj, Option.getD_some]
  have ih := jh1 p ts[j] u v h3 (hm _ (List.getElem_mem hj)) h2
  simp only [xc0, Int.toNat_natCast]
  rw [e1]
  refine ⟨w1, w2, w3, by simpa using w4, (wm0 _).2 (fun a ha => ?_)⟩
  rcases List.mem_or_eq_of_mem_set ha with ha | rfl
  ·exact hm a ha
  ·exact ih
theorem ba1 (d : GDefinition) (hd : ∀ x, x ∈ d.ru → ruleOk x) (t : Tm) (htw : t.wf) (q : Int × List Int) (hq : qc1 d t q) : (doB d t q).wf := by
 obtain ⟨k, p⟩ := q
 obtain ⟨hpl, j, hj, u, hk, hat, hu, hfi⟩ := hq
 simp only at hk hat
 subst hk
 have hfo := dO0 d.ru[j] (hd _ (List.getElem_mem hj)) u hu hfi
 have h4 := jh1 p t u (fireT d.ru[j] u) hat htw hfo.2
 unfold doB
 simpa only [hat, Option.getD_some, Int.toNat_natCast, List.getD_eq_getElem?_getD, List.getElem?_eq_getElem hj] using h4
end Go.Ai
