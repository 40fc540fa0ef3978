/- Subterms at positions, in the reference and in the program; a subterm is put in. -/
import Derived.Test.YtphclghkljeaeaaGreatAiG1
import Derived.Test.YtphclghkljeaeaaGreatAiI3
import Derived.Test.YtphclghkljeaeaaGreatAiP8
import Derived.Test.YtphclghkljeaeaaGreatAiP12
set_option linter.unusedVariables false
set_option linter.unusedSimpArgs false
namespace Go.Ai
open Go.Proofs
set_option maxRecDepth 100000
def atp : List Int → Tm → Option Tm
 | [], t => some t
 | i :: p, .mk _ _ _ ts => if decide (0 ≤ i) && decide (i < (ts.length : Int)) then atp p (ts.getD i.toNat qE0) else none
def xK0 : List Int → Tm → Tm → Tm
 | [], _, u => u
 | i :: p, .mk k n s ts, u => .mk k n s (ts.set i.toNat (xK0 p (ts.getD i.toNat qE0) u))
theorem sk0 (p : List Int) (i : Nat) (h : i < p.length) (k n : Int) (s : ByteArray) (ts : List Tm) : atp (p.drop i) (.mk k n s ts) = if decide (0 ≤ p[i]) && decide (p[i] < (ts.length : Int)) then atp (p.drop (i + 1)) (ts.getD p[i].toNat qE0) else none := by
 rw [List.drop_eq_getElem_cons h]; rfl
theorem sm0 : ∀ (p : List Int) (t u : Tm), atp p t = some u → u.size ≤ t.size
 | [], t, u, h => by cases h; exact Nat.le_refl _
 | i :: p, .mk k n s ts, u, h => by
  simp only [atp] at h
  split at h
  ·rename_i hc
   simp only [Bool.and_eq_true, decide_eq_true_eq] at hc
   have hlt : i.toNat < ts.length := by omega
   have := sm0 p _ u h
   rw [List.getD_eq_getElem?_getD, List.getElem?_eq_getElem hlt, Option.getD_some] at this
   have h2 := zQ0 ts _ (List.getElem_mem hlt)
   simp only [Tm.size]; omega
  ·cases h
theorem pe0 (k n : Int) (s : ByteArray) (ts : List Tm) (i : Nat) (h : i < ts.length) : ts[i].size < (Tm.mk k n s ts).size := by
 have := zQ0 ts _ (List.getElem_mem h)
 simp only [Tm.size]; omega
theorem mo0 : ∀ (ts : List Tm) (i : Nat) (h : i < ts.length) (u : Tm), Tm.sizes (ts.set i u) + ts[i].size = Tm.sizes ts + u.size
 | t :: ts, 0, h, u => by simp [Tm.sizes]; omega
 | t :: ts, i + 1, h, u => by
  have := mo0 ts i (by simpa using h) u
  simp [Tm.sizes]; omega
theorem vX0 : ∀ (p : List Int) (t u v : Tm), atp p t = some u → (xK0 p t v).size ≤ t.size + v.size
 | [], t, u, v, h => by simp [xK0]
 | i :: p, .mk k n s ts, u, v, h => by
  simp only [atp] at h
  split at h
  ·rename_i hc
   simp only [Bool.and_eq_true, decide_eq_true_eq] at hc
   have hlt : i.toNat < ts.length := by omega
   have e : ts.getD i.toNat qE0 = ts[i.toNat] := by rw [List.getD_eq_getElem?_getD, List.getElem?_eq_getElem hlt, Option.getD_some]
   have := vX0 p _ u v h
   simp only [xK0, Tm.size]
   rw [e] at this ⊢
   have h2 := mo0 ts i.toNat hlt (xK0 p ts[i.toNat] v)
   omega
  ·cases h
theorem bL0 (t : Tm) (hz : t.size < 1048577) (p : List Int) (hp : p.length < 100000000) : Sat Tryz.prog 141 [tmV t, slV (p.map encI)] (.tup [tmV ((atp p t).getD qE0), boolV (atp p t).isSome]) := by
 obtain ⟨r, hr⟩ : ∃ r, r = atp p t := ⟨_, rfl⟩
 rw [← hr]
 have hcp := fun u hu => qy0 u (Nat.lt_of_le_of_lt (sm0 p t u hu) hz)
 rw [← hr] at hcp
 obtain ⟨k, n, s, ts⟩ := t
 refine soc zE0 zA0 Tryz.func141 ?_
 refine jw0 ?_
 refine zB0 (ι := Nat × Int × Int × ByteArray × List Tm) (fun i => mk 34 [(1, slV (p.map encI)), (2, .one (.ptr 2 0)), (4, .one (.ptr 4 0)), (6, zG0 i.1)] [(2, .var [iC i.2.1, iC i.2.2.1, sC i.2.2.2.1, tC i.2.2.2.2]), (4, .var zT)])
  (fun i => i.1 ≤ p.length ∧ (Tm.mk i.2.1 i.2.2.1 i.2.2.2.1 i.2.2.2.2).size < 1048577 ∧ r = atp (p.drop i.1) (.mk i.2.1 i.2.2.1 i.2.2.2.1 i.2.2.2.2)) (fun i => p.length - i.1) (0, k, n, s, ts) ⟨Nat.zero_le _, hz, by simpa using hr⟩ ?_ zE0 zA0 (by decide +kernel) ?_
 ·exact t3'
 ·rintro ⟨i, k, n, s, ts⟩ ⟨hi, hsz, he⟩
  simp only at hi hsz he
  have hln := zH0 ts
  have hsz' := hsz
  simp only [Tm.size] at hsz'
  rcases Nat.lt_or_ge i p.length with hlt | hge
  ·have hg := zD0 (ec := encI) hlt
   simp only [encI] at hg
   rw [sk0 p i hlt] at he
   generalize p[i] = x at hg he
   have hin := ww0 x 0 ((ts.length : Int) - 1)
   have e0 : (decide (0 ≤ x) && decide (x < (ts.length : Int))) = (decide (0 ≤ x) && decide (x ≤ (ts.length : Int) - 1)) := by
    congr 1; exact decide_eq_decide.2 (by omega)
   rw [e0] at he
   refine mj1 ?_
   refine CallK.mk hin ?_
   by_cases hc : (decide (0 ≤ x) && decide (x ≤ (ts.length : Int) - 1)) = true
   ·rw [if_pos hc] at he
    have hc' := hc
    simp only [Bool.and_eq_true, decide_eq_true_eq] at hc'
    obtain ⟨j, rfl⟩ : ∃ j : Nat, x = (j : Int) := ⟨x.toNat, by omega⟩
    have hjl : j < ts.length := by omega
    have e1 : ts.getD ((j : Int)).toNat qE0 = ts[j] := by rw [Int.toNat_natCast, List.getD_eq_getElem?_getD, List.getElem?_eq_getElem hjl, Option.getD_some]
    rw [e1] at he
    have hgt := zF0 ts j hjl
    have hsj := pe0 k n s ts j hjl
    generalize ts[j] = a at hgt he hsj
    obtain ⟨ak, an, as', at_⟩ := a
    simp only [Tm.enc] at hgt
    rw [hc]
    simp -implicitDefEqProofs (disch := omega) only [go_sem, hg, hlt, List.length_map, enc_len, hgt, hjl]
    exact tR1
   ·rw [if_neg hc] at he
    have hc : (decide (0 ≤ x) && decide (x ≤ (ts.length : Int) - 1)) = false := by simpa using hc
    subst he
    rw [hc]
    simp -implicitDefEqProofs (disch := omega) only [go_sem, qE0, Tm.enc, Tm.encs]
    rfl
  ·have e1 : p.drop i = [] := List.drop_of_length_le hge
   rw [e1] at he
   have he : r = some (.mk k n s ts) := he
   have hc := hcp _ he
   subst he
   refine nT0 ?_
   refine CallK.mk hc ?_
   refine jw0 ?_
   rfl
theorem zw1 (t : Tm) (hz : t.size < 1048577) (p : List Int) (hp : p.length < 100000000) : Sat Tryz.prog 123 [tmV t, slV (p.map encI)] (.tup [tmV ((atp p t).getD qE0), boolV (atp p t).isSome]) := by
 obtain ⟨r, hr⟩ : ∃ r, r = atp p t := ⟨_, rfl⟩
 rw [← hr]
 obtain ⟨k, n, s, ts⟩ := t
 refine soc zE0 zA0 Tryz.func123 ?_
 simp -implicitDefEqProofs (disch := omega) only [go_sem, Tm.enc, List.length_map]
 refine zB0 (ι := Nat × Int × Int × ByteArray × List Tm) (fun i => mk 31 [(8, slV (p.map encI)), (2, .one (.ptr 2 0)), (4, .one (.ptr 4 0)), (9, zG0 p.length), (10, zG0 i.1)] [(2, .var [iC i.2.1, iC i.2.2.1, sC i.2.2.2.1, tC i.2.2.2.2]), (4, .var zT)])
  (fun i => i.1 ≤ p.length ∧ (Tm.mk i.2.1 i.2.2.1 i.2.2.2.1 i.2.2.2.2).size < 1048577 ∧ r = atp (p.drop i.1) (.mk i.2.1 i.2.2.1 i.2.2.2.1 i.2.2.2.2)) (fun i => p.length - i.1) (0, k, n, s, ts) ⟨Nat.zero_le _, hz, by simpa using hr⟩ ?_ zE0 zA0 (by decide +kernel) ?_
 ·exact t3'
 ·rintro ⟨i, k, n, s, ts⟩ ⟨hi, hsz, he⟩
  simp only at hi hsz he
  have hln := zH0 ts
  have hsz' := hsz
  simp only [Tm.size] at hsz'
  rcases Nat.lt_or_ge i p.length with hlt | hge
  ·have hg := zD0 (ec := encI) hlt
   simp only [encI] at hg
   rw [sk0 p i hlt] at he
   generalize p[i] = x at hg he
   by_cases hc : (decide (0 ≤ x) && decide (x < (ts.length : Int))) = true
   ·rw [if_pos hc] at he
    simp only [Bool.and_eq_true, decide_eq_true_eq] at hc
    obtain ⟨j, rfl⟩ : ∃ j : Nat, x = (j : Int) := ⟨x.toNat, by omega⟩
    have hjl : j < ts.length := by omega
    have e1 : ts.getD ((j : Int)).toNat qE0 = ts[j] := by rw [Int.toNat_natCast, List.getD_eq_getElem?_getD, List.getElem?_eq_getElem hjl, Option.getD_some]
    rw [e1] at he
    have hgt := zF0 ts j hjl
    have hsj := pe0 k n s ts j hjl
    generalize ts[j] = a at hgt he hsj
    obtain ⟨ak, an, as', at_⟩ := a
    simp only [Tm.enc] at hgt
    have hjn : ¬ (j : Int) < 0 := by omega
    have hjm : ¬ ts.length ≤ j := by omega
    simp -implicitDefEqProofs (disch := omega) only [go_sem, hg, hlt, List.length_map, enc_len, hgt, hjl, hjm]
    exact tR1
   ·rw [if_neg hc] at he
    subst he
    have hc2 : x < 0 ∨ (ts.length : Int) ≤ x := by
     simp only [Bool.and_eq_true, decide_eq_true_eq] at hc
     omega
    refine mj1 ?_
    exact ⟨fun h => ⟨fun _ => rfl, fun h2 => by omega⟩, fun _ => rfl⟩
  ·have e1 : p.drop i = [] := List.drop_of_length_le hge
   rw [e1] at he
   have he : r = some (.mk k n s ts) := he
   subst he
   refine nT0 ?_
   rfl
theorem ri0 (k n : Int) (s : ByteArray) (ts : List Tm) (hz : (Tm.mk k n s ts).size < 1048577) : SatO Tryz.prog 58 [tmV (.mk k n s ts)] 34 4 (rowsOf Tm.enc ts) (.agg [iC k, iC n, sC s, .own 0 ts.length]) := by
 have ih : ∀ t, t ∈ ts → Sat Tryz.prog 58 [tmV t] (tmV t) := fun t ht => qy0 t (by have := zQ0 ts t ht; simp only [Tm.size] at hz; omega)
 have hl : ts.length < 1048577 := by have := zH0 ts; simp only [Tm.size] at hz; omega
 refine qT0 [.agg [iC k, iC n, sC s, .own 0 ts.length]] rfl (by simp) zE0 zA0 Tryz.func58 rfl rfl rfl (by decide +kernel) (by decide +kernel) (Nat.le_of_ble_eq_true rfl) (by decide) zb0 zS0 rfl ?_
 refine jw0 ?_
 refine zB0 (ι := Nat) (fun i => mk 25 [(1, .one (.ptr 1 0)), (2, .one (.ptr 2 0)), (3, .one (.own 5 (ts.take i).length)), (4, zG0 i)] [(1, .var [iC k, iC n, sC s, tC ts]), (2, .var zT), (5, .arr 34 4 (rowsOf Tm.enc (ts.take i)) false)])
  (fun i => i ≤ ts.length) (fun i => ts.length - i) 0 (Nat.zero_le _) ?_ zE0 zA0 (by decide +kernel) ?_
 ·exact fs1
 ·intro i hi
  have hln : (ts.take i).length ≤ ts.length := by rw [List.length_take]; omega
  rcases Nat.lt_or_ge i ts.length with hlt | hge
  ·have hg := zF0 ts i hlt
   have ht : ts.take (i + 1) = ts.take i ++ [ts[i]] := by rw [List.take_add_one, List.getElem?_eq_getElem hlt]; rfl
   refine cK1 ?_
   refine c0' (ih _ (List.getElem_mem hlt)) ?_
   refine ⟨⟨by simp [enc_len], by omega, by omega⟩, fun _ => ⟨i + 1, hlt, by omega, ?_⟩⟩
   rw [ht]
   generalize ts.take i = acc
   generalize ts[i] = a
   exact le_mk (by simp [go_sem]) (by simp [go_sem, zT]; exact rowsOf_snoc a)
  ·have : i = ts.length := by omega
   subst this
   simp -implicitDefEqProofs (disch := omega) only [go_sem, Nat.lt_irrefl, List.take_length]
theorem cr0 (ts : List Tm) (j : Nat) (k n : Int) (s : ByteArray) (us : List Tm) : (rowsOf Tm.enc ts).set j [iC k, iC n, sC s, tC us] = rowsOf Tm.enc (ts.set j (.mk k n s us)) := by
 simp [rowsOf, Tm.enc, List.map_set]
theorem kf1 (xs : List Tm) : xV0 xs = slV (xs.map Tm.enc) := by rw [← encs_map]
abbrev yd0 (f : FuncId) (t : Tm) (p : List Int) (v : Tm) : Prop := Sat Tryz.prog f [tmV t, slV (p.map encI), tmV v] (tmV (xK0 p t v))
theorem kT1 (i : Int) (p : List Int) (hp : p.length < 10000000) (k n : Int) (s : ByteArray) (ts : List Tm) (hz : (Tm.mk k n s ts).size < 1048577) (v : Tm) (j : Nat) (hj : i = (j : Int)) (hjl : j < ts.length) (ih : yd0 142 ts[j] p v) : yd0 142 (.mk k n s ts) (i :: p) v := by
 have hcp := ri0 k n s ts hz
 have hln := zH0 ts
 simp only [Tm.size] at hz
 unfold yd0 at ih ⊢
 subst hj
 have e1 : ts.getD j qE0 = ts[j] := by rw [List.getD_eq_getElem?_getD, List.getElem?_eq_getElem hjl, Option.getD_some]
 simp only [xK0, Int.toNat_natCast]
 rw [e1]
 have hgt := zF0 ts j hjl
 have hgr := jF0 (ec := Tm.enc) hjl
 generalize xK0 p ts[j] v = r at ih ⊢
 generalize ts[j] = a at hgt ih hgr
 obtain ⟨ak, an, as', at_⟩ := a
 obtain ⟨rk, rn, rs, rt⟩ := r
 obtain ⟨vk, vn, vs, vt⟩ := v
 simp only [Tm.enc] at hgt
 simp only [Tm.enc, List.map_cons, List.map_nil] at hgr
 have hst := cr0 ts j rk rn rs rt
 have hdr : ∀ (x : List C) (l : List (List C)), List.drop (Int.toNat 1) (x :: l) = l := fun _ _ => rfl
 have hlm : (p.map encI).length < 10000000 := by rw [List.length_map]; exact hp
 refine soc zE0 zA0 Tryz.func142 ?_
 simp -implicitDefEqProofs only [go_sem, Tm.enc, List.map_cons, List.length_cons, encI]
 refine ⟨fun h => by omega, fun _ => CallK.out hcp rfl ?_⟩
 simp -implicitDefEqProofs only [go_sem, hgt, hjl, enc_len, List.map_cons, List.length_cons, List.length_map, List.getD_cons_zero, List.drop_succ_cons, List.drop_zero, hdr]
 refine ⟨by omega, fun _ => ⟨by omega, fun _ => ⟨⟨by omega, by omega, by simp [encI]⟩, fun _ => CallK.mk ih ?_⟩⟩⟩
 simp -implicitDefEqProofs only [go_sem, hgr, hjl, hst, rowsOf_len, rowsOf_toC, Tm.enc, List.map_cons, List.length_cons]
 exact ⟨by simp, fun _ => ⟨by simp, by simp [Tm.enc, encs_map, List.map_set]⟩⟩
theorem dH0 (i : Int) (p : List Int) (k n : Int) (s : ByteArray) (ts : List Tm) (u : Tm) (h : atp (i :: p) (.mk k n s ts) = some u) : ∃ (j : Nat) (hj : j < ts.length), i = (j : Int) ∧ atp p ts[j] = some u := by
 simp only [atp] at h
 split at h
 ·rename_i hc
  simp only [Bool.and_eq_true, decide_eq_true_eq] at hc
  have hlt : i.toNat < ts.length := by omega
  rw [List.getD_eq_getElem?_getD, List.getElem?_eq_getElem hlt, Option.getD_some] at h
  exact ⟨i.toNat, hlt, by omega, h⟩
 ·cases h
theorem sQ0 (t v : Tm) (hv : v.size < 1048577) : yd0 142 t [] v := by
 have hc := qy0 v hv
 unfold yd0
 simp only [xK0]
 obtain ⟨k, n, s, ts⟩ := t
 obtain ⟨vk, vn, vs, vt⟩ := v
 refine soc zE0 zA0 Tryz.func142 ?_
 simp -implicitDefEqProofs only [go_sem, Tm.enc, List.map_nil, List.length_nil]
 refine ⟨fun _ => CallK.mk hc ?_, fun h => by simp at h⟩
 refine pL0 ?_
 rfl
theorem bK0 (v : Tm) (hv : v.size < 1048577) : ∀ (p : List Int), p.length < 10000000 → ∀ (t u : Tm), t.size < 1048577 → atp p t = some u → yd0 142 t p v
 | [], _, t, u, _, _ => sQ0 t v hv
 | i :: p, hp, .mk k n s ts, u, hz, h => by
  obtain ⟨j, hj, e, h2⟩ := dH0 i p k n s ts u h
  have hs := pe0 k n s ts j hj
  simp only [List.length_cons] at hp
  exact kT1 i p (by omega) k n s ts hz v j e hj (bK0 v hv p (by omega) ts[j] u (by omega) h2)
theorem fO0 (k n : Int) (s : ByteArray) (ts : List Tm) (hz : (Tm.mk k n s ts).size < 1048577) (v : Tm) (j : Nat) (hjl : j < ts.length) : Sat Tryz.prog 198 [tmV (.mk k n s ts), zG0 j, tmV v] (tmV (.mk k n s (ts.set j v))) := by
 have hln := zH0 ts
 simp only [Tm.size] at hz
 have hcl := dR0 ts (by omega)
 rw [← kf1] at hcl
 have hgr := jF0 (ec := Tm.enc) hjl
 generalize ts[j] = a at hgr
 obtain ⟨ak, an, as', at_⟩ := a
 obtain ⟨vk, vn, vs, vt⟩ := v
 simp only [Tm.enc, List.map_cons, List.map_nil] at hgr
 have hst := cr0 ts j vk vn vs vt
 refine soc zE0 zA0 Tryz.func198 ?_
 refine pL0 ?_
 refine CallK.out hcl rfl ?_
 simp -implicitDefEqProofs only [go_sem, hgr, hjl, hst, rowsOf_len, rowsOf_toC]
 refine ⟨by simp, fun _ => ⟨by simp, ?_⟩⟩
 simp [Tm.enc, encs_map, List.map_set]
theorem rY0 (t v : Tm) : yd0 124 t [] v := by
 unfold yd0
 simp only [xK0]
 obtain ⟨k, n, s, ts⟩ := t
 obtain ⟨vk, vn, vs, vt⟩ := v
 refine soc zE0 zA0 Tryz.func124 ?_
 simp -implicitDefEqProofs only [go_sem, Tm.enc, List.map_nil, List.length_nil]
 exact ⟨fun _ => rfl, fun h => by simp at h⟩
theorem yw1 (i : Int) (p : List Int) (hp : p.length < 10000000) (k n : Int) (s : ByteArray) (ts : List Tm) (hz : (Tm.mk k n s ts).size < 1048577) (v : Tm) (j : Nat) (hj : i = (j : Int)) (hjl : j < ts.length) (ih : yd0 124 ts[j] p v) : yd0 124 (.mk k n s ts) (i :: p) v := by
 have hln := zH0 ts
 unfold yd0 at ih ⊢
 subst hj
 have e1 : ts.getD j qE0 = ts[j] := by rw [List.getD_eq_getElem?_getD, List.getElem?_eq_getElem hjl, Option.getD_some]
 simp only [xK0, Int.toNat_natCast]
 rw [e1]
 have hgt := zF0 ts j hjl
 have hwa := fO0 k n s ts hz (xK0 p ts[j] v) j hjl
 simp only [Tm.size] at hz
 generalize xK0 p ts[j] v = r at ih hwa ⊢
 generalize ts[j] = a at hgt ih
 generalize ts.set j r = ts' at hwa ⊢
 obtain ⟨ak, an, as', at_⟩ := a
 obtain ⟨rk, rn, rs, rt⟩ := r
 obtain ⟨vk, vn, vs, vt⟩ := v
 simp only [Tm.enc] at hgt
 have hdr : ∀ (x : List C) (l : List (List C)), List.drop (Int.toNat 1) (x :: l) = l := fun _ _ => rfl
 have hlm : (p.map encI).length < 10000000 := by rw [List.length_map]; exact hp
 refine soc zE0 zA0 Tryz.func124 ?_
 simp -implicitDefEqProofs only [go_sem, Tm.enc, List.map_cons, List.length_cons, encI, hgt, hjl, enc_len, List.length_map, List.getD_cons_zero, List.drop_succ_cons, List.drop_zero, hdr]
 refine ⟨fun h => by omega, fun _ => ?_⟩
 refine ⟨by omega, fun _ => ⟨by omega, fun _ => ⟨⟨by omega, by omega, by simp [encI]⟩, fun _ => CallK.mk ih ?_⟩⟩⟩
 refine pL0 ?_
 refine c4' hwa ?_
 rfl
theorem fM0 (v : Tm) : ∀ (p : List Int), p.length < 10000000 → ∀ (t u : Tm), t.size < 1048577 → atp p t = some u → yd0 124 t p v
 | [], _, t, u, _, _ => rY0 t v
 | i :: p, hp, .mk k n s ts, u, hz, h => by
  obtain ⟨j, hj, e, h2⟩ := dH0 i p k n s ts u h
  have hs := pe0 k n s ts j hj
  simp only [List.length_cons] at hp
  exact yw1 i p (by omega) k n s ts hz v j e hj (fM0 v p (by omega) ts[j] u (by omega) h2)
theorem kj0 (rs : List (Option (Int × List Int))) : ∀ (xs : List Int) (q : Int × List Int), wh0 rs xs = some q → ∃ x p, x ∈ xs ∧ q.2 = x :: p ∧ rs.getD x.toNat none = some (q.1, p)
 | [], q, h => by cases h
 | x :: xs, q, h => by
  simp only [wh0] at h
  cases hg : rs.getD x.toNat none with
  | none =>
   rw [hg] at h
   obtain ⟨y, p, h1, h2, h3⟩ := kj0 rs xs q h
   exact ⟨y, p, List.mem_cons_of_mem _ h1, h2, h3⟩
  | some q' =>
   rw [hg] at h
   cases h
   exact ⟨x, q'.2, List.mem_cons_self, rfl, hg⟩
theorem cn0 (p : GRule → Bool) : ∀ (rs : List GRule) (k : Int), 0 ≤ k → 0 ≤ wx0 p rs k → ∃ (j : Nat) (h : j < rs.length), wx0 p rs k = k + j ∧ p rs[j] = true
 | [], k, h0, h => by simp [wx0] at h
 | r :: rs, k, h0, h => by
  simp only [wx0] at h ⊢
  by_cases hp : p r = true
  ·rw [if_pos hp]
   exact ⟨0, by simp, by simp, by simpa using hp⟩
  ·rw [if_neg hp] at h ⊢
   obtain ⟨j, hj, h1, h2⟩ := cn0 p rs (k + 1) (by omega) h
   exact ⟨j + 1, by simpa using hj, by rw [h1]; omega, by simpa using h2⟩
theorem cH1 (st : List GStrict) (root : Tm → Int) : ∀ (t : Tm), kc0 t → rng st t → ∀ (q : Int × List Int), t.nxt st root = some q → ∃ u, atp q.2 t = some u ∧ kc0 u ∧ root u = q.1 ∧ 0 ≤ q.1 := by
 refine Tm.ind (fun k n s ts ih ht hrg q hq => ?_)
 rw [Tm.nxt] at hq
 cases hf : wh0 (Tm.nxts st root ts) (if k = 2 then zI0 st s else []) with
 | some q' =>
  rw [hf] at hq
  cases hq
  obtain ⟨x, p, hx, hp, hg⟩ := kj0 _ _ _ hf
  by_cases hk : k = 2
  ·rw [if_pos hk] at hx
   have hx2 := hrg.1 hk x hx
   rw [pd0 st root ts x.toNat hx2.2] at hg
   have hm := List.getElem_mem hx2.2
   obtain ⟨u, h1, h2, h3, h4⟩ := ih _ hm (kL0 k n s ts ht _ hm) (yf0 st ts hrg.2 _ hm) _ hg
   refine ⟨u, ?_, h2, h3, h4⟩
   rw [hp]
   simp only [atp]
   rw [if_pos (by simp; omega), List.getD_eq_getElem?_getD, List.getElem?_eq_getElem hx2.2, Option.getD_some]
   exact h1
  ·rw [if_neg hk] at hx
   cases hx
 | none =>
  rw [hf] at hq
  simp only at hq
  split at hq
  ·cases hq
  ·rename_i hn
   cases hq
   exact ⟨_, rfl, ht, rfl, by omega⟩
def bk0 (d : GDefinition) (t : Tm) (q : Int × List Int) : Prop := q.2.length < 1000 ∧ ∃ (j : Nat) (hj : j < d.ru.length) (u : Tm), q.1 = (j : Int) ∧ atp q.2 t = some u ∧ kc0 u ∧ (wn0 d.ru[j] u).isSome = true
theorem fK1 (d : GDefinition) (hw : d.wf) (t : Tm) (htw : t.wf) (q : Int × List Int) (h : fc0 d t = some q) : yu0 d t = true ∧ bk0 d t q := by
 unfold fc0 at h
 split at h
 ·rename_i hc
  have hok := vH0 d hw t htw hc
  obtain ⟨u, h1, h2, h3, h4⟩ := cH1 d.st (yQ0 d) t hok.2.1 (nv0 d t hc) q h
  have hlen := ja1 d.st (yQ0 d) t q h
  have := hok.2.1.1
  rw [← h3] at h4
  obtain ⟨j, hj, e1, e2⟩ := cn0 (fun x => (wn0 x u).isSome) d.ru 0 (by omega) h4
  refine ⟨hc, by omega, j, hj, u, ?_, h1, h2, e2⟩
  rw [← h3]
  exact e1.trans (by omega)
 ·cases h
def doB (d : GDefinition) (t : Tm) (q : Int × List Int) : Tm := xK0 q.2 t (wL0 (d.ru.getD q.1.toNat ⟨sE, qE0, qE0, []⟩) ((atp q.2 t).getD qE0))
def bs0 (d : GDefinition) (t : Tm) : Option Tm := match fc0 d t with
 | none => none
 | some q => if (doB d t q).valid then some (doB d t q) else none
theorem pX0 (x : GRule) (hx : qS0 x) (t : Tm) (ht : kc0 t) (h : (wn0 x t).isSome = true) : (wL0 x t).size ≤ 40000 ∧ (wL0 x t).wf := by
 obtain ⟨bs, hb⟩ := Option.isSome_iff_exists.1 h
 have := vl1 x hx t ht bs hb
 rw [lc0, hb]
 exact ⟨this.1, this.2.1⟩
theorem zx1 (d : GDefinition) (hl : d.ru.length < 100000000) (hd : ∀ x, x ∈ d.ru → qS0 x) (t : Tm) (hz : t.size < 1048577) (q : Int × List Int) (hq : bk0 d t q) : Sat Tryz.prog 56 [zz0 d.enc, tmV t, .agg [iC q.1, .c (.sl (q.2.map encI))]] (.tup [tmV (doB d t q), boolV (doB d t q).valid]) := by
 obtain ⟨k, p⟩ := q
 obtain ⟨hpl, j, hj, u, hk, hat, hu, hfi⟩ := hq
 simp only at hpl hk hat ⊢
 subst hk
 have hxo := hd _ (List.getElem_mem hj)
 have h1 := zw1 t hz p (by omega)
 have h2 := xe0 d hl j hj hxo u hu
 have hfo := pX0 d.ru[j] hxo u hu hfi
 have h3 := fM0 (wL0 d.ru[j] u) p (by omega) t u hz hat
 have h4 := vX0 p t u (wL0 d.ru[j] u) hat
 have h5 := qX0 (xK0 p t (wL0 d.ru[j] u)) (by omega)
 have e : doB d t ((j : Int), p) = xK0 p t (wL0 d.ru[j] u) := by
  unfold doB
  simp [hat, List.getD, hj]
 rw [e]
 rw [hat] at h1
 unfold yd0 at h3
 rw [hfi] at h2
 generalize (xK0 p t (wL0 d.ru[j] u)).valid = b at h5 ⊢
 generalize xK0 p t (wL0 d.ru[j] u) = r at h3 h5 ⊢
 generalize wL0 d.ru[j] u = v at h2 h3
 simp only [Option.getD_some, Option.isSome_some] at h1
 obtain ⟨rk, rn, rs, rt⟩ := r
 obtain ⟨vk, vn, vs, vt⟩ := v
 obtain ⟨k, n, s, ts⟩ := t
 obtain ⟨uk, un, us, ut⟩ := u
 have hde := dE' d
 refine soc zE0 zA0 Tryz.func56 ?_
 refine dO1 ?_
 refine c4' h1 ?_
 refine c4' h2 ?_
 refine c4' h3 ?_
 refine c4' h5 ?_
 rfl
theorem xN0 (d : GDefinition) (hl : d.ru.length < 100000000) (hd : ∀ x, x ∈ d.ru → qS0 x ∧ qk0 d.si x = true) (t : Tm) (hz : t.size < 1048577) (q : Int × List Int) (hq : bk0 d t q) : Sat Tryz.prog 70 [zz0 d.enc, tmV t, .agg [iC q.1, .c (.sl (q.2.map encI))]] (.tup [tmV (doB d t q), boolV (doB d t q).valid]) := by
 obtain ⟨k, p⟩ := q
 obtain ⟨hpl, j, hj, u, hk, hat, hu, hfi⟩ := hq
 simp only at hpl hk hat ⊢
 subst hk
 obtain ⟨hxo, hrb⟩ := hd _ (List.getElem_mem hj)
 have h1 := bL0 t hz p (by omega)
 have hfs := jb0 d.ru[j] hxo u hu
 have hfo := pX0 d.ru[j] hxo u hu hfi
 have h3 := bK0 (wL0 d.ru[j] u) (by omega) p (by omega) t u hz hat
 have h4 := vX0 p t u (wL0 d.ru[j] u) hat
 have h5 := qa0 (xK0 p t (wL0 d.ru[j] u)) (by omega)
 have e : doB d t ((j : Int), p) = xK0 p t (wL0 d.ru[j] u) := by
  unfold doB
  simp [hat, List.getD, hj]
 rw [e]
 rw [hat] at h1
 unfold yd0 at h3
 have hsm := vQ0 d.si d.ru[j] u hrb
 rw [hfi] at hsm
 have hsb := yZ1 d.si d.ru[j] u hrb hsm
 have hso := vm1 d.ru[j] hxo u hu
 have hgr := zD0 (ec := GRule.enc) hj
 generalize (xK0 p t (wL0 d.ru[j] u)).valid = b at h5 ⊢
 generalize xK0 p t (wL0 d.ru[j] u) = r at h3 h5 ⊢
 generalize wL0 d.ru[j] u = v at h3 hsb
 generalize d.ru[j] = x at hfs hsm hsb hso hgr hxo
 generalize jM0 x u = sb at hfs hsm hsb hso
 obtain ⟨sb, ok⟩ := sb
 simp only at hfs hsm hsb hso
 subst hsm
 have z1 := vt0 sb hso.1 x.ri hxo.2.1
 have hsu := jc0 sb (by omega) (fun b hb => by have := (hso.1 b hb).1; omega) x.ri (by have := hxo.2.1.1; omega)
 have hre := we0 (x.ri.sub sb) z1.1
 rw [hsb] at hre
 clear z1
 generalize x.ri.sub sb = y1 at hsu hre
 simp only [Option.getD_some, Option.isSome_some] at h1
 obtain ⟨na, ⟨lk, ln, ls, lt⟩, ⟨ik, in_, is_, it⟩, gu⟩ := x
 obtain ⟨rk, rn, rs, rt⟩ := r
 obtain ⟨vk, vn, vs, vt⟩ := v
 obtain ⟨yk, yn, ys, yt⟩ := y1
 obtain ⟨k, n, s, ts⟩ := t
 obtain ⟨uk, un, us, ut⟩ := u
 have hde := dE' d
 simp only [GRule.enc, Tm.enc, encS, encL, List.cons_append, List.nil_append] at hgr
 refine soc zE0 zA0 Tryz.func70 ?_
 refine dO1 ?_
 refine CallK.mk h1 ?_
 refine sv1 ?_
 refine CallK.mk hfs ?_
 refine sv1 ?_
 refine c4' hsu ?_
 refine c4' hre ?_
 refine c4' h3 ?_
 refine c4' h5 ?_
 rfl
end Go.Ai
namespace Go.Ai
open Go.Proofs
set_option maxRecDepth 100000
theorem wN1 (d : GDefinition) (t : Tm) (q : Int × List Int) (h : fc0 d t = some q) : bs0 d t = if (doB d t q).valid then some (doB d t q) else none := by
 unfold bs0; rw [h]
theorem wM1 (d : GDefinition) (t : Tm) (h : fc0 d t = none) : bs0 d t = none := by
 unfold bs0; rw [h]
theorem ve1 (d : GDefinition) (hd : ∀ x, x ∈ d.ru → qS0 x) (t : Tm) (q : Int × List Int) (hq : bk0 d t q) : (doB d t q).size ≤ t.size + 40000 := by
 obtain ⟨k, p⟩ := q
 obtain ⟨hpl, j, hj, u, hk, hat, hu, hfi⟩ := hq
 simp only at hk hat
 subst hk
 have hfo := pX0 d.ru[j] (hd _ (List.getElem_mem hj)) u hu hfi
 have h4 := vX0 p t u (wL0 d.ru[j] u) hat
 unfold doB
 simp only [hat, Option.getD_some, Int.toNat_natCast, List.getD_eq_getElem?_getD, List.getElem?_eq_getElem hj]
 omega
theorem jm1 : ∀ (p : List Int) (t u v : Tm), atp p t = some u → t.wf → v.wf → (xK0 p t v).wf
 | [], t, u, v, h, h1, h2 => h2
 | i :: p, .mk k n s ts, u, v, h, h1, h2 => by
  obtain ⟨j, hj, rfl, h3⟩ := dH0 i p k n s ts u h
  obtain ⟨w1, w2, w3, w4, w5⟩ := h1
  have hm := (yr0 ts).1 w5
  have e1 : ts.getD j qE0 = ts[j] := by rw [List.getD_eq_getElem?_getD, List.getElem?_eq_getElem hj, Option.getD_some]
  have ih := jm1 p ts[j] u v h3 (hm _ (List.getElem_mem hj)) h2
  simp only [xK0, Int.toNat_natCast]
  rw [e1]
  refine ⟨w1, w2, w3, by simpa using w4, (yr0 _).2 (fun a ha => ?_)⟩
  rcases List.mem_or_eq_of_mem_set ha with ha | rfl
  ·exact hm a ha
  ·exact ih
theorem xy1 (d : GDefinition) (hd : ∀ x, x ∈ d.ru → qS0 x) (t : Tm) (htw : t.wf) (q : Int × List Int) (hq : bk0 d t q) : (doB d t q).wf := by
 obtain ⟨k, p⟩ := q
 obtain ⟨hpl, j, hj, u, hk, hat, hu, hfi⟩ := hq
 simp only at hk hat
 subst hk
 have hfo := pX0 d.ru[j] (hd _ (List.getElem_mem hj)) u hu hfi
 have h4 := jm1 p t u (wL0 d.ru[j] u) hat htw hfo.2
 unfold doB
 simpa only [hat, Option.getD_some, Int.toNat_natCast, List.getD_eq_getElem?_getD, List.getElem?_eq_getElem hj] using h4
theorem pP0 (d : GDefinition) (hw : d.wf) (hs : d.size < 1048577) (t : Tm) (htw : t.wf) (ht : t.size < 1048577) : Sat Tryz.prog 18 [zz0 d.enc, tmV t] (.tup [tmV ((bs0 d t).getD t), boolV (bs0 d t).isSome]) := by
 have hnx := xR0 d hw hs t htw (by omega)
 have hok := fun q hq => fK1 d hw t htw q hq
 have hcf := vH0 d hw t htw
 have hl := qB0 GRule.size d.ru
 have hs' := hs
 simp only [GDefinition.size] at hs'
 have hdo := fun q hq => xN0 d (by omega) (fun x hx => ⟨(hcf (hok q hq).1).1 x hx, (hcf (hok q hq).1).2.2 x hx⟩) t ht q (hok q hq).2
 have hcp := qy0 t ht
 have hst := wN1 d t
 have hsn := wM1 d t
 obtain ⟨r, hr⟩ : ∃ r, r = bs0 d t := ⟨_, rfl⟩
 rw [← hr] at hst hsn ⊢
 clear hok hcf hr
 generalize fc0 d t = q at hnx hdo hst hsn
 obtain ⟨k2, n2, s2, ts2⟩ := t
 have hde := dE' d
 refine soc zE0 zA0 Tryz.func18 ?_
 refine dO1 ?_
 refine CallK.mk hnx ?_
 cases q with
 | none =>
  have := hsn rfl
  subst this
  simp -implicitDefEqProofs only [go_sem, rdx, Option.isSome_none, List.map_cons, List.map_nil]
  refine c4' hcp ?_
  rfl
 | some q =>
  have hst := hst q rfl
  have hdo := hdo q rfl
  generalize (doB d (.mk k2 n2 s2 ts2) q).valid = b at hst hdo
  generalize doB d (.mk k2 n2 s2 ts2) q = v at hst hdo
  obtain ⟨vk, vn, vs, vt⟩ := v
  simp -implicitDefEqProofs only [go_sem, rdx, Option.isSome_some, List.map_cons, List.map_nil, List.nil_append]
  refine c4' hdo ?_
  refine ⟨fun h => CallK.mk hcp ?_, fun h => ?_⟩
  ·subst h
   simp only [Bool.false_eq_true, if_false] at hst
   subst hst
   refine pL0 ?_
   rfl
  ·subst h
   simp only [if_true] at hst
   subst hst
   rfl
end Go.Ai
