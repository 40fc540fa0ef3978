/- The next place where something fires. -/
import Derived.Test.YtphclghkljeaeaaGreatAiP5
import Derived.Test.YtphclghkljeaeaaGreatAiF1
import Derived.Test.YtphclghkljeaeaaGreatAiG1
import Derived.Test.YtphclghkljeaeaaGreatAiAccX
set_option linter.unusedVariables false
set_option linter.unusedSimpArgs false
namespace Go.Ai
open Go.Proofs
set_option maxRecDepth 100000
mutual
def rng (st : List GStrict) : Tm → Prop
 | .mk k _ s ts => (k = 2 → ∀ x, x ∈ zI0 st s → 0 ≤ x ∧ x.toNat < ts.length) ∧ rngs st ts
def rngs (st : List GStrict) : List Tm → Prop
 | [] => True
 | a :: ts => rng st a ∧ rngs st ts
end
theorem yf0 (st : List GStrict) : ∀ (ts : List Tm), rngs st ts → ∀ t, t ∈ ts → rng st t
 | [], _, t, h => by cases h
 | a :: ts, h, t, ht => by
  rcases List.mem_cons.1 ht with rfl | ht
  ·exact h.1
  ·exact yf0 st ts h.2 t ht
theorem kY1 (si : GSignature) (st : List GStrict) (hst : cy0 si st = true) (s : ByteArray) (o : GOp) (ho : zK0 si s = some o) (x : Int) (hx : x ∈ zI0 st s) : 0 ≤ x ∧ x.toNat < o.ar.length := by
 obtain ⟨y, hy, rfl⟩ := List.mem_map.1 hx
 obtain ⟨hy, he⟩ := List.mem_filter.1 hy
 obtain ⟨i, hi, rfl⟩ := List.mem_iff_getElem.1 hy
 have h1 := List.all_eq_true.1 hst i (List.mem_range.2 hi)
 have he : st[i].op = s := (qQ0 _ _).1 he
 simp only [bP0, List.getD_eq_getElem?_getD, List.getElem?_eq_getElem hi, Option.getD_some, Bool.and_eq_true, decide_eq_true_eq, he, ho] at h1
 omega
mutual
theorem kC1 (si : GSignature) (st : List GStrict) (hst : cy0 si st = true) : ∀ (t : Tm), t.nodes = true → eqS (t.sort si []) sE = false → rng st t
 | .mk k n s ts, hn, hs => by
  simp only [Tm.nodes, Bool.and_eq_true] at hn
  obtain ⟨hn, hns⟩ := hn
  by_cases hk : k = 2
  ·subst hk
   simp only [Tm.sort] at hs
   cases hf : zK0 si s with
   | none =>
    rw [hf] at hs
    exact absurd ((qQ0 sE sE).2 rfl) (by simpa using hs)
   | some o =>
    rw [hf] at hs
    by_cases hc : (o.ar.length == ts.length && Tm.sorts si [] ts o.ar) = true
    ·simp only [Bool.and_eq_true, beq_iff_eq] at hc
     refine ⟨fun _ x hx => ?_, rngs_of si st hst ts o.ar hns hc.1 hc.2⟩
     rw [← hc.1]
     exact kY1 si st hst s o hf x hx
    ·exfalso
     have hc : (o.ar.length == ts.length && Tm.sorts si [] ts o.ar) = false := by simpa using hc
     simp only [hc] at hs
     exact absurd ((qQ0 sE sE).2 rfl) (by simpa using hs)
  ·have hl : ts = [] := by
    apply List.eq_nil_of_length_eq_zero
    unfold fe0 at hn
    have hk2 : (k == 2) = false := by simpa using hk
    rw [hk2] at hn
    simp only [Bool.false_eq_true, if_false] at hn
    split at hn
    ·simp only [Bool.and_eq_true, beq_iff_eq] at hn; exact hn.2
    ·split at hn
     ·simp only [Bool.and_eq_true, beq_iff_eq] at hn; exact hn.2
     ·cases hn
   subst hl
   exact ⟨fun h => absurd h hk, trivial⟩
theorem rngs_of (si : GSignature) (st : List GStrict) (hst : cy0 si st = true) : ∀ (ts : List Tm) (xs : List ByteArray), Tm.nodess ts = true → xs.length = ts.length → Tm.sorts si [] ts xs = true → rngs st ts
 | [], _, _, _, _ => trivial
 | a :: ts, [], _, hl, _ => by simp at hl
 | a :: ts, x :: xs, hn, hl, hs => by
  simp only [Tm.nodess, Bool.and_eq_true] at hn
  simp only [Tm.sorts, Bool.and_eq_true] at hs
  exact ⟨kC1 si st hst a hn.1 (by simpa using hs.1.1), rngs_of si st hst ts xs hn.2 (by simpa using hl) hs.2⟩
end
theorem nv0 (d : GDefinition) (t : Tm) (h : yu0 d t = true) : rng d.st t := by
 simp only [yu0, dW0, Bool.and_eq_true] at h
 have h2 : t.nodes = true := by have := h.1.1.2; simp only [Tm.valid, Bool.and_eq_true] at this; exact this.2
 exact kC1 d.si d.st h.1.1.1.1.2 t h2 (by simpa using h.2)
def wh0 (rs : List (Option (Int × List Int))) : List Int → Option (Int × List Int)
 | [] => none
 | x :: xs => match rs.getD x.toNat none with
  | some q => some (q.1, x :: q.2)
  | none => wh0 rs xs
theorem rM0 (rs : List (Option (Int × List Int))) (xs : List Int) (i : Nat) (h : i < xs.length) : wh0 rs (xs.drop i) = match rs.getD xs[i].toNat none with
  | some q => some (q.1, xs[i] :: q.2)
  | none => wh0 rs (xs.drop (i + 1)) := by
 rw [List.drop_eq_getElem_cons h]; simp only [wh0]
mutual
def Tm.nxt (st : List GStrict) (root : Tm → Int) : Tm → Option (Int × List Int)
 | .mk k n s ts => match wh0 (Tm.nxts st root ts) (if k = 2 then zI0 st s else []) with
  | some q => some q
  | none => if root (.mk k n s ts) < 0 then none else some (root (.mk k n s ts), [])
def Tm.nxts (st : List GStrict) (root : Tm → Int) : List Tm → List (Option (Int × List Int))
 | [] => []
 | a :: ts => a.nxt st root :: Tm.nxts st root ts
end
theorem dz0 (st : List GStrict) (root : Tm → Int) : ∀ (ts : List Tm), Tm.nxts st root ts = ts.map (Tm.nxt st root)
 | [] => rfl
 | a :: ts => by simp only [Tm.nxts, List.map_cons, dz0 st root ts]
theorem pd0 (st : List GStrict) (root : Tm → Int) (ts : List Tm) (i : Nat) (h : i < ts.length) : (Tm.nxts st root ts).getD i none = ts[i].nxt st root := by
 rw [dz0]; simp [List.getD, h]
def rdx (path : List Int) : Option (Int × List Int) → List C
 | some q => [.v (.int .i64 q.1), .sl ((path ++ q.2).map encI)]
 | none => [.v (.int .i64 0), .sl []]
theorem kL0 (k n : Int) (s : ByteArray) (ts : List Tm) (h : kc0 (.mk k n s ts)) : ∀ t, t ∈ ts → kc0 t := by
 intro t ht
 refine ⟨(po0 k n s ts ⟨h.1, h.2.2⟩ t ht).1, ?_, (po0 k n s ts ⟨h.1, h.2.2⟩ t ht).2⟩
 have h2 := h.2.1
 simp only [Tm.cnt] at h2
 have : ∀ (ts : List Tm), t ∈ ts → t.cnt ≤ Tm.cnts ts := by
  intro ts
  induction ts with
  | nil => intro h; cases h
  | cons a ts ih =>
   intro h
   simp only [Tm.cnts]
   rcases List.mem_cons.1 h with rfl | h
   ·omega
   ·have := ih h; omega
 have := this ts ht
 omega
theorem tq0 (p : GRule → Bool) : ∀ (rs : List GRule) (k : Int), 0 ≤ k → -1 ≤ wx0 p rs k
 | [], _, _ => by simp [wx0]
 | r :: rs, k, h => by
  simp only [wx0]
  split
  ·omega
  ·exact tq0 p rs (k + 1) (by omega)
def yQ0 (d : GDefinition) (t : Tm) : Int := wx0 (fun x => (wn0 x t).isSome) d.ru 0
def pr1 (ro : Int) : Option (Int × List Int) → Option (Int × List Int)
 | some q => some q
 | none => if ro < 0 then none else some (ro, [])
abbrev gF1 (f : FuncId) (d : GDefinition) (t : Tm) : Prop := ∀ path : List Int, path.length + t.size < 1000000 → Sat Tryz.prog f [zz0 d.enc, tmV t, slV (path.map encI)] (.tup [zz0 (rdx path (t.nxt d.st (yQ0 d))), boolV (t.nxt d.st (yQ0 d)).isSome])
end Go.Ai
namespace Go.Ai
open Go.Proofs
set_option maxRecDepth 100000
theorem cK0 (rs : List (Option (Int × List Int))) (M : Nat) (h : ∀ i q, rs.getD i none = some q → q.2.length ≤ M) : ∀ (xs : List Int) (q : Int × List Int), wh0 rs xs = some q → q.2.length ≤ M + 1
 | [], q, h => by cases h
 | x :: xs, q, hq => by
  simp only [wh0] at hq
  cases hx : rs.getD x.toNat none with
  | none => rw [hx] at hq; exact cK0 rs M h xs q hq
  | some q' =>
   rw [hx] at hq
   have := h _ _ hx
   cases hq
   simp only [List.length_cons]; omega
theorem fB0 (rs : List (Option (Int × List Int))) (h : ∀ i : Nat, rs.getD i none = none) : ∀ (xs : List Int), wh0 rs xs = none
 | [] => rfl
 | x :: xs => by simp only [wh0, h]; exact fB0 rs h xs
theorem ja1 (st : List GStrict) (root : Tm → Int) : ∀ (t : Tm) (q : Int × List Int), t.nxt st root = some q → q.2.length ≤ t.size := by
 refine Tm.ind (fun k n s ts ih q hq => ?_)
 rw [Tm.nxt] at hq
 cases hf : wh0 (Tm.nxts st root ts) (if k = 2 then zI0 st s else []) with
 | some q' =>
  rw [hf] at hq
  cases hq
  by_cases hts : ts = []
  ·subst hts
   rw [fB0 _ (fun i => by simp [Tm.nxts])] at hf
   cases hf
  ·have := cK0 (Tm.nxts st root ts) (Tm.sizes ts - 1) (fun i q h => by
    rcases Nat.lt_or_ge i ts.length with hlt | hge
    ·rw [pd0 st root ts i hlt] at h
     have h1 := ih _ (List.getElem_mem hlt) q h
     have h2 := zQ0 ts _ (List.getElem_mem hlt)
     omega
    ·rw [dz0] at h
     simp [List.getD, hge] at h) _ _ hf
   have : 0 < ts.length := List.length_pos_iff.2 hts
   have := zH0 ts
   simp only [Tm.size]; omega
 | none =>
  rw [hf] at hq
  simp only at hq
  split at hq
  ·cases hq
  ·cases hq; simp
abbrev kJ0 (d : GDefinition) (t : Tm) : Prop := Sat Tryz.prog 145 [zz0 d.enc, tmV t] (.tup [zz0 (rdx [] (t.nxt d.st (yQ0 d))), boolV (t.nxt d.st (yQ0 d)).isSome])
theorem wK1 (d : GDefinition) (hl : d.ru.length < 100000000) (hls : d.st.length < 1048577) (hd : ∀ x, x ∈ d.ru → qS0 x ∧ qk0 d.si x = true) (k n : Int) (s : ByteArray) (ts : List Tm) (ht : kc0 (.mk k n s ts)) (hrg : rng d.st (.mk k n s ts)) (ih : ∀ t, t ∈ ts → kJ0 d t) : kJ0 d (.mk k n s ts) := by
 have hst := yi0 d hls s
 have hro := nA0 d hl (fun x hx => (hd x hx).1) (.mk k n s ts) ht
 have hre : wx0 (fun x => (jM0 x (.mk k n s ts)).2) d.ru 0 = yQ0 d (.mk k n s ts) := fw0 _ _ _ _ (fun x hx => vQ0 d.si x _ (hd x hx).2)
 rw [hre] at hro
 have hge := tq0 (fun x => (wn0 x (.mk k n s ts)).isSome) d.ru 0 (by omega)
 change -1 ≤ yQ0 d (.mk k n s ts) at hge
 have hmx := bJ0 (yQ0 d (.mk k n s ts)) 0
 obtain ⟨r, hr⟩ : ∃ r, r = (Tm.mk k n s ts).nxt d.st (yQ0 d) := ⟨_, rfl⟩
 unfold kJ0
 rw [← hr]
 have hr : r = pr1 (yQ0 d (.mk k n s ts)) (wh0 (Tm.nxts d.st (yQ0 d) ts) (if k = 2 then zI0 d.st s else [])) := by
  rw [hr, Tm.nxt]
  cases wh0 (Tm.nxts d.st (yQ0 d) ts) (if k = 2 then zI0 d.st s else []) <;> rfl
 have hxs : k = 2 → ∀ x, x ∈ zI0 d.st s → 0 ≤ x ∧ x.toNat < ts.length := hrg.1
 have hxl : (zI0 d.st s).length < 1048577 := by
  have := wl0 d.st s d.st.length
  rw [List.take_length] at this
  omega
 generalize zI0 d.st s = xs at hst hr hxs hxl
 generalize yQ0 d (.mk k n s ts) = ro at hro hr hge hmx
 have hts := zH0 ts
 have hz := ht.1
 simp only [Tm.size] at hz
 have hsz : ∀ t, t ∈ ts → t.size < 540 := fun t ht' => (kL0 k n s ts ht t ht').1
 have hnx := fun i hi => pd0 d.st (yQ0 d) ts i hi
 have hnl := fun t q => ja1 d.st (yQ0 d) t q
 have hde := dE' d
 refine soc zE0 zA0 Tryz.func145 ?_
 refine cJ1 ?_
 refine c9' hst ?_
 refine zB0 (ι := Nat) (fun i => mk 69 [(2, .one (.ptr 2 0)), (3, .one (.ptr 3 0)), (4, .one (.ptr 4 0)), (6, slV (xs.map encI)), (7, zG0 i)] [(2, .var [.c (.sl (d.si.so.map encS)), .c (.sl (d.si.op.map GOp.enc)), .c (.sl (d.ru.map GRule.enc)), .c (.sl (d.st.map GStrict.enc))]), (3, .var [iC k, iC n, sC s, tC ts]), (4, .var [iC 0, .nil])])
  (fun i => i ≤ xs.length ∧ (k = 2 → r = pr1 ro (wh0 (Tm.nxts d.st (yQ0 d) ts) (xs.drop i))) ∧ (¬ k = 2 → r = pr1 ro none)) (fun i => xs.length - i) 0 ⟨Nat.zero_le _, fun hk => by rw [hr, if_pos hk]; rfl, fun hk => by rw [hr, if_neg hk]; rfl⟩ ?_ zE0 zA0 (by decide +kernel) ?_
 ·exact lek
 ·have fin : ∀ i : Nat, r = pr1 ro none → True := fun _ _ => trivial
  rintro i ⟨hi, he, hen⟩
  rcases Nat.lt_or_ge i xs.length with hlt | hge'
  ·have hg := zD0 (ec := encI) hlt
   simp only [encI] at hg
   by_cases hk : k = 2
   ·replace he := he hk
    subst hk
    rw [rM0 _ xs i hlt] at he
    have hx := hxs rfl _ (List.getElem_mem hlt)
    obtain ⟨j, hj⟩ : ∃ j : Nat, xs[i] = (j : Int) := ⟨xs[i].toNat, by omega⟩
    rw [hj] at hg he hx
    simp only [Int.toNat_natCast] at he hx
    have hjl : j < ts.length := hx.2
    have hgt := zF0 ts j hjl
    have hih := ih _ (List.getElem_mem hjl)
    unfold kJ0 at hih
    have hql := hnl ts[j]
    have hsj := hsz _ (List.getElem_mem hjl)
    have hin := ww0 (j : Int) 0 ((ts.length : Int) - 1)
    rw [show (decide ((0 : Int) ≤ (j : Int)) && decide ((j : Int) ≤ (ts.length : Int) - 1)) = true by simp; omega] at hin
    rw [hnx j hjl] at he
    generalize ts[j] = a at hgt hih he hql hsj
    generalize a.nxt d.st (yQ0 d) = q at he hih hql
    obtain ⟨ak, an, as', at_⟩ := a
    simp only [Tm.enc] at hgt
    refine mj1 ?_
    refine CallK.mk hin ?_
    simp -implicitDefEqProofs (disch := omega) only [go_sem, hg, hlt, hgt, hjl, List.length_map, enc_len]
    refine CallK.mk hih ?_
    cases q with
    | none =>
     simp -implicitDefEqProofs (disch := omega) only [go_sem, rdx, Option.isSome_none, List.map_cons, List.map_nil]
     exact ⟨i + 1, ⟨hlt, he⟩, by omega, lek⟩
    | some q =>
     have hq2 := hql q rfl
     simp -implicitDefEqProofs (disch := omega) only [go_sem, rdx, Option.isSome_some, List.map_cons, List.map_nil, hg, hlt, List.length_map]
     have he : r = some (q.1, (j : Int) :: q.2) := he
     subst he
     exact ⟨⟨wy0 (fun _ => rfl), by omega, by omega⟩, fun _ => ⟨by omega, rfl⟩⟩
   ·have he := hen hk
    have hkb : (k == 2) = false := by simpa using hk
    simp -implicitDefEqProofs (disch := omega) only [go_sem, hlt, List.length_map, hkb]
    refine c0' hro ?_
    refine c0' hmx ?_
    subst he
    by_cases h0 : ro < 0
    ·have h1 : ro = -1 := by omega
     subst h1
     rfl
    ·have h2 : decide (0 ≤ ro) = true := by simp; omega
     have h3 : (if ro > 0 then ro else 0) = ro := by split <;> omega
     simp [pr1, h0, rdx, h3]
     omega
  ·have e1 : xs.drop i = [] := List.drop_of_length_le hge'
   rw [e1] at he
   have he : r = pr1 ro none := by
    by_cases hk : k = 2
    ·exact he hk
    ·exact hen hk
   simp -implicitDefEqProofs (disch := omega) only [go_sem, Nat.not_lt.2 hge', List.length_map]
   refine c0' hro ?_
   refine c0' hmx ?_
   subst he
   by_cases h0 : ro < 0
   ·have h1 : ro = -1 := by omega
    subst h1
    rfl
   ·have h2 : decide (0 ≤ ro) = true := by simp; omega
    have h3 : (if ro > 0 then ro else 0) = ro := by split <;> omega
    simp [pr1, h0, rdx, h3]
    omega
theorem mx0 (d : GDefinition) (hl : d.ru.length < 100000000) (hls : d.st.length < 1048577) (hd : ∀ x, x ∈ d.ru → qS0 x ∧ qk0 d.si x = true) : ∀ (t : Tm), kc0 t → rng d.st t → kJ0 d t :=
 Tm.ind (fun k n s ts ih h hr => wK1 d hl hls hd k n s ts h hr (fun t ht => ih t ht (kL0 k n s ts h t ht) (yf0 d.st ts hr.2 t ht)))
def fc0 (d : GDefinition) (t : Tm) : Option (Int × List Int) := if yu0 d t then t.nxt d.st (yQ0 d) else none
theorem xR0 (d : GDefinition) (hw : d.wf) (hs : d.size < 1048577) (t : Tm) (htw : t.wf) (ht : t.size < 30000000) : Sat Tryz.prog 71 [zz0 d.enc, tmV t] (.tup [zz0 (rdx [] (fc0 d t)), boolV (fc0 d t).isSome]) := by
 have hc := yT0 d hs t ht
 have hok := vH0 d hw t htw
 have hrg := nv0 d t
 have hl := qB0 GRule.size d.ru
 have hl2 := qB0 GStrict.size d.st
 have hs' := hs
 simp only [GDefinition.size] at hs'
 have hf := fun h => mx0 d (by omega) (by omega) (fun x hx => ⟨(hok h).1 x hx, (hok h).2.2 x hx⟩) t (hok h).2.1 (hrg h)
 unfold kJ0 at hf
 obtain ⟨r, hr⟩ : ∃ r, r = fc0 d t := ⟨_, rfl⟩
 rw [← hr]
 unfold fc0 at hr
 generalize t.nxt d.st (yQ0 d) = q at hf hr
 clear hok hrg
 generalize yu0 d t = b at hc hf hr
 obtain ⟨k2, n2, s2, ts2⟩ := t
 have hde := dE' d
 refine soc zE0 zA0 Tryz.func71 ?_
 refine dO1 ?_
 refine c7' hc ?_
 refine ⟨fun h => by rw [hr, h]; rfl, fun h => CallK.mk (hf h) ?_⟩
 have hr : r = q := by rw [hr, h]; rfl
 subst hr
 cases r with
 | none =>
  simp -implicitDefEqProofs only [go_sem, rdx, Option.isSome_none, List.map_cons, List.map_nil]
  rfl
 | some q =>
  simp -implicitDefEqProofs only [go_sem, rdx, Option.isSome_some, List.map_cons, List.map_nil, List.nil_append]
  rfl
end Go.Ai
