/- What is bound: the row of bindings is the caller's own. -/
import Derived.Test.YtphclghkljeaeaaGreatAiI3
import Derived.Test.YtphclghkljeaeaaGreatAiMarks
import Derived.Test.YtphclghkljeaeaaGreatAiU2
import Derived.Test.YtphclghkljeaeaaGreatAiU4
set_option linter.unusedVariables false
set_option linter.unusedSimpArgs false
namespace Go.Ai
open Go.Proofs
set_option maxRecDepth 100000
theorem wX1 (k n : Int) (s : ByteArray) (ts : List Tm) (hl : ts.length < 100000000) (ih : ∀ t, t ∈ ts → SatF Tryz.prog 58 [tmV t] (tmV t)) : SatF Tryz.prog 58 [tmV (.mk k n s ts)] (tmV (.mk k n s ts)) := by
 refine sfc [tmV (.mk k n s ts)] rfl (fun _ h => by cases h) zE0 zA0 Tryz.func58 ?_
 refine jj0 ?_
 refine zB0 (ι := Nat) (fun i => mk 25 [(1, .one (.ptr 1 0)), (2, .one (.ptr 2 0)), (3, .one (.own 5 i)), (4, zH0 i)] [(1, .var [iC k, iC n, sC s, tC ts]), (2, .var zT), (5, .arr 34 4 (zV0 Tm.enc (ts.take i)) false)])
  (fun i => i ≤ ts.length) (fun i => ts.length - i) 0 (Nat.zero_le _) ?_ zE0 zA0 (by decide +kernel) ?_
 ·exact le_mk (by simp [go_sem]) (by simp [go_sem, zT, zV0])
 ·intro i hi
  rcases Nat.lt_or_ge i ts.length with hlt | hge
  ·have hg := zG0 ts i hlt
   have hih := ih _ (List.getElem_mem hlt)
   have ht := wG0 Tm.enc ts i hlt
   have hdl : (zV0 Tm.enc (ts.take i)).length = i := by rw [drowsOf_len, List.length_take]; omega
   generalize ts[i] = a at hg hih ht
   obtain ⟨ak, an, as', at_⟩ := a
   simp only [Tm.enc, List.map_cons, List.map_nil, dC] at ht
   refine xE0 ?_
   refine CallK.own hih rfl ?_
   refine pr1 ?_
   refine ⟨⟨by simp, by omega, by omega⟩, fun _ => ⟨i + 1, by omega, by omega, (zx0 (l := 5) (c := 3) rfl rfl rfl rfl).trans ?_⟩⟩
   exact fQ1
  ·have : i = ts.length := by omega
   subst this
   simp -implicitDefEqProofs (disch := omega) only [go_sem, Nat.lt_irrefl, Tm.enc, List.take_length]
   exact ⟨by simp [zV0], (encs_map ts).symm⟩
theorem nN0 : ∀ (t : Tm), t.size < 100000000 → SatF Tryz.prog 58 [tmV t] (tmV t) := by
 refine Tm.ind (fun k n s ts ih h => wX1 k n s ts ?_ (fun t ht => ih t ht ?_))
 ·have := zI0 ts; simp only [Tm.size] at h; omega
 ·have := zQ0 ts t ht; simp only [Tm.size] at h; omega
theorem ca0 (bs : List GBind) (s : ByteArray) (hl : bs.length < 100000000) (hb : ∀ b, b ∈ bs → b.t.size < 1048577) : SatF Tryz.prog 215 [slV (bs.map GBind.enc), qg0 s] (.tup [tmV ((bnd bs s).getD zeroT), boolV (bnd bs s).isSome]) := by
 refine sfc [tmV ((bnd bs s).getD zeroT), boolV (bnd bs s).isSome] rfl (fun _ h => by cases h; rfl) zE0 zA0 Tryz.func215 ?_
 refine zr0 ?_
 refine CallK.mk (rs0 bs s hl) ?_
 cases h : bnd bs s with
 | none =>
  rw [pY0 bs s 0 h]
  refine zr0 ?_
  exact ⟨fun _ => by simp [go_sem, zeroT, Tm.enc, Tm.encs]; rfl, fun h => absurd (by decide) h⟩
 | some t =>
  obtain ⟨i, hi, h1, h2⟩ := vJ0 bs s 0 t h
  have h1' : sq0 bs s 0 = ((i : Nat) : Int) := by omega
  rw [h1']
  have hg := zD0 (ec := GBind.enc) hi
  have hbt := hb _ (List.getElem_mem hi)
  generalize bs[i] = x at hg h2 hbt
  obtain ⟨xna, xtk, xtn, xts, xtt⟩ := x
  simp only [GBind.enc, Tm.enc, encS, List.cons_append, List.nil_append] at hg
  simp only at h2 hbt
  subst h2
  simp -implicitDefEqProofs only [go_sem, hg, hi, List.length_map]
  have hc := nN0 (.mk xtk xtn xts xtt) (by omega)
  refine CallK.own hc rfl ?_
  refine fC0 ?_
  rfl
structure OB where
 b : GBind
 h : Value
def OB.enc : OB → List C
 | ⟨⟨na, .mk k n s _⟩, h⟩ => [.v (.string na), .v (.int .i64 k), .v (.int .i64 n), .v (.string s), .v h]
theorem OB.enc_len (x : OB) : x.enc.length = 5 := by obtain ⟨⟨na, ⟨k, n, s, ts⟩⟩, h⟩ := x; rfl
attribute [go_sem] OB.enc_len
def st0 : List OB → ByteArray → Option OB
 | [], _ => none
 | b :: bs, s => if eqS b.b.na s then some b else st0 bs s
theorem qW1 (bs : List OB) (s : ByteArray) (i : Nat) (h : i < bs.length) : st0 (bs.drop i) s = if eqS bs[i].b.na s then some bs[i] else st0 (bs.drop (i + 1)) s := by
 rw [List.drop_eq_getElem_cons h]; simp only [st0]
def gQ1 : Option OB → AV
 | some ⟨⟨_, .mk k n s _⟩, h⟩ => .agg [iC k, iC n, sC s, .c (.v h)]
 | none => tmV zeroT
theorem bQ0 (bs : List OB) (s : ByteArray) (hl : bs.length < 100000000) : Sat Tryz.prog 241 [slV (bs.map OB.enc), qg0 s] (.tup [gQ1 (st0 bs s), boolV (st0 bs s).isSome]) := by
 refine soc zE0 zA0 Tryz.func241 ?_
 refine qI0 ?_
 obtain ⟨r, hr⟩ : ∃ r, r = st0 bs s := ⟨_, rfl⟩
 rw [← hr]
 refine zB0 (ι := Nat) (fun i => mk 22 [(1, qg0 s), (4, .one (.ptr 4 0)), (5, boolV false), (8, slV (bs.map OB.enc)), (9, zH0 bs.length), (10, zH0 i)] [(4, .var zT)]) (fun i => i ≤ bs.length ∧ r = st0 (bs.drop i) s) (fun i => bs.length - i) 0 ⟨Nat.zero_le _, by simpa using hr⟩ ?_ zE0 zA0 (by decide +kernel) ?_
 ·exact t2'
 ·rintro i ⟨hi, he⟩
  rcases Nat.lt_or_ge i bs.length with hlt | hge
  ·have hg := zD0 (ec := OB.enc) hlt
   rw [qW1 bs s i hlt] at he
   generalize bs[i] = x at hg he
   obtain ⟨⟨xna, ⟨xtk, xtn, xts, xtt⟩⟩, xh⟩ := x
   simp only [OB.enc] at hg
   refine fD0 ?_
   refine ⟨fun h => ?_, fun h => ⟨i + 1, ⟨hlt, ?_⟩, by omega, ?_⟩⟩
   ·have he' : eqS xna s = true := by simpa [eqS] using h
    simp only [he', if_true] at he
    subst he; rfl
   ·have he' : eqS xna s = false := h
    simpa only [he', Bool.false_eq_true, if_false] using he
   ·exact t2'
  ·have e1 : bs.drop i = [] := List.drop_of_length_le hge
   rw [e1] at he
   have he : r = none := he
   subst he
   refine mD0 ?_
   rfl
theorem rS0 (s : ByteArray) : ∀ (os : List OB), bnd (os.map (·.b)) s = (st0 os s).map (·.b.t)
 | [] => rfl
 | o :: os => by
  simp only [List.map_cons, bnd, st0]
  split
  ·rfl
  ·exact rS0 s os
theorem rT0 (s : ByteArray) : ∀ (os : List OB) (o : OB), st0 os s = some o → o ∈ os
 | [], _, h => by cases h
 | x :: os, o, h => by
  simp only [st0] at h
  split at h
  ·cases h; simp
  ·exact List.mem_cons_of_mem _ (rT0 s os o h)
def OB.ok (w : World) (F : Fz) : OB → Prop
 | ⟨⟨_, .mk _ _ _ ts⟩, h⟩ => Rd w F (.sl (Tm.encs ts)) h
theorem fN1 {w : World} {F : Fz} {rows : List (List C)} {u : Value} (h : Rd w F (.sl rows) u) : okv u := by
 simp only [Rd] at h
 obtain ⟨A, cap, sz, rfl, _⟩ := h
 trivial
theorem bq0 {w : World} {F : Fz} {lb : Lk} {g : Gh} : ∀ (bs : List GBind) (us : List Value) (S : List Nat), RepCells w F lb g (rowsOf GBind.enc bs).flatten us S →
  ∃ os : List OB, os.map (·.b) = bs ∧ (∀ o, o ∈ os → o.ok w F) ∧ RepCells w F lb g (rowsOf OB.enc os).flatten us S
 | [], us, S, h => ⟨[], rfl, by simp, h⟩
 | ⟨na, .mk k n s ts⟩ :: bs, us, S, h => by
  simp only [rowsOf, List.map_cons, List.flatten_cons, GBind.enc, Tm.enc, encS, List.cons_append, List.nil_append, List.map_nil, RepCells] at h
  obtain ⟨u1, us1, S1, T1, rfl, rfl, h1, u2, us2, S2, T2, rfl, rfl, h2, u3, us3, S3, T3, rfl, rfl, h3, u4, us4, S4, T4, rfl, rfl, h4, u5, us5, S5, T5, rfl, rfl, h5, h⟩ := h
  obtain ⟨os, e1, e2, e3⟩ := bq0 bs _ _ h
  have h6 : Rd w F (.sl (Tm.encs ts)) u5 := by have := h5.1; simpa only [RepAC] using this
  refine ⟨⟨⟨na, .mk k n s ts⟩, u5⟩ :: os, by rw [List.map_cons, e1], ?_, ?_⟩
  ·intro o ho
   rcases List.mem_cons.1 ho with rfl | ho
   ·exact h6
   ·exact e2 o ho
  ·simp only [rowsOf, List.map_cons, List.flatten_cons, OB.enc, List.cons_append, List.nil_append, List.map_nil, RepCells]
   refine ⟨u1, _, S1, _, rfl, rfl, h1, u2, _, S2, _, rfl, rfl, h2, u3, _, S3, _, rfl, rfl, h3, u4, _, S4, _, rfl, rfl, h4, u5, _, S5, _, rfl, rfl, ⟨?_, h5.2⟩, e3⟩
   simp only [RepAC, Rd]
   exact ⟨trivial, fN1 h6⟩
theorem su0 (bs : List GBind) (s : ByteArray) (hl : bs.length < 100000000) : fZ1 Tryz.prog 241 [] [qg0 s] 261 5 (rowsOf GBind.enc bs) (.tup [tmV ((bnd bs s).getD zeroT), boolV (bnd bs s).isSome]) := by
 refine ⟨(bQ0 [] s (by simp)).1, by decide, zk0, fun w F us1 v0 us2 S hF h1 h2 hrow hS => ?_⟩
 simp only [RepAVs] at h1
 subst h1
 obtain ⟨k1, k2, xs, S', hown, hcells, hd⟩ := hrow
 obtain ⟨os, e1, e2, e3⟩ := bq0 bs xs S' hcells
 have hlen : os.length = bs.length := by rw [← e1, List.length_map]
 have hrow' : RepLB w F noLk (gA v0 S) 0 (.arr 261 5 (rowsOf OB.enc os) false) := by
  refine ⟨k1, ?_, xs, S', ?_, e3, hd⟩
  ·intro r hr
   obtain ⟨o, _, rfl⟩ := List.mem_map.1 hr
   rw [List.length_map, OB.enc_len]
  ·rw [rowsOf_len, hlen, ← rowsOf_len (ec := GBind.enc)]; exact hown
 have hblk : ∀ b, b ∈ blkOf v0 → b < w.heap.size := fun b hb => hS b (by have hd : S = blkOf v0 ++ S' := hd; rw [hd]; simp [hb])
 have hF1 : FzOk w (fun b o => F b o ∨ b ∈ blkOf v0) := ⟨fun b o hb => hb.elim (hF b o) (hblk b), fun b cs hb => ⟨(hF.tb b cs hb).1.elim fun o ho => ⟨o, .inl ho⟩, (hF.tb b cs hb).2⟩⟩
 have hrd : Rd w (fun b o => F b o ∨ b ∈ blkOf v0) (.sl (os.map OB.enc)) v0 := kc1 (qJ0) hrow' (fun _ _ hb => .inl hb) (fun b o hb _ => .inr hb)
 have h2' := RepAVs.mono (w' := w) (F' := fun b o => F b o ∨ b ∈ blkOf v0) ⟨fun _ _ hb => .inl hb, fun _ _ _ => rfl⟩ (Keeps.refl noLk g0) _ _ h2
 refine ((bQ0 os s (by rw [hlen]; exact hl)).2 w _ (v0 :: us2) hF1 ⟨v0, us2, rfl, by simpa only [RepAV, RepAC] using hrd, h2'⟩).mono ?_
 rintro ex w' ⟨v, F', rfl, hbel, _, _, _, hr⟩
 refine ⟨v, rfl, hbel, ?_⟩
 have hst : Stays w w' F F := ⟨fun _ _ hb => hb, fun b o hb => zO0 (hbel.block b (hF b o hb)) o⟩
 rw [← e1, rS0]
 cases hq : st0 os s with
 | none =>
  rw [hq] at hr
  simp only [gQ1, Option.map_none, Option.getD_none, Option.isSome_none, zeroT, Tm.enc, Tm.encs, List.map_cons, List.map_nil, RepAV, RepAVs, RepACs, RepAC, Rd, RdRows] at hr ⊢
  exact hr
 | some o =>
  have ho := e2 o (rT0 s os o hq)
  rw [hq] at hr
  obtain ⟨⟨na, ⟨k, n, s', ts⟩⟩, h⟩ := o
  have ho : Rd w' F (.sl (Tm.encs ts)) h := Rd.mono hst _ _ ho
  simp only [gQ1, Option.map_some, Option.getD_some, Option.isSome_some, Tm.enc, List.map_cons, List.map_nil, RepAV, RepAVs, RepACs, RepAC] at hr ⊢
  obtain ⟨us, rfl, u, us', rfl, ⟨ws, rfl, a1, w1, rfl, q1, a2, w2, rfl, q2, a3, w3, rfl, q3, a4, w4, rfl, q4, rfl⟩, hrest⟩ := hr
  simp only [Rd] at q1 q2 q3 q4 hrest
  obtain ⟨rfl, _⟩ := q4
  exact ⟨_, rfl, _, us', rfl, ⟨_, rfl, a1, _, rfl, by simpa only [Rd] using q1, a2, _, rfl, by simpa only [Rd] using q2, a3, _, rfl, by simpa only [Rd] using q3, a4, _, rfl, ho, rfl⟩, by simpa only [Rd] using hrest⟩
def jm0 : Tm → Tm → Bool
 | .mk k n s ts, .mk k2 n2 s2 ts2 => k == k2 && n == n2 && eqS s s2 && ts.length == ts2.length
mutual
def Tm.mat : Tm → Tm → List GBind → Option (List GBind)
 | .mk k n s ts, y, bs =>
  if k == 1 then (match bnd bs s with | some x => if x.eqb y then some bs else none | none => some (bs ++ [⟨s, y⟩]))
  else if jm0 (.mk k n s ts) y then Tm.mats ts y.args bs else none
def Tm.mats : List Tm → List Tm → List GBind → Option (List GBind)
 | [], _, bs => some bs
 | a :: ts, ys, bs => match a.mat (ys.headD zeroT) bs with
  | some bs' => Tm.mats ts ys.tail bs'
  | none => none
end
theorem gx0 (ts ys : List Tm) (bs : List GBind) (i : Nat) (h : i < ts.length) (h2 : i < ys.length) : Tm.mats (ts.drop i) (ys.drop i) bs = match ts[i].mat ys[i] bs with
  | some bs' => Tm.mats (ts.drop (i + 1)) (ys.drop (i + 1)) bs'
  | none => none := by
 rw [List.drop_eq_getElem_cons h, Tm.mats, List.tail_drop, List.drop_eq_getElem_cons h2]
 rfl
mutual
theorem xB0 : ∀ (t y : Tm) (bs r : List GBind), t.mat y bs = some r → r.length ≤ bs.length + t.cnt
 | .mk k n s ts, y, bs, r => by
  simp only [Tm.mat, Tm.cnt]
  split
  ·split
   ·split
    ·intro h; cases h; omega
    ·intro h; cases h
   ·intro h; cases h; simp
  ·split
   ·intro h
    have := mats_len ts y.args bs r h
    omega
   ·intro h; cases h
theorem mats_len : ∀ (ts ys : List Tm) (bs r : List GBind), Tm.mats ts ys bs = some r → r.length ≤ bs.length + Tm.cnts ts
 | [], _, bs, r => by
  simp only [Tm.mats, Tm.cnts]
  intro h; cases h; omega
 | a :: ts, ys, bs, r => by
  simp only [Tm.mats, Tm.cnts]
  split
  ·rename_i bs' h1
   intro h
   have := xB0 a _ bs bs' h1
   have := mats_len ts _ bs' r h
   omega
  ·intro h; cases h
end
mutual
theorem px0 (p : Tm → Prop) (hp : ∀ k n s ts, p (.mk k n s ts) → ∀ t, t ∈ ts → p t) : ∀ (t y : Tm) (bs r : List GBind), t.mat y bs = some r → p y → (∀ b, b ∈ bs → p b.t) → ∀ b, b ∈ r → p b.t
 | .mk k n s ts, y, bs, r => by
  simp only [Tm.mat]
  split
  ·split
   ·split
    ·intro h; cases h; intro _ hb; exact hb
    ·intro h; cases h
   ·intro h; cases h
    intro hy hb b hm
    rcases List.mem_append.1 hm with hm | hm
    ·exact hb b hm
    ·simp only [List.mem_singleton] at hm; subst hm; exact hy
  ·split
   ·rename_i hn
    obtain ⟨k2, n2, s2, ts2⟩ := y
    simp only [jm0, Bool.and_eq_true, beq_iff_eq] at hn
    intro h hy
    exact mats_all p hp ts ts2 bs r (by omega) h (fun t ht => hp _ _ _ _ hy t ht)
   ·intro h; cases h
theorem mats_all (p : Tm → Prop) (hp : ∀ k n s ts, p (.mk k n s ts) → ∀ t, t ∈ ts → p t) : ∀ (ts ys : List Tm) (bs r : List GBind), ts.length ≤ ys.length → Tm.mats ts ys bs = some r → (∀ y, y ∈ ys → p y) → (∀ b, b ∈ bs → p b.t) → ∀ b, b ∈ r → p b.t
 | [], _, bs, r => by
  simp only [Tm.mats]
  intro _ h _ hb; cases h; exact hb
 | a :: ts, [], bs, r => by intro h; simp at h
 | a :: ts, y :: ys, bs, r => by
  simp only [Tm.mats, List.headD_cons, List.tail_cons]
  intro hl
  split
  ·rename_i bs' h1
   intro h hy hb
   exact mats_all p hp ts ys bs' r (by simpa using hl) h (fun t ht => hy t (by simp [ht])) (px0 p hp a y bs bs' h1 (hy y (by simp)) hb)
  ·intro h; cases h
end
theorem pZ0 : ∀ k n s ts, ((Tm.mk k n s ts).size < 1048577 ∧ (Tm.mk k n s ts).wf) → ∀ t, t ∈ ts → (t.size < 1048577 ∧ t.wf) :=
 fun k n s ts h t ht => ⟨by have := zQ0 ts t ht; have := h.1; simp only [Tm.size] at this; omega, (yf0 ts).1 h.2.2.2.2.2 t ht⟩
abbrev bi0 (f : FuncId) (t : Tm) : Prop := ∀ (y : Tm) (bs : List GBind), y.size < 1048577 → y.wf → (∀ b, b ∈ bs → b.t.size < 1048577 ∧ b.t.wf) → bs.length + t.cnt < 90000000 → nM1 Tryz.prog f [tmV t, tmV y] [] 261 5 (rowsOf GBind.enc bs) ((t.mat y bs).map (rowsOf GBind.enc))
theorem mz0 (k n : Int) (s : ByteArray) (ts : List Tm) (hl : s.size + Tm.sizes ts < 80000000) (ih : ∀ t, t ∈ ts → bi0 193 t) : bi0 193 (.mk k n s ts) := by
 intro y bs hy hyw hb hbl
 have hts := zI0 ts
 simp only [Tm.cnt] at hbl
 have hbo := su0 bs s (by omega)
 obtain ⟨r, hr⟩ : ∃ r, r = (Tm.mk k n s ts).mat y bs := ⟨_, rfl⟩
 rw [← hr]
 simp only [Tm.mat] at hr
 obtain ⟨k2, n2, s2, ts2⟩ := y
 refine xl0 zE0 zA0 Tryz.func193 rfl rfl rfl (by decide +kernel) (by decide +kernel) (Nat.le_of_ble_eq_true rfl) (by decide) zk0 zd0 (fun rows' h => by cases r <;> simp at h; subst h; exact ⟨zk0, zd0⟩) ?_
 refine jj0 ?_
 refine ⟨fun h1 => ?_, fun h1 => ?_⟩
 ·have hr : r = match bnd bs s with
   | some x => if x.eqb (.mk k2 n2 s2 ts2) then some bs else none
   | none => some (bs ++ [⟨s, .mk k2 n2 s2 ts2⟩]) := by rw [hr, h1]; rfl
  cases hq : bnd bs s with
  | none =>
   rw [hq] at hr hbo
   refine CallK.shown 0 rfl hbo ⟨by simp [go_sem], rfl, by rw [rowsOf_len], rfl⟩ ?_
   refine dz1 ?_
   have hr : r = some (bs ++ [⟨s, .mk k2 n2 s2 ts2⟩]) := hr
   subst hr
   exact no1
  | some x =>
   rw [hq] at hr hbo
   simp only at hr
   have hbx : x.size < 1048577 ∧ x.wf := by
    obtain ⟨b, hb1, rfl⟩ := vq0 bs s x hq
    exact hb b hb1
   have heq := jD0 x hbx.2 (.mk k2 n2 s2 ts2)
   generalize x.eqb (.mk k2 n2 s2 ts2) = q at hr heq
   obtain ⟨xk, xn, xs, xt⟩ := x
   refine CallK.shown 0 rfl hbo ⟨by simp [go_sem], rfl, by rw [rowsOf_len], rfl⟩ ?_
   refine gA1 ?_
   refine c0' heq ?_
   cases q
   ·have hr : r = none := hr
    subst hr
    rfl
   ·have hr : r = some bs := hr
    subst hr
    exact bC1
 ·have hr : r = if jm0 (.mk k n s ts) (.mk k2 n2 s2 ts2) then Tm.mats ts ts2 bs else none := by rw [hr, h1]; rfl
  refine ⟨fun e1 => ⟨fun e2 => ⟨fun e3 => ⟨fun e4 => ?_, fun e4 => ?_⟩, fun e3 => ?_⟩, fun e2 => ?_⟩, fun e1 => ?_⟩
  rotate_left
  ·have hn : jm0 (.mk k n s ts) (.mk k2 n2 s2 ts2) = true := by
    have q1 : (k == k2) = true := by simpa using e1
    have q2 : (n == n2) = true := by simpa using e2
    have q3 : eqS s s2 = true := by simp [eqS, e3]
    have q4 : (ts.length == ts2.length) = true := by
     have : ((ts.length : Int) != (ts2.length : Int)) = false := e4
     simp only [bne_eq_false_iff_eq] at this
     simp only [beq_iff_eq]; omega
    simp only [jm0, q1, q2, q3, q4, Bool.and_self]
   rw [hn, if_pos rfl] at hr
   have hll : ts.length = ts2.length := by
    have : ((ts.length : Int) != (ts2.length : Int)) = false := e4
    simp only [bne_eq_false_iff_eq] at this
    omega
   refine zB0 (ι := Nat × List GBind) (fun i => mk 87 [(2, .one (.own 9001 i.2.length)), (3, .one (.ptr 3 0)), (4, .one (.ptr 4 0)), (64, zH0 ts.length), (65, zH0 i.1)] [(3, .var [iC k, iC n, sC s, tC ts]), (4, .var [iC k2, iC n2, sC s2, tC ts2]), (9001, .arr 261 5 (rowsOf GBind.enc i.2) false)])
    (fun i => i.1 ≤ ts.length ∧ Tm.mats (ts.drop i.1) (ts2.drop i.1) i.2 = r ∧ i.2.length + Tm.cnts (ts.drop i.1) < 90000000 ∧ ∀ b, b ∈ i.2 → b.t.size < 1048577 ∧ b.t.wf) (fun i => ts.length - i.1) (0, bs) ⟨Nat.zero_le _, by simp [hr], by simp; omega, hb⟩ ?_ zE0 zA0 (by decide +kernel) ?_
   ·exact lek
   ·rintro ⟨i, vi⟩ ⟨hi, he, hbl', hvi⟩
    simp only at hi he hbl' hvi
    rcases Nat.lt_or_ge i ts.length with hlt | hge
    ·have hlt2 : i < ts2.length := by omega
     have hg := zG0 ts i hlt
     have hg2 := zG0 ts2 i hlt2
     rw [gx0 ts ts2 vi i hlt hlt2] at he
     rw [vM0 ts i hlt] at hbl'
     have ha2 : ts2[i].size < 1048577 ∧ ts2[i].wf := ⟨by have := zQ0 ts2 ts2[i] (List.getElem_mem hlt2); simp only [Tm.size] at hy; omega, (yf0 ts2).1 hyw.2.2.2.2 _ (List.getElem_mem hlt2)⟩
     have hih := ih _ (List.getElem_mem hlt) ts2[i] vi ha2.1 ha2.2 hvi (by omega)
     have hal := xB0 ts[i] ts2[i] vi
     have hall := fun (r : List GBind) (hr : ts[i].mat ts2[i] vi = some r) => px0 (fun t => t.size < 1048577 ∧ t.wf) pZ0 ts[i] ts2[i] vi r hr ha2 hvi
     generalize ts[i] = a at hg hih he hbl' hal hall
     generalize ts2[i] = a2 at hg2 hih he hal hall ha2
     generalize a.mat a2 vi = q at he hih hal hall
     simp -implicitDefEqProofs (disch := omega) only [go_sem, hg, hg2, hlt, hlt2, enc_len]
     cases q with
     | none =>
      have hih : jF1 Tryz.prog 193 [tmV a, tmV a2] [] 261 5 (rowsOf GBind.enc vi) [boolV false] := hih
      refine CallK.lost 2 (by decide +kernel) hih ⟨by simp [go_sem], rfl, by rw [rowsOf_len], rfl⟩ ?_
      refine jM1 ?_
      have he : none = r := he
      subst he
      rfl
     | some bs' =>
      have hih : cI0 Tryz.prog 193 [tmV a, tmV a2] [] 261 5 (rowsOf GBind.enc vi) (rowsOf GBind.enc bs') [boolV true] := hih
      refine CallK.accD 2 (by decide +kernel) hih ⟨by simp [go_sem], rfl, by rw [rowsOf_len], rfl⟩ rfl ?_
      refine jM1 ?_
      refine ⟨(i + 1, bs'), ⟨by simp only; omega, he, by simp only; have := hal bs' rfl; omega, hall bs' rfl⟩, by simp only; omega, ?_⟩
      refine (le_mk (L' := [(2, .one (.own 80 (rowsOf GBind.enc bs').length)), (3, .one (.ptr 3 0)), (4, .one (.ptr 4 0)), (64, zH0 ts.length), (65, zH0 (i + 1 : Nat))]) (B' := [(3, .var [iC k, iC n, sC s, tC ts]), (4, .var [iC k2, iC n2, sC s2, tC ts2]), (80, .arr 261 5 (rowsOf GBind.enc bs') false)]) (by simp [go_sem]) (by simp [go_sem])).trans ?_
      refine (wY0 (t := 2) (l := 80) (k := (rowsOf GBind.enc bs').length) 9001 rfl rfl rfl (by decide) rfl zk0 zd0).trans ?_
      exact lek
    ·have e1 : ts.drop i = [] := List.drop_of_length_le hge
     rw [e1] at he
     have he : some vi = r := he
     subst he
     refine xK1 ?_
     exact bC1
  all_goals
   have hn : jm0 (.mk k n s ts) (.mk k2 n2 s2 ts2) = false := by
    first
    | (have q : ¬ ts.length = ts2.length := fun q => e4 (by rw [q])
       simp [jm0, q])
    | simp [jm0, eqS, e3]
    | simp [jm0, e2]
    | simp [jm0, e1]
   rw [hn, if_neg (by simp)] at hr
   subst hr
   rfl
theorem cl0 : ∀ (t : Tm), t.size < 80000000 → bi0 193 t := by
 refine Tm.ind (fun k n s ts ih h => mz0 k n s ts (by simp only [Tm.size] at h; omega) (fun t ht => ih t ht ?_))
 have := zQ0 ts t ht; simp only [Tm.size] at h; omega
end Go.Ai
namespace Go.Ai
open Go.Proofs
set_option maxRecDepth 100000
theorem nv0 (k n : Int) (s : ByteArray) (ts : List Tm) (hl : s.size + Tm.sizes ts < 80000000) (ih : ∀ t, t ∈ ts → bi0 253 t) : bi0 253 (.mk k n s ts) := by
 intro y bs hy hyw hb hbl
 have hts := zI0 ts
 simp only [Tm.cnt] at hbl
 have hbo := ca0 bs s (by omega) (fun b hb' => (hb b hb').1)
 obtain ⟨r, hr⟩ : ∃ r, r = (Tm.mk k n s ts).mat y bs := ⟨_, rfl⟩
 rw [← hr]
 simp only [Tm.mat] at hr
 obtain ⟨k2, n2, s2, ts2⟩ := y
 refine xl0 zE0 zA0 Tryz.func253 rfl rfl rfl (by decide +kernel) (by decide +kernel) (Nat.le_of_ble_eq_true rfl) (by decide) zk0 zd0 (fun rows' h => by cases r <;> simp at h; subst h; exact ⟨zk0, zd0⟩) ?_
 refine jj0 ?_
 refine ⟨fun h1 => ?_, fun h1 => ?_⟩
 ·have hr : r = match bnd bs s with
   | some x => if x.eqb (.mk k2 n2 s2 ts2) then some bs else none
   | none => some (bs ++ [⟨s, .mk k2 n2 s2 ts2⟩]) := by rw [hr, h1]; rfl
  cases hq : bnd bs s with
  | none =>
   rw [hq] at hr hbo
   refine CallK.own hbo rfl ?_
   refine dz1 ?_
   have hc := qk0 (.mk k2 n2 s2 ts2) hy
   refine c5' hc ?_
   have hr : r = some (bs ++ [⟨s, .mk k2 n2 s2 ts2⟩]) := hr
   subst hr
   exact no1
  | some x =>
   rw [hq] at hr hbo
   simp only at hr
   have hbx : x.size < 1048577 ∧ x.wf := by
    obtain ⟨b, hb1, rfl⟩ := vq0 bs s x hq
    exact hb b hb1
   have heq := zu0 x hbx.2 (.mk k2 n2 s2 ts2)
   generalize x.eqb (.mk k2 n2 s2 ts2) = q at hr heq
   obtain ⟨xk, xn, xs, xt⟩ := x
   refine CallK.own hbo rfl ?_
   refine gA1 ?_
   refine CallK.bor heq rfl ?_
   refine qI0 ?_
   cases q
   ·have hr : r = none := hr
    subst hr
    rfl
   ·have hr : r = some bs := hr
    subst hr
    exact bC1
 ·have hr : r = if jm0 (.mk k n s ts) (.mk k2 n2 s2 ts2) then Tm.mats ts ts2 bs else none := by rw [hr, h1]; rfl
  refine ⟨fun e1 => ⟨fun e2 => ⟨fun e3 => ⟨fun e4 => ?_, fun e4 => ?_⟩, fun e3 => ?_⟩, fun e2 => ?_⟩, fun e1 => ?_⟩
  rotate_left
  ·have hn : jm0 (.mk k n s ts) (.mk k2 n2 s2 ts2) = true := by
    have q1 : (k == k2) = true := by simpa using e1
    have q2 : (n == n2) = true := by simpa using e2
    have q3 : eqS s s2 = true := by simp [eqS, e3]
    have q4 : (ts.length == ts2.length) = true := by
     have : ((ts.length : Int) != (ts2.length : Int)) = false := e4
     simp only [bne_eq_false_iff_eq] at this
     simp only [beq_iff_eq]; omega
    simp only [jm0, q1, q2, q3, q4, Bool.and_self]
   rw [hn, if_pos rfl] at hr
   have hll : ts.length = ts2.length := by
    have : ((ts.length : Int) != (ts2.length : Int)) = false := e4
    simp only [bne_eq_false_iff_eq] at this
    omega
   refine zB0 (ι := Nat × List GBind) (fun i => mk 92 [(2, .one (.own 9001 i.2.length)), (3, .one (.ptr 3 0)), (4, .one (.ptr 4 0)), (10, zH0 i.1)] [(3, .var [iC k, iC n, sC s, tC ts]), (4, .var [iC k2, iC n2, sC s2, tC ts2]), (9001, .arr 261 5 (rowsOf GBind.enc i.2) false)])
    (fun i => i.1 ≤ ts.length ∧ Tm.mats (ts.drop i.1) (ts2.drop i.1) i.2 = r ∧ i.2.length + Tm.cnts (ts.drop i.1) < 90000000 ∧ ∀ b, b ∈ i.2 → b.t.size < 1048577 ∧ b.t.wf) (fun i => ts.length - i.1) (0, bs) ⟨Nat.zero_le _, by simp [hr], by simp; omega, hb⟩ ?_ zE0 zA0 (by decide +kernel) ?_
   ·exact lek
   ·rintro ⟨i, vi⟩ ⟨hi, he, hbl', hvi⟩
    simp only at hi he hbl' hvi
    rcases Nat.lt_or_ge i ts.length with hlt | hge
    ·have hlt2 : i < ts2.length := by omega
     have hg := zG0 ts i hlt
     have hg2 := zG0 ts2 i hlt2
     rw [gx0 ts ts2 vi i hlt hlt2] at he
     rw [vM0 ts i hlt] at hbl'
     have ha2 : ts2[i].size < 1048577 ∧ ts2[i].wf := ⟨by have := zQ0 ts2 ts2[i] (List.getElem_mem hlt2); simp only [Tm.size] at hy; omega, (yf0 ts2).1 hyw.2.2.2.2 _ (List.getElem_mem hlt2)⟩
     have hih := ih _ (List.getElem_mem hlt) ts2[i] vi ha2.1 ha2.2 hvi (by omega)
     have hal := xB0 ts[i] ts2[i] vi
     have hall := fun (r : List GBind) (hr : ts[i].mat ts2[i] vi = some r) => px0 (fun t => t.size < 1048577 ∧ t.wf) pZ0 ts[i] ts2[i] vi r hr ha2 hvi
     generalize ts[i] = a at hg hih he hbl' hal hall
     generalize ts2[i] = a2 at hg2 hih he hal hall ha2
     generalize a.mat a2 vi = q at he hih hal hall
     simp -implicitDefEqProofs (disch := omega) only [go_sem, hg, hg2, hlt, hlt2, enc_len]
     cases q with
     | none =>
      have hih : jF1 Tryz.prog 253 [tmV a, tmV a2] [] 261 5 (rowsOf GBind.enc vi) [boolV false] := hih
      refine CallK.lost 2 (by decide +kernel) hih ⟨by simp [go_sem], rfl, by rw [rowsOf_len], rfl⟩ ?_
      refine jM1 ?_
      have he : none = r := he
      subst he
      rfl
     | some bs' =>
      have hih : cI0 Tryz.prog 253 [tmV a, tmV a2] [] 261 5 (rowsOf GBind.enc vi) (rowsOf GBind.enc bs') [boolV true] := hih
      refine CallK.accD 2 (by decide +kernel) hih ⟨by simp [go_sem], rfl, by rw [rowsOf_len], rfl⟩ rfl ?_
      refine jM1 ?_
      refine ⟨(i + 1, bs'), ⟨by simp only; omega, he, by simp only; have := hal bs' rfl; omega, hall bs' rfl⟩, by simp only; omega, ?_⟩
      refine (le_mk (L' := [(2, .one (.own 84 (rowsOf GBind.enc bs').length)), (3, .one (.ptr 3 0)), (4, .one (.ptr 4 0)), (10, zH0 (i + 1 : Nat))]) (B' := [(3, .var [iC k, iC n, sC s, tC ts]), (4, .var [iC k2, iC n2, sC s2, tC ts2]), (84, .arr 261 5 (rowsOf GBind.enc bs') false)]) (by simp [go_sem]) (by simp [go_sem])).trans ?_
      refine (wY0 (t := 2) (l := 84) (k := (rowsOf GBind.enc bs').length) 9001 rfl rfl rfl (by decide) rfl zk0 zd0).trans ?_
      exact lek
    ·have e1 : ts.drop i = [] := List.drop_of_length_le hge
     rw [e1] at he
     have he : some vi = r := he
     subst he
     refine xK1 ?_
     exact bC1
  all_goals
   have hn : jm0 (.mk k n s ts) (.mk k2 n2 s2 ts2) = false := by
    first
    | (have q : ¬ ts.length = ts2.length := fun q => e4 (by rw [q])
       simp [jm0, q])
    | simp [jm0, eqS, e3]
    | simp [jm0, e2]
    | simp [jm0, e1]
   rw [hn, if_neg (by simp)] at hr
   subst hr
   rfl
theorem dR0 : ∀ (t : Tm), t.size < 80000000 → bi0 253 t := by
 refine Tm.ind (fun k n s ts ih h => nv0 k n s ts (by simp only [Tm.size] at h; omega) (fun t ht => ih t ht ?_))
 have := zQ0 ts t ht; simp only [Tm.size] at h; omega
end Go.Ai
