/- State spaces: what they are. (Of AiX1, beside AiA4's redexes.) -/
import Derived.Test.YtphclghkljeaeaaGreatAiA4
import Derived.Test.YtphclghkljeaeaaGreatAiI5
import Derived.Test.YtphclghkljeaeaaGreatAiPR3
set_option linter.unusedVariables false
set_option linter.unusedSimpArgs false
namespace Go.Ai
open Go.Proofs Go.RowKit
set_option maxRecDepth 100000
structure GMove where
 fr : Int
 tg : Int
 re : GRedex
def GMove.enc (x : GMove) : List C := encI x.fr ++ (encI x.tg ++ (GRedex.enc x.re))
def GMove.size (x : GMove) : Nat := szI x.fr + szI x.tg + GRedex.size x.re
def GMove.wf (x : GMove) : Prop := wfI x.fr ∧ wfI x.tg ∧ GRedex.wf x.re
def GMove.eqb (x y : GMove) : Bool := eqI x.fr y.fr && (eqI x.tg y.tg && (GRedex.eqb x.re y.re))
theorem GMove.enc_len (x : GMove) : x.enc.length = 4 := by simp [GMove.enc, encI, encS, encB, encL, Go.Ai.enc_len, GRedex.enc_len]
theorem GMove.enc_take (x : GMove) : x.enc.take 4 = x.enc := List.take_of_length_le (by rw [GMove.enc_len]; exact Nat.le_refl _)
theorem GMove.encm_take (x : GMove) : (x.enc.map AC.c).take 4 = x.enc.map AC.c := List.take_of_length_le (by rw [List.length_map, GMove.enc_len]; exact Nat.le_refl _)
attribute [go_sem] GMove.enc_len GMove.enc_take GMove.encm_take
structure GSpace where
 te : List Tm
 mo : List GMove
 fu : Bool
def GSpace.enc (x : GSpace) : List C := encL Tm.enc x.te ++ (encL GMove.enc x.mo ++ (encB x.fu))
def GSpace.size (x : GSpace) : Nat := (szL Tm.size) x.te + (szL GMove.size) x.mo + szB x.fu
def GSpace.wf (x : GSpace) : Prop := (wfL Tm.wf) x.te ∧ (wfL GMove.wf) x.mo ∧ wfB x.fu
def GSpace.eqb (x y : GSpace) : Bool := (eqL Tm.eqb) x.te y.te && ((eqL GMove.eqb) x.mo y.mo && (eqB x.fu y.fu))
theorem GSpace.enc_len (x : GSpace) : x.enc.length = 3 := by simp [GSpace.enc, encI, encS, encB, encL, Go.Ai.enc_len]
theorem GSpace.enc_take (x : GSpace) : x.enc.take 3 = x.enc := List.take_of_length_le (by rw [GSpace.enc_len]; exact Nat.le_refl _)
theorem GSpace.encm_take (x : GSpace) : (x.enc.map AC.c).take 3 = x.enc.map AC.c := List.take_of_length_le (by rw [List.length_map, GSpace.enc_len]; exact Nat.le_refl _)
attribute [go_sem] GSpace.enc_len GSpace.enc_take GSpace.encm_take
end Go.Ai
namespace Go.Ai
open Go.Proofs
set_option maxRecDepth 100000
theorem sJ0 (sg : GSignature) : ∀ (t : Tm), t.nodes = true → t.sort sg [] ≠ sE → t.vars = [] := by
 refine Tm.ind (fun k n s ts ih hn hs => ?_)
 have hsub : Tm.varss ts = [] → k ≠ 1 → (Tm.mk k n s ts).vars = [] := fun h hk => by
  have : (k == 1) = false := by simpa using hk
  simp [Tm.vars, this, h]
 rcases md0 sg [] k n s ts hs with rfl | rfl | rfl
 ·exact absurd (bD0 sg n s ts) hs
 ·refine hsub ?_ (by decide)
  obtain ⟨o, h1, h2, h3, _⟩ := jp0 sg [] n s ts hs
  simp only [Tm.nodes, Bool.and_eq_true] at hn
  have hn2 := hn.2
  rw [kW0] at hn2
  have hall : ∀ t, t ∈ ts → t.vars = [] := fun t ht => by
   obtain ⟨i, hi, rfl⟩ := List.mem_iff_getElem.1 ht
   exact ih _ ht (List.all_eq_true.1 hn2 _ ht) (vo0 sg ts o.ar i hi h2 h3)
  have hlist : ∀ (us : List Tm), (∀ t, t ∈ us → t.vars = []) → Tm.varss us = [] := fun us => by
   induction us with
   | nil => intro _; rfl
   | cons a ts iht =>
    intro hall
    simp only [Tm.varss, hall a (List.mem_cons_self), List.nil_append]
    exact iht (fun t ht => hall t (List.mem_cons_of_mem _ ht))
  exact hlist ts hall
 ·obtain rfl := jL0 n s ts 3 (by decide) hn
  exact hsub rfl (by decide)
theorem cfg_of_good (d : GDefinition) (hd : dJ0 d = true) (v : Tm) (hv : v.valid = true) (h : goodT d v) : wf0 d v = true := by
 simp only [wf0, hd, hv, sJ0 d.si v h.2.1 h.2.2, (eqS_ne _ _).2 h.2.2, Bool.true_and, List.length_nil, BEq.rfl, Bool.not_false, Bool.and_self]
theorem cfg_def (d : GDefinition) (v : Tm) (h : wf0 d v = true) : dJ0 d = true := by
 simp only [wf0, Bool.and_eq_true] at h
 exact h.1.1.1
def sf1 (u : Tm) : List Tm → Nat → Option Nat
 | [], _ => none
 | t :: ts, k => if t.eqb u then some k else sf1 u ts (k + 1)
def rk1 (d : GDefinition) (fr : Nat) (t : Tm) (x : GSpace) (q : Int × List Int) : GSpace :=
 if (doB d t q).valid then match sf1 (doB d t q) x.te 0 with
  | some k => ⟨x.te, x.mo ++ [⟨(fr : Int), (k : Int), rdG q⟩], x.fu⟩
  | none => if x.te.length = 40 then ⟨x.te, x.mo, false⟩ else ⟨x.te ++ [doB d t q], x.mo ++ [⟨(fr : Int), (x.te.length : Int), rdG q⟩], x.fu⟩
 else ⟨x.te, x.mo, false⟩
def tW1 (d : GDefinition) (fr : Nat) (t : Tm) (qs : List (Int × List Int)) (x : GSpace) : GSpace := qs.foldl (rk1 d fr t) x
def bQ1 (d : GDefinition) (t : Tm) : List (Int × List Int) := t.all d.st (kE0 d)
structure Inv (d : GDefinition) (t0 : Tm) (k : Nat) (u : Tm) (done : List (Int × List Int)) (x : GSpace) : Prop where
 first : x.te[0]? = some t0
 len : x.te.length ≤ 40
 good : ∀ v, v ∈ x.te → goodT d v
 cfg : ∀ v, v ∈ x.te → wf0 d v = true
 mv : ∀ m, m ∈ x.mo → ∃ (i j : Nat) (q : Int × List Int) (v : Tm), m = ⟨(i : Int), (j : Int), rdG q⟩ ∧ x.te[i]? = some v ∧ q ∈ bQ1 d v ∧ (doB d v q).valid = true ∧ x.te[j]? = some (doB d v q)
 mlen : x.mo.length ≤ 960 * k + done.length
 full : x.fu = true → (∀ i v, i < k → x.te[i]? = some v → ∀ q, q ∈ bQ1 d v → (doB d v q).valid = true ∧ doB d v q ∈ x.te) ∧ ∀ q, q ∈ done → (doB d u q).valid = true ∧ doB d u q ∈ x.te
 way : ∀ j, 0 < j → j < x.te.length → ∃ m i, x.mo.find? (fun m => m.tg == (j : Int)) = some m ∧ m.fr = ((i : Nat) : Int) ∧ i < j
def su0 (d : GDefinition) : Nat → Nat → GSpace → GSpace
 | 0, _, x => x
 | n + 1, k, x => match x.te[k]? with
  | some u => su0 d n (k + 1) (tW1 d k u (bQ1 d u) x)
  | none => x
def bb1 : GSpace := ⟨[], [], false⟩
def dc1 (d : GDefinition) (t : Tm) : GSpace := if wf0 d t then su0 d 41 0 ⟨[t], [], true⟩ else bb1
structure Done (d : GDefinition) (t0 : Tm) (x : GSpace) : Prop where
 first : x.te[0]? = some t0
 len : x.te.length ≤ 40
 good : ∀ v, v ∈ x.te → goodT d v
 cfg : ∀ v, v ∈ x.te → wf0 d v = true
 mv : ∀ m, m ∈ x.mo → ∃ (i j : Nat) (q : Int × List Int) (v : Tm), m = ⟨(i : Int), (j : Int), rdG q⟩ ∧ x.te[i]? = some v ∧ q ∈ bQ1 d v ∧ (doB d v q).valid = true ∧ x.te[j]? = some (doB d v q)
 mlen : x.mo.length ≤ 40000
 full : x.fu = true → ∀ v, v ∈ x.te → ∀ q, q ∈ bQ1 d v → (doB d v q).valid = true ∧ doB d v q ∈ x.te
 way : ∀ j, 0 < j → j < x.te.length → ∃ m i, x.mo.find? (fun m => m.tg == (j : Int)) = some m ∧ m.fr = ((i : Nat) : Int) ∧ i < j
end Go.Ai
namespace Go.Ai
open Go.Proofs
set_option maxRecDepth 100000
def atI : Option Nat → Int
 | some k => (k : Int)
 | none => -1
abbrev teR (x : GSpace) : LB := .arr 34 4 (rowsOf Tm.enc x.te) false
abbrev moR (x : GSpace) : LB := .arr 104 4 (rowsOf GMove.enc x.mo) false
abbrev spB (x : GSpace) (f : Bool) : LB := .var [.own 1 x.te.length, .own 2 x.mo.length, .c (.v (.bool f))]
def bd1 (d : GDefinition) : Prop := d.ru.length ≤ 16 ∧ ndS d.st ∧ ms0 d.si d.st = true ∧ ∀ x, x ∈ d.ru → ruleOk x ∧ qz0 d.si x = true
theorem yU1 (d : GDefinition) (hw : d.wf) (t : Tm) (htw : t.wf) (hc : wf0 d t = true) : bd1 d :=
 ⟨bX1 d t hc, cfg_nd d t hc, (good_cfg d hw t htw hc).2, fun x hx => ⟨(cfg_ok d hw t htw hc).1 x hx, (cfg_ok d hw t htw hc).2.2 x hx⟩⟩
end Go.Ai
namespace Go.Ai
open Go.Proofs
set_option maxRecDepth 100000
def runF (d : GDefinition) : Nat → Tm → Nat → Int × Tm × Nat
 | n, t, k => match t.nxt d.st (rootF d) with
  | none => (1, t, k)
  | some q => match n with
   | 0 => (2, t, k)
   | n + 1 => if (doB d t q).valid then runF d n (doB d t q) (k + 1) else (3, t, k)
end Go.Ai
namespace Go.Ai
open Go.Proofs
set_option maxRecDepth 100000
def xz1 (d : GDefinition) : Nat → Tm → List Tm
 | n, t => t :: match t.nxt d.st (rootF d) with
  | none => []
  | some q => match n with
   | 0 => []
   | n + 1 => if (doB d t q).valid then xz1 d n (doB d t q) else []
def xy1 (d : GDefinition) : Nat → Tm → List (Int × List Int)
 | n, t => match t.nxt d.st (rootF d) with
  | none => []
  | some q => match n with
   | 0 => []
   | n + 1 => if (doB d t q).valid then q :: xy1 d n (doB d t q) else []
def zPre (st : Int) (t : Tm) (k : Nat) : List AC := match t with
 | .mk tk tn tz ta => [iC st, iC tk, iC tn, sC tz, tC ta, iC k]
abbrev qR (qs : List (Int × List Int)) : LB := .arr 100 2 (rowsOf cf1 qs) false
abbrev tR (ts : List Tm) : LB := .arr 34 4 (rowsOf Tm.enc ts) false
abbrev zB (r : Int × Tm × Nat) (nq nt : Nat) : LB := .var (zPre r.1 r.2.1 r.2.2 ++ [.own 1 nq, .own 2 nt])
theorem vl1 (d : GDefinition) (hw : d.wf) (hs : d.size < 1048577) (hc : bd1 d) (t : Tm) (hg : goodT d t) (N : Nat) (hN : N ≤ 200) :
  wM0 Tryz.prog 88 [zW0 d.enc, tmV t, zG0 N] [] [zB (runF d N t 0) (xy1 d N t).length (xz1 d N t).length, qR (xy1 d N t), tR (xz1 d N t)] (.one (.ptr 0 0)) := by
 obtain ⟨hru, hnd, hst, hok⟩ := hc
 have hl := zs0 GRule.size d.ru
 have hl2 := zs0 GStrict.size d.st
 have hs' := hs
 simp only [GDefinition.size] at hs'
 have hrg : ∀ u, goodT d u → rng d.st u := fun u hu => good_rng d hst u hu
 have hnx : ∀ u, goodT d u → je0 d u := fun u hu => mi0 d (by omega) (by omega) hok u hu.1 (hrg u hu)
 have hred : ∀ u, goodT d u → ∀ q, u.nxt d.st (rootF d) = some q → qc1 d u q := fun u hu q hq => good_red d hst u hu q (next_mem d u (hrg u hu) q hq)
 have hdo : ∀ u, goodT d u → ∀ q, u.nxt d.st (rootF d) = some q → Sat Tryz.prog 70 [zW0 d.enc, tmV u, .agg [iC q.1, .c (.sl (q.2.map encI))]] (.tup [tmV (doB d u q), boolV (doB d u q).valid]) := fun u hu q hq =>
  cn0 d (by omega) hok u (by have := hu.1.1; omega) q (hred u hu q hq)
 have hgo : ∀ u, goodT d u → ∀ q, u.nxt d.st (rootF d) = some q → (doB d u q).valid = true → goodT d (doB d u q) := fun u hu q hq hv => good_do d hok u hu q (hred u hu q hq) hv
 have hcp := qR0 t (by have := hg.1.1; omega)
 obtain ⟨R, hR⟩ : ∃ R, R = runF d N t 0 := ⟨_, rfl⟩
 obtain ⟨TS, hTS⟩ : ∃ TS, TS = xz1 d N t := ⟨_, rfl⟩
 obtain ⟨QS, hQS⟩ : ∃ QS, QS = xy1 d N t := ⟨_, rfl⟩
 rw [← hR, ← hTS, ← hQS]
 obtain ⟨Rs, ⟨Rk, Rn, Rz, Ra⟩, Rc⟩ := R
 obtain ⟨⟨so, op⟩, ru, st⟩ := d
 obtain ⟨t0, ht0⟩ : ∃ t0, t0 = t := ⟨_, rfl⟩
 obtain ⟨tk, tn, tz, ta⟩ := t
 have hde : (⟨⟨so, op⟩, ru, st⟩ : GDefinition).enc = [.sl (so.map encS), .sl (op.map GOp.enc), .sl (ru.map GRule.enc), .sl (st.map GStrict.enc)] := rfl
 obtain ⟨dd, hdd⟩ : ∃ dd : GDefinition, dd = ⟨⟨so, op⟩, ru, st⟩ := ⟨_, rfl⟩
 refine yJ0 [(2, ([⟨13, 14, [29], [17]⟩, ⟨13, 15, [29], [30]⟩, ⟨12, 16, [28, 26], [31]⟩, ⟨13, 16, [29], [31]⟩], []))] zE0 zA0 Tryz.func88 rfl rfl rfl (by decide +kernel) (by decide +kernel) (Nat.le_of_ble_eq_true rfl) (by simp [go_sem]) (by simp [go_sem]) (by simp [go_sem, zPre]) (by simp [go_sem]) (by simp [go_sem]) rfl ?_
 refine mH1 ?_
 refine CallK.mk hcp ?_
 refine mH1 ?_
 refine yS0 [(2, ([⟨13, 14, [29], [17]⟩, ⟨13, 15, [29], [30]⟩, ⟨12, 16, [28, 26], [31]⟩, ⟨13, 16, [29], [31]⟩], []))] (ι := Nat × Tm × List (Int × List Int) × List Tm) (fun p => mk 100 [(2, zG0 N), (3, .one (.ptr 3 0)), (4, .one (.ptr 4 0)), (7, .one (.ptr 16 0))] [(3, .var [.c (.sl (so.map encS)), .c (.sl (op.map GOp.enc)), .c (.sl (ru.map GRule.enc)), .c (.sl (st.map GStrict.enc))]), (4, .var (kS1 (.mk tk tn tz ta))), (16, .var (zPre 1 p.2.1 p.1 ++ [.own 9101 p.2.2.1.length, .own 9102 p.2.2.2.length])), (9101, qR p.2.2.1), (9102, tR p.2.2.2)])
  (fun p => p.1 ≤ N ∧ goodT dd p.2.1 ∧ p.2.2.1.length = p.1 ∧ p.2.2.2.length = p.1 ∧ (Rs, Tm.mk Rk Rn Rz Ra, Rc) = runF dd (N - p.1) p.2.1 p.1 ∧ TS = p.2.2.2 ++ xz1 dd (N - p.1) p.2.1 ∧ QS = p.2.2.1 ++ xy1 dd (N - p.1) p.2.1) (fun p => N - p.1) (0, .mk tk tn tz ta, [], []) ⟨Nat.zero_le _, by rw [hdd]; exact hg, rfl, rfl, by rw [hdd]; exact hR, by rw [hdd]; exact hTS, by rw [hdd]; exact hQS⟩ ?_ zE0 zA0 (by decide +kernel) ?_
 ·simp only [kS1, zPre]
  exact (xC0 16 6 9101 100 2 (by simp [zK0]; rfl) (by simp) (by simp [zK0]) (by decide)).trans ((xC0 16 7 9102 34 4 (by simp [zK0]; rfl) (by simp) (by simp [zK0]) (by decide)).trans (le_mk (by simp [go_sem]) (by simp [go_sem, rowsOf])))
 ·rintro ⟨i, u, qs, ts⟩ ⟨hi, hgu, hql, htl, hR, hTS, hQS⟩
  simp only at hi hgu hql htl hR hTS hQS ⊢
  rw [← hdd] at hnx hdo hgo
  have hnx := hnx u hgu
  simp only [je0] at hnx
  have hdo := hdo u hgu
  have hgo := hgo u hgu
  unfold runF at hR
  unfold xz1 at hTS
  unfold xy1 at hQS
  generalize u.nxt dd.st (rootF dd) = o at hnx hdo hgo hR hTS hQS
  obtain ⟨uk, un, uz, ua⟩ := u
  rw [hdd, hde] at hnx
  simp only [zPre, kS1]
  have hlast : ∀ X : List AC, (rowsOf Tm.enc ts ++ [X]).getD ts.length [] = X := fun X => by simp [rowsOf, List.getD]
  refine qV0 ?_
  refine ⟨⟨by simp, by omega, by omega⟩, fun _ => ⟨by omega, fun _ => ⟨by rw [hlast]; simp, fun _ => CallK.mk hnx ?_⟩⟩⟩
  obtain ⟨m, hm⟩ : ∃ m, N - i = m := ⟨_, rfl⟩
  rw [hm] at hR hTS hQS
  cases o with
  | none =>
   simp only at hR hTS hQS
   cases hR
   subst hTS hQS
   simp -implicitDefEqProofs (disch := omega) only [go_sem, rdx, Option.isSome_none]
   exact tM1
  | some q =>
   have hdo := hdo q rfl
   have hgo := hgo q rfl
   cases m with
   | zero =>
    simp only at hR hTS hQS
    have hiN : i = N := by omega
    cases hR
    subst hTS hQS
    simp -implicitDefEqProofs (disch := omega) only [go_sem, rdx, Option.isSome_some]
    refine ⟨fun _ => ⟨[16, 9101, 9102], by simp, rfl, by simp [go_sem, rowsOf, zPre, Tm.enc], rfl⟩, fun h => ?_⟩
    simp only [beq_eq_false_iff_ne] at h
    omega
   | succ m =>
    simp only at hR hTS hQS
    have hiN : ((i : Int) == (N : Int)) = false := by simp; omega
    generalize (doB dd (.mk uk un uz ua) q).valid = bv at hdo hgo hR hTS hQS
    generalize doB dd (.mk uk un uz ua) q = v at hdo hgo hR hTS hQS
    obtain ⟨vk, vn, vz, va⟩ := v
    rw [hdd, hde] at hdo
    cases bv with
    | false =>
     simp only [Bool.false_eq_true, if_false] at hR hTS hQS
     cases hR
     subst hTS hQS
     simp -implicitDefEqProofs (disch := omega) only [go_sem, rdx, Option.isSome_some, hiN, List.nil_append]
     refine c4' hdo ?_
     exact tM1
    | true =>
     simp only [if_true] at hR hTS hQS
     simp -implicitDefEqProofs (disch := omega) only [go_sem, rdx, Option.isSome_some, hiN, List.nil_append]
     refine c4' hdo ?_
     refine ⟨⟨by simp, by omega, by omega⟩, fun _ => ⟨(i + 1, .mk vk vn vz va, qs ++ [q], ts ++ [.mk uk un uz ua]), ⟨by simp only; omega, hgo rfl, by simp [hql], by simp [htl], ?_, ?_, ?_⟩, by simp only; omega, le_mk (by simp [go_sem]) (by simp [go_sem, rowsOf, zPre, Tm.enc, cf1])⟩⟩
     ·simp only
      rw [show N - (i + 1) = m by omega]; exact hR
     ·simp only
      rw [show N - (i + 1) = m by omega, hTS]; simp
     ·simp only
      rw [show N - (i + 1) = m by omega, hQS]; simp
def runOk (d : GDefinition) (t : Tm) (fuel : Int) : Bool := wf0 d t && (decide (0 ≤ fuel) && decide (fuel ≤ 200))
theorem specGood_sat (d : GDefinition) (hs : d.size < 1048577) (t : Tm) (ht : t.size < 30000000) (fuel : Int) : Sat Tryz.prog 83 [zW0 d.enc, tmV t, zG0 fuel] (boolV (runOk d t fuel)) := by
 have hc := bE0 d hs t ht
 have hin := wR0 fuel 0 200
 unfold runOk
 generalize (decide (0 ≤ fuel) && decide (fuel ≤ 200)) = b2 at hin ⊢
 generalize wf0 d t = b at hc ⊢
 obtain ⟨k, n, s, ts⟩ := t
 have hde := dE' d
 refine soc zE0 zA0 Tryz.func83 ?_
 simp -implicitDefEqProofs only [go_sem, Tm.enc, hde]
 refine c8' hc ?_
 refine ⟨fun h => ?_, fun h => by rw [h]; rfl⟩
 refine c8' hin ?_
 rw [h, Bool.true_and]
theorem bJ0 (d : GDefinition) (hw : d.wf) (hs : d.size < 1048577) (t : Tm) (htw : t.wf) (ht : t.size < 1048577) (hcf : wf0 d t = true) (N : Nat) (hN : N ≤ 200) :
  Sat Tryz.prog 30 [zW0 d.enc, tmV t, zG0 N] (zW0 ([.v (.int .i64 (runF d N t 0).1)] ++ (runF d N t 0).2.1.enc ++ [.v (.int .i64 ((runF d N t 0).2.2 : Nat))])) := by
 have hgd := specGood_sat d hs t (by omega) N
 have hN' : decide ((N : Int) ≤ 200) = true := decide_eq_true (by omega)
 have hN0 : decide (0 ≤ (N : Int)) = true := decide_eq_true (by omega)
 unfold runOk at hgd
 rw [hcf, hN', hN0] at hgd
 have hx := vl1 d hw hs (yU1 d hw t htw hcf) t (good_cfg d hw t htw hcf).1 N hN
 generalize runF d N t 0 = R at hx ⊢
 generalize (xy1 d N t).length = nq at hx
 generalize xy1 d N t = QS at hx
 generalize (xz1 d N t).length = nt at hx
 generalize xz1 d N t = TS at hx
 obtain ⟨Rs, ⟨Rk, Rn, Rz, Ra⟩, Rc⟩ := R
 obtain ⟨⟨so, op⟩, ru, st⟩ := d
 obtain ⟨tk, tn, tz, ta⟩ := t
 refine soc zE0 zA0 Tryz.func30 ?_
 refine sr1 ?_
 refine CallK.mk hgd ?_
 refine sr1 ?_
 refine CallK.con [] [9101, 9102, 9103] rfl hx (by simp [go_sem, zPre, GDefinition.enc, GSignature.enc, Tm.enc, encS, encL]) ?_
 simp -implicitDefEqProofs only [go_sem, zPre]
 simp [Tm.enc]
end Go.Ai
