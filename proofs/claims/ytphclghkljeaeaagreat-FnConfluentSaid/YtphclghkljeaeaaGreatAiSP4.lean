/- State spaces: what they are. (Of AiX1, beside AiA4's redexes.) -/
import Derived.Test.YtphclghkljeaeaaGreatAiA4
import Derived.Test.YtphclghkljeaeaaGreatAiI5
import Derived.Test.YtphclghkljeaeaaGreatAiPR3
set_option linter.unusedVariables false
set_option linter.unusedSimpArgs false
namespace Go.Ai
open Go.Proofs Go.RowKit
set_option maxRecDepth 100000
structure GMove where
 fr : Int
 tg : Int
 re : GRedex
def GMove.enc (x : GMove) : List C := encI x.fr ++ (encI x.tg ++ (GRedex.enc x.re))
def GMove.size (x : GMove) : Nat := szI x.fr + szI x.tg + GRedex.size x.re
def GMove.wf (x : GMove) : Prop := wfI x.fr ∧ wfI x.tg ∧ GRedex.wf x.re
def GMove.eqb (x y : GMove) : Bool := eqI x.fr y.fr && (eqI x.tg y.tg && (GRedex.eqb x.re y.re))
theorem GMove.enc_len (x : GMove) : x.enc.length = 4 := by simp [GMove.enc, encI, encS, wx1, encL, Go.Ai.enc_len, GRedex.enc_len]
theorem GMove.enc_take (x : GMove) : x.enc.take 4 = x.enc := List.take_of_length_le (by rw [GMove.enc_len]; exact Nat.le_refl _)
theorem GMove.encm_take (x : GMove) : (x.enc.map AC.c).take 4 = x.enc.map AC.c := List.take_of_length_le (by rw [List.length_map, GMove.enc_len]; exact Nat.le_refl _)
attribute [go_sem] GMove.enc_len GMove.enc_take GMove.encm_take
structure GSpace where
 te : List Tm
 mo : List GMove
 fu : Bool
def GSpace.enc (x : GSpace) : List C := encL Tm.enc x.te ++ (encL GMove.enc x.mo ++ (wx1 x.fu))
def GSpace.size (x : GSpace) : Nat := (szL Tm.size) x.te + (szL GMove.size) x.mo + szB x.fu
def GSpace.wf (x : GSpace) : Prop := (wfL Tm.wf) x.te ∧ (wfL GMove.wf) x.mo ∧ wfB x.fu
def GSpace.eqb (x y : GSpace) : Bool := (eqL Tm.eqb) x.te y.te && ((eqL GMove.eqb) x.mo y.mo && (eqB x.fu y.fu))
theorem GSpace.enc_len (x : GSpace) : x.enc.length = 3 := by simp [GSpace.enc, encI, encS, wx1, encL, Go.Ai.enc_len]
theorem GSpace.enc_take (x : GSpace) : x.enc.take 3 = x.enc := List.take_of_length_le (by rw [GSpace.enc_len]; exact Nat.le_refl _)
theorem GSpace.encm_take (x : GSpace) : (x.enc.map AC.c).take 3 = x.enc.map AC.c := List.take_of_length_le (by rw [List.length_map, GSpace.enc_len]; exact Nat.le_refl _)
attribute [go_sem] GSpace.enc_len GSpace.enc_take GSpace.encm_take
end Go.Ai
/- State spaces explored: what holds of them. -/
namespace Go.Ai
open Go.Proofs
set_option maxRecDepth 100000
theorem cC1 : ∀ (t u : Tm), t.eqb u = true ↔ t = u := by
 refine Tm.ind (fun k n s ts ih u => ?_)
 obtain ⟨k', n', s', ts'⟩ := u
 have hs : ∀ (us : List Tm), Tm.eqbs ts us = true ↔ ts = us := by
  induction ts with
  | nil => intro us; cases us <;> simp [Tm.eqbs]
  | cons a ts ihs =>
   intro us
   cases us with
   | nil => simp [Tm.eqbs]
   | cons b us =>
    simp only [Tm.eqbs, Bool.and_eq_true, List.cons.injEq]
    rw [ih a (List.mem_cons_self) b, ihs (fun t ht => ih t (List.mem_cons_of_mem _ ht))]
 have hss : s.toList = s'.toList ↔ s = s' := by rw [← qZ0]; simp [eqS]
 simp only [Tm.eqb, Bool.and_eq_true, hs, Tm.mk.injEq, beq_iff_eq, hss]
theorem st0 (sg : GSignature) : ∀ (t : Tm), t.nodes = true → t.sort sg [] ≠ sE → t.vars = [] := by
 refine Tm.ind (fun k n s ts ih hn hs => ?_)
 have hsub : Tm.varss ts = [] → k ≠ 1 → (Tm.mk k n s ts).vars = [] := fun h hk => by
  have : (k == 1) = false := by simpa using hk
  simp [Tm.vars, this, h]
 rcases nM0 sg [] k n s ts hs with rfl | rfl | rfl
 ·exact absurd (bX0 sg n s ts) hs
 ·refine hsub ?_ (by decide)
  obtain ⟨o, h1, h2, h3, _⟩ := jx0 sg [] n s ts hs
  simp only [Tm.nodes, Bool.and_eq_true] at hn
  have hn2 := hn.2
  rw [xY0] at hn2
  have hall : ∀ t, t ∈ ts → t.vars = [] := fun t ht => by
   obtain ⟨i, hi, rfl⟩ := List.mem_iff_getElem.1 ht
   exact ih _ ht (List.all_eq_true.1 hn2 _ ht) (vp0 sg ts o.ar i hi h2 h3)
  have hlist : ∀ (us : List Tm), (∀ t, t ∈ us → t.vars = []) → Tm.varss us = [] := fun us => by
   induction us with
   | nil => intro _; rfl
   | cons a ts iht =>
    intro hall
    simp only [Tm.varss, hall a (List.mem_cons_self), List.nil_append]
    exact iht (fun t ht => hall t (List.mem_cons_of_mem _ ht))
  exact hlist ts hall
 ·obtain rfl := jU0 n s ts 3 (by decide) hn
  exact hsub rfl (by decide)
theorem rM0 (d : GDefinition) (hd : du0 d = true) (v : Tm) (hv : v.valid = true) (h : jk0 d v) : yr0 d v = true := by
 simp only [yr0, hd, hv, st0 d.si v h.2.1 h.2.2, (eqS_ne _ _).2 h.2.2, Bool.true_and, List.length_nil, BEq.rfl, Bool.not_false, Bool.and_self]
theorem pu1 (d : GDefinition) (v : Tm) (h : yr0 d v = true) : du0 d = true := by
 simp only [yr0, Bool.and_eq_true] at h
 exact h.1.1.1
def xM1 (u : Tm) : List Tm → Nat → Option Nat
 | [], _ => none
 | t :: ts, k => if t.eqb u then some k else xM1 u ts (k + 1)
theorem mH0 (u : Tm) : ∀ (ts : List Tm) (k j : Nat), xM1 u ts k = some j → ∃ i, j = k + i ∧ ts[i]? = some u
 | [], _, _, h => by cases h
 | t :: ts, k, j, h => by
  simp only [xM1] at h
  split at h
  ·rename_i he
   cases h
   exact ⟨0, rfl, by simp [(cC1 t u).1 he]⟩
  ·obtain ⟨i, h1, h2⟩ := mH0 u ts (k + 1) j h
   exact ⟨i + 1, by omega, by simpa using h2⟩
def po0 (d : GDefinition) (fr : Nat) (t : Tm) (x : GSpace) (q : Int × List Int) : GSpace :=
 if (doB d t q).valid then match xM1 (doB d t q) x.te 0 with
  | some k => ⟨x.te, x.mo ++ [⟨(fr : Int), (k : Int), rdG q⟩], x.fu⟩
  | none => if x.te.length = 40 then ⟨x.te, x.mo, false⟩ else ⟨x.te ++ [doB d t q], x.mo ++ [⟨(fr : Int), (x.te.length : Int), rdG q⟩], x.fu⟩
 else ⟨x.te, x.mo, false⟩
def km0 (d : GDefinition) (fr : Nat) (t : Tm) (qs : List (Int × List Int)) (x : GSpace) : GSpace := qs.foldl (po0 d fr t) x
def kn0 (d : GDefinition) (t : Tm) : List (Int × List Int) := t.all d.st (wU0 d)
structure Inv (d : GDefinition) (t0 : Tm) (k : Nat) (u : Tm) (done : List (Int × List Int)) (x : GSpace) : Prop where
 first : x.te[0]? = some t0
 len : x.te.length ≤ 40
 good : ∀ v, v ∈ x.te → jk0 d v
 cfg : ∀ v, v ∈ x.te → yr0 d v = true
 mv : ∀ m, m ∈ x.mo → ∃ (i j : Nat) (q : Int × List Int) (v : Tm), m = ⟨(i : Int), (j : Int), rdG q⟩ ∧ x.te[i]? = some v ∧ q ∈ kn0 d v ∧ (doB d v q).valid = true ∧ x.te[j]? = some (doB d v q)
 mlen : x.mo.length ≤ 960 * k + done.length
 full : x.fu = true → (∀ i v, i < k → x.te[i]? = some v → ∀ q, q ∈ kn0 d v → (doB d v q).valid = true ∧ doB d v q ∈ x.te) ∧ ∀ q, q ∈ done → (doB d u q).valid = true ∧ doB d u q ∈ x.te
 way : ∀ j, 0 < j → j < x.te.length → ∃ m i, x.mo.find? (fun m => m.tg == (j : Int)) = some m ∧ m.fr = ((i : Nat) : Int) ∧ i < j
theorem fd0 {α : Type} {xs ys : List α} {i : Nat} {v : α} (h : xs[i]? = some v) : (xs ++ ys)[i]? = some v := by
 rw [List.getElem?_append_left (List.getElem?_eq_some_iff.1 h).1, h]
theorem xN1 (d : GDefinition) (hok : ∀ x, x ∈ d.ru → qm0 x ∧ qs0 d.si x = true) (hst : dT0 d.si d.st = true) (t0 : Tm) (k : Nat) (u : Tm) (done : List (Int × List Int)) (x : GSpace) (h : Inv d t0 k u done x) (hu : x.te[k]? = some u) (q : Int × List Int) (hq : q ∈ kn0 d u) :
  Inv d t0 k u (done ++ [q]) (po0 d k u x q) ∧ (po0 d k u x q).te[k]? = some u := by
 have hum : u ∈ x.te := List.mem_of_getElem? hu
 have hred := vk0 d hst u (h.good u hum) q hq
 have hlt : k < x.te.length := (List.getElem?_eq_some_iff.1 hu).1
 unfold po0
 split
 case isFalse => exact ⟨{ h with mlen := by have := h.mlen; simp only [List.length_append, List.length_singleton]; omega, full := fun hf => by cases hf }, hu⟩
 rename_i hv
 have hgo := jT1 d hok u (h.good u hum) q hred hv
 have hcv := rM0 d (pu1 d u (h.cfg u hum)) (doB d u q) hv hgo
 split
 ·rename_i j hj
  obtain ⟨i, e, hi⟩ := mH0 _ _ _ _ hj
  have e : j = i := by omega
  subst e
  refine ⟨{ h with mv := fun m hm => ?_, mlen := by have := h.mlen; simp only [List.length_append, List.length_singleton]; omega, full := fun hf => ?_, way := fun n hn hl => ?_ }, hu⟩
  ·rcases List.mem_append.1 hm with hm | hm
   ·exact h.mv m hm
   ·rw [List.mem_singleton.1 hm]
    exact ⟨k, j, q, u, rfl, hu, hq, hv, hi⟩
  ·obtain ⟨f1, f2⟩ := h.full hf
   refine ⟨f1, fun r hr => ?_⟩
   rcases List.mem_append.1 hr with hr | hr
   ·exact f2 r hr
   ·rw [List.mem_singleton.1 hr]
    exact ⟨hv, List.mem_of_getElem? hi⟩
  ·obtain ⟨m, i, h1, h2, h3⟩ := h.way n hn hl
   exact ⟨m, i, by simp only [List.find?_append, h1, Option.some_or], h2, h3⟩
 ·split
  ·exact ⟨{ h with mlen := by have := h.mlen; simp only [List.length_append, List.length_singleton]; omega, full := fun hf => by cases hf }, hu⟩
  ·rename_i hn hl
   have hlen := h.len
   have hend : (x.te ++ [doB d u q])[x.te.length]? = some (doB d u q) := by simp
   refine ⟨{ first := fd0 h.first, len := by simp only [List.length_append, List.length_singleton]; omega, good := fun v hv => ?_, cfg := fun v hv => ?_, mv := fun m hm => ?_, mlen := by have := h.mlen; simp only [List.length_append, List.length_singleton]; omega, full := fun hf => ?_, way := fun n hn hl => ?_ }, fd0 hu⟩
   ·rcases List.mem_append.1 hv with hv | hv
    ·exact h.good v hv
    ·rw [List.mem_singleton.1 hv]; exact hgo
   ·rcases List.mem_append.1 hv with hv | hv
    ·exact h.cfg v hv
    ·rw [List.mem_singleton.1 hv]; exact hcv
   ·rcases List.mem_append.1 hm with hm | hm
    ·obtain ⟨i, j, r, v, e, h1, h2, h3, h4⟩ := h.mv m hm
     exact ⟨i, j, r, v, e, fd0 h1, h2, h3, fd0 h4⟩
    ·rw [List.mem_singleton.1 hm]
     exact ⟨k, x.te.length, q, u, rfl, fd0 hu, hq, hv, hend⟩
   ·obtain ⟨f1, f2⟩ := h.full hf
    refine ⟨fun i v hi hv r hr => ?_, fun r hr => ?_⟩
    ·rw [List.getElem?_append_left (by omega)] at hv
     obtain ⟨a, b⟩ := f1 i v hi hv r hr
     exact ⟨a, List.mem_append_left _ b⟩
    ·rcases List.mem_append.1 hr with hr | hr
     ·obtain ⟨a, b⟩ := f2 r hr
      exact ⟨a, List.mem_append_left _ b⟩
     ·rw [List.mem_singleton.1 hr]
      exact ⟨hv, List.mem_append_right _ (List.mem_singleton_self _)⟩
   ·simp only [List.length_append, List.length_singleton] at hl
    by_cases hc : n < x.te.length
    ·obtain ⟨m, i, h1, h2, h3⟩ := h.way n hn hc
     exact ⟨m, i, by simp only [List.find?_append, h1, Option.some_or], h2, h3⟩
    ·have : n = x.te.length := by omega
     subst this
     refine ⟨⟨(k : Int), (x.te.length : Int), rdG q⟩, k, ?_, rfl, hlt⟩
     have hno : x.mo.find? (fun m => m.tg == ((x.te.length : Nat) : Int)) = none := by
      rw [List.find?_eq_none]
      intro m hm
      obtain ⟨i, j, r, v, e, _, _, _, h4⟩ := h.mv m hm
      have := (List.getElem?_eq_some_iff.1 h4).1
      rw [e]
      simp only [beq_iff_eq]
      omega
     simp only [List.find?_append, hno, Option.none_or]
     simp
theorem rx0 (d : GDefinition) (hok : ∀ x, x ∈ d.ru → qm0 x ∧ qs0 d.si x = true) (hst : dT0 d.si d.st = true) (t0 : Tm) (k : Nat) (u : Tm) : ∀ (qs done : List (Int × List Int)) (x : GSpace), Inv d t0 k u done x → x.te[k]? = some u → (∀ q, q ∈ qs → q ∈ kn0 d u) →
  Inv d t0 k u (done ++ qs) (km0 d k u qs x) ∧ (km0 d k u qs x).te[k]? = some u
 | [], done, x, h, hu, _ => by rw [List.append_nil]; exact ⟨h, hu⟩
 | q :: qs, done, x, h, hu, hq => by
  obtain ⟨h1, h2⟩ := xN1 d hok hst t0 k u done x h hu q (hq q (by simp))
  have := rx0 d hok hst t0 k u qs (done ++ [q]) _ h1 h2 (fun r hr => hq r (by simp [hr]))
  rwa [List.append_assoc, List.singleton_append] at this
def wT0 (d : GDefinition) : Nat → Nat → GSpace → GSpace
 | 0, _, x => x
 | n + 1, k, x => match x.te[k]? with
  | some u => wT0 d n (k + 1) (km0 d k u (kn0 d u) x)
  | none => x
def vg0 : GSpace := ⟨[], [], false⟩
def zw0 (d : GDefinition) (t : Tm) : GSpace := if yr0 d t then wT0 d 41 0 ⟨[t], [], true⟩ else vg0
structure Done (d : GDefinition) (t0 : Tm) (x : GSpace) : Prop where
 first : x.te[0]? = some t0
 len : x.te.length ≤ 40
 good : ∀ v, v ∈ x.te → jk0 d v
 cfg : ∀ v, v ∈ x.te → yr0 d v = true
 mv : ∀ m, m ∈ x.mo → ∃ (i j : Nat) (q : Int × List Int) (v : Tm), m = ⟨(i : Int), (j : Int), rdG q⟩ ∧ x.te[i]? = some v ∧ q ∈ kn0 d v ∧ (doB d v q).valid = true ∧ x.te[j]? = some (doB d v q)
 mlen : x.mo.length ≤ 40000
 full : x.fu = true → ∀ v, v ∈ x.te → ∀ q, q ∈ kn0 d v → (doB d v q).valid = true ∧ doB d v q ∈ x.te
 way : ∀ j, 0 < j → j < x.te.length → ∃ m i, x.mo.find? (fun m => m.tg == (j : Int)) = some m ∧ m.fr = ((i : Nat) : Int) ∧ i < j
theorem tl0 (d : GDefinition) (hok : ∀ x, x ∈ d.ru → qm0 x ∧ qs0 d.si x = true) (hst : dT0 d.si d.st = true) (hru : d.ru.length ≤ 16) (hnd : ndS d.st) (t0 : Tm) (k : Nat) (u z : Tm) (x : GSpace) (h : Inv d t0 k z [] x) (hu : x.te[k]? = some u) : Inv d t0 (k + 1) z [] (km0 d k u (kn0 d u) x) := by
 have h0 : Inv d t0 k u [] x := { h with full := fun hf => ⟨(h.full hf).1, fun q hq => by cases hq⟩ }
 obtain ⟨h1, h2⟩ := rx0 d hok hst t0 k u (kn0 d u) [] x h0 hu (fun q hq => hq)
 rw [List.nil_append] at h1
 have hal := tf0 d hru hnd hst u (h.good u (List.mem_of_getElem? hu))
 refine { h1 with mlen := ?_, full := fun hf => ⟨fun i v hi hv => ?_, fun q hq => by cases hq⟩ }
 ·have := h1.mlen
  have e : (kn0 d u).length ≤ 960 := hal
  simp only [List.length_nil]
  omega
 ·obtain ⟨f1, f2⟩ := h1.full hf
  rcases Nat.lt_or_ge i k with hlt | hge
  ·exact f1 i v hlt hv
  ·have : i = k := by omega
   subst this
   rw [h2] at hv
   cases hv
   exact f2
theorem tk0 (d : GDefinition) (t0 z : Tm) (k : Nat) (x : GSpace) (hk : k ≤ 41) (hle : x.te.length ≤ k) (h : Inv d t0 k z [] x) : Done d t0 x := by
 refine { first := h.first, len := h.len, good := h.good, cfg := h.cfg, mv := h.mv, mlen := by have := h.mlen; simp only [List.length_nil] at this; omega, full := fun hf v hv q hq => ?_, way := h.way }
 obtain ⟨i, hi, e⟩ := List.mem_iff_getElem.1 hv
 exact (h.full hf).1 i v (by omega) (by rw [List.getElem?_eq_getElem hi, e]) q hq
theorem jZ1 (d : GDefinition) (hok : ∀ x, x ∈ d.ru → qm0 x ∧ qs0 d.si x = true) (hst : dT0 d.si d.st = true) (hru : d.ru.length ≤ 16) (hnd : ndS d.st) (t0 z : Tm) : ∀ (n k : Nat) (x : GSpace), n + k = 41 → Inv d t0 k z [] x → Done d t0 (wT0 d n k x)
 | 0, k, x, e, h => by
  simp only [wT0]
  exact tk0 d t0 z k x (by omega) (by have := h.len; omega) h
 | n + 1, k, x, e, h => by
  simp only [wT0]
  split
  ·rename_i u hu
   exact jZ1 d hok hst hru hnd t0 z n (k + 1) _ (by omega) (tl0 d hok hst hru hnd t0 k u z x h hu)
  ·rename_i hn
   exact tk0 d t0 z k x (by omega) (by simpa using hn) h
theorem yy0 (d : GDefinition) (hw : d.wf) (t : Tm) (htw : t.wf) (hc : yr0 d t = true) : Done d t (zw0 d t) := by
 obtain ⟨hg, hst⟩ := pv0 d hw t htw hc
 unfold zw0
 rw [if_pos hc]
 refine jZ1 d (fun x hx => ⟨(fP0 d hw t htw hc).1 x hx, (fP0 d hw t htw hc).2.2 x hx⟩) hst (pQ1 d t hc) (pP1 d t hc) t t 41 0 _ rfl ⟨rfl, by simp, fun v hv => (List.mem_singleton.1 hv) ▸ hg, fun v hv => (List.mem_singleton.1 hv) ▸ hc, fun m hm => (List.not_mem_nil hm).elim, by simp, fun _ => ⟨fun i v hi => by omega, fun q hq => (List.not_mem_nil hq).elim⟩, fun j hj hl => ?_⟩
 simp only [List.length_singleton] at hl
 omega
end Go.Ai
/- Spaces are explored in the reference. -/
namespace Go.Ai
open Go.Proofs
set_option maxRecDepth 100000
def atI : Option Nat → Int
 | some k => (k : Int)
 | none => -1
theorem jc1 (ts : List Tm) (hl : ts.length < 1000000) (hw : ∀ t, t ∈ ts → t.wf) (u : Tm) : Sat Tryz.prog 127 [slV (ts.map Tm.enc), tmV u] (zG0 (atI (xM1 u ts 0))) := by
 obtain ⟨r, hr⟩ : ∃ r, r = atI (xM1 u ts 0) := ⟨_, rfl⟩
 rw [← hr]
 obtain ⟨k, n, s, us⟩ := u
 refine soc zF0 zB0 Tryz.func127 ?_
 simp -implicitDefEqProofs (disch := omega) only [go_sem, List.length_map, Tm.enc]
 refine zC0 (ι := Nat) (fun i => mk 19 [(0, slV (ts.map Tm.enc)), (3, .one (.ptr 3 0)), (5, zG0 i)] [(3, .var (bi0 (.mk k n s us)))]) (fun i => i ≤ ts.length ∧ r = atI (xM1 (.mk k n s us) (ts.drop i) i)) (fun i => ts.length - i) 0 ⟨Nat.zero_le _, by simpa using hr⟩ ?_ zF0 zB0 (by decide +kernel) ?_
 ·simp only [bi0]
  exact lek
 ·rintro i ⟨hi, hr⟩
  rcases Nat.lt_or_ge i ts.length with hlt | hge
  ·have hg := zE0 (ec := Tm.enc) hlt
   have he := qi0 ts[i] (hw _ (List.getElem_mem hlt)) (.mk k n s us)
   rw [List.drop_eq_getElem_cons hlt] at hr
   simp only [xM1] at hr
   generalize ts[i] = t at hg he hr
   generalize t.eqb (.mk k n s us) = b at he hr
   obtain ⟨tk, tn, tz, ta⟩ := t
   simp only [Tm.enc] at hg
   simp only [bi0]
   refine pi0 ?_
   refine bs1 he ?_
   refine ⟨fun h => ?_, fun h => ⟨i + 1, ⟨hlt, ?_⟩, by omega, lek⟩⟩
   ·rw [hr, h]; rfl
   ·rw [hr, h]; rfl
  ·have : i = ts.length := by omega
   subst this
   rw [List.drop_length] at hr
   simp only [bi0]
   refine wy1 ?_
   exact hr.symm
abbrev teR (x : GSpace) : LB := .arr 34 4 (zA0 Tm.enc x.te) false
abbrev moR (x : GSpace) : LB := .arr 104 4 (zA0 GMove.enc x.mo) false
abbrev spB (x : GSpace) (f : Bool) : LB := .var [.own 1 x.te.length, .own 2 x.mo.length, .c (.v (.bool f))]
theorem xv1 (d : GDefinition) (k : Nat) (u : Tm) (q : Int × List Int) (te : List Tm) (mo : List GMove) (f g : Bool) : po0 d k u ⟨te, mo, f && g⟩ q = ⟨(po0 d k u ⟨te, mo, g⟩ q).te, (po0 d k u ⟨te, mo, g⟩ q).mo, f && (po0 d k u ⟨te, mo, g⟩ q).fu⟩ := by
 unfold po0
 simp only
 split
 ·split
  ·rfl
  ·split
   ·simp
   ·rfl
 ·simp
theorem da0 (d : GDefinition) (k : Nat) (u : Tm) (f : Bool) : ∀ (qs : List (Int × List Int)) (te : List Tm) (mo : List GMove) (g : Bool), km0 d k u qs ⟨te, mo, f && g⟩ = ⟨(km0 d k u qs ⟨te, mo, g⟩).te, (km0 d k u qs ⟨te, mo, g⟩).mo, f && (km0 d k u qs ⟨te, mo, g⟩).fu⟩
 | [], te, mo, g => rfl
 | q :: qs, te, mo, g => by
  show km0 d k u qs (po0 d k u ⟨te, mo, f && g⟩ q) = _
  rw [xv1, da0 d k u f qs]
  rfl
theorem yP1 (d : GDefinition) (k : Nat) (u : Tm) (qs : List (Int × List Int)) (x : GSpace) (i : Nat) (h : i < qs.length) : km0 d k u (qs.take (i + 1)) x = po0 d k u (km0 d k u (qs.take i) x) qs[i] := by
 unfold km0
 rw [List.take_succ_eq_append_getElem h, List.foldl_append]; rfl
def xD1 (d : GDefinition) : Prop := d.ru.length ≤ 16 ∧ ndS d.st ∧ dT0 d.si d.st = true ∧ ∀ x, x ∈ d.ru → qm0 x ∧ qs0 d.si x = true
theorem fW0 (d : GDefinition) (hw : d.wf) (t : Tm) (htw : t.wf) (hc : yr0 d t = true) : xD1 d :=
 ⟨pQ1 d t hc, pP1 d t hc, (pv0 d hw t htw hc).2, fun x hx => ⟨(fP0 d hw t htw hc).1 x hx, (fP0 d hw t htw hc).2.2 x hx⟩⟩
theorem qd1 (d : GDefinition) (hw : d.wf) (hs : d.size < 1048577) (hc : xD1 d) (t0 : Tm) (k : Nat) (u : Tm) (x : GSpace) (hinv : Inv d t0 k u [] x) (hu : x.te[k]? = some u) :
  wB0 Tryz.prog 59 [zv0 d.enc, .one (.ptr 0 0), zG0 k] [spB x x.fu, teR x, moR x] [spB (km0 d k u (kn0 d u) ⟨x.te, x.mo, true⟩) x.fu, teR (km0 d k u (kn0 d u) ⟨x.te, x.mo, true⟩), moR (km0 d k u (kn0 d u) ⟨x.te, x.mo, true⟩)] (boolV (km0 d k u (kn0 d u) ⟨x.te, x.mo, true⟩).fu) := by
 obtain ⟨hru, hnd, hst, hok⟩ := hc
 have hl2 := qF0 GStrict.size d.st
 have hs' := hs
 simp only [GDefinition.size] at hs'
 have hgu := hinv.good u (List.mem_of_getElem? hu)
 have hrg := pw0 d hst u hgu
 have hal := tf0 d hru hnd hst u hgu
 have hau : bn0 Tryz.prog 69 [zv0 d.enc, tmV u, slV []] [] 100 2 (zA0 rc0 []) (zA0 rc0 (kn0 d u)) [] := by
  have h1 := cH0 d (by omega) (by omega) hnd hok u hgu.1 hrg [] [] (by have := hgu.1.1; simp; omega) (by
   have h1 := hgu.1.2.1
   have := Nat.mul_le_mul hru h1
   simp only [List.length_nil]; omega)
  simpa [wS0, kn0] using h1
 have hdo : ∀ q, q ∈ kn0 d u → Sat Tryz.prog 70 [zv0 d.enc, tmV u, .agg [iC q.1, .c (.sl (q.2.map encI))]] (.tup [tmV (doB d u q), boolV (doB d u q).valid]) := fun q hq =>
  dQ0 d (by omega) hok u (by have := hgu.1.1; omega) q (vk0 d hst u hgu q hq)
 -- what holds on the way
 have hway : ∀ i, i ≤ (kn0 d u).length → ∀ y, y = km0 d k u ((kn0 d u).take i) ⟨x.te, x.mo, true⟩ → y.te[k]? = some u ∧ y.te.length ≤ 40 ∧ (∀ t, t ∈ y.te → t.wf) ∧ y.mo.length ≤ 60000 := by
  intro i hi y hy
  have h0 : Inv d t0 k u [] ⟨x.te, x.mo, false⟩ := { hinv with full := fun h => by cases h }
  obtain ⟨h1, h2⟩ := rx0 d hok hst t0 k u ((kn0 d u).take i) [] _ h0 hu (fun q hq => List.mem_of_mem_take hq)
  have h3 := da0 d k u false ((kn0 d u).take i) x.te x.mo true
  rw [← hy] at h3
  simp only [Bool.false_and] at h3
  rw [h3] at h1 h2
  refine ⟨h2, h1.len, fun t ht => (h1.good t ht).1.2.2, ?_⟩
  have h4 := h1.mlen
  have h5 : k < 40 := by have := (List.getElem?_eq_some_iff.1 hu).1; have := hinv.len; omega
  have h6 : (kn0 d u).length ≤ 960 := hal
  simp only [List.nil_append, List.length_take] at h4
  omega
 have hlq : (kn0 d u).length ≤ 960 := hal
 have hred : ∀ q, q ∈ kn0 d u → q.2.length < 1000 := fun q hq => (vk0 d hst u hgu q hq).1
 obtain ⟨L, hL⟩ : ∃ L, L = kn0 d u := ⟨_, rfl⟩
 have hstep := yP1 d k u L ⟨x.te, x.mo, true⟩
 rw [← hL] at hau hdo hway hlq hred ⊢
 clear hal
 have hx40 := hinv.len
 have hk : k < x.te.length := (List.getElem?_eq_some_iff.1 hu).1
 have hum : (x.te.map Tm.enc).getD k [] = u.enc := by
  rw [List.getD_eq_getElem?_getD, List.getElem?_map, hu]; rfl
 obtain ⟨yE, hyE⟩ : ∃ yE, yE = km0 d k u L ⟨x.te, x.mo, true⟩ := ⟨_, rfl⟩
 rw [← hyE]
 obtain ⟨⟨so, op⟩, ru, st⟩ := d
 obtain ⟨uk, un, uz, ua⟩ := u
 have hde : (⟨⟨so, op⟩, ru, st⟩ : GDefinition).enc = [.sl (so.map encS), .sl (op.map GOp.enc), .sl (ru.map GRule.enc), .sl (st.map GStrict.enc)] := rfl
 obtain ⟨dd, hdd⟩ : ∃ dd : GDefinition, dd = ⟨⟨so, op⟩, ru, st⟩ := ⟨_, rfl⟩
 simp only [Tm.enc] at hum
 refine sxv [(12, ([⟨9, 10, [81], [73]⟩, ⟨9, 11, [81], [82]⟩, ⟨8, 12, [80, 78], [83]⟩, ⟨9, 12, [81], [83]⟩], []))] zF0 zB0 Tryz.func59 ?_
 simp -implicitDefEqProofs (disch := omega) only [go_sem, hde]
 have hrow : (zA0 Tm.enc x.te).getD k [] = [iC uk, iC un, sC uz, .c (.sl (Tm.encs ua))] := by
  simp [zA0, List.getD_eq_getElem?_getD, List.getElem?_map, hu, Tm.enc]
 refine ⟨hk, fun _ => ?_⟩
 rw [hrow]
 refine yQ0 ?_
 refine CallK.accF 3 rfl hau ⟨rfl, rfl, by simp [qH0, AV.owns, AC.owns]⟩ rfl ?_
 refine yQ0 ?_
 refine qB0 [(12, ([⟨9, 10, [81], [73]⟩, ⟨9, 11, [81], [82]⟩, ⟨8, 12, [80, 78], [83]⟩, ⟨9, 12, [81], [83]⟩], []))] (ι := Nat) (fun i => mk 101 [(1, .one (.ptr 9000 0)), (2, zG0 k), (3, .one (.ptr 3 0)), (7, boolV (km0 dd k (.mk uk un uz ua) (L.take i) ⟨x.te, x.mo, true⟩).fu), (8, .one (.own 23 L.length)), (9, zG0 i)] [(3, .var [.c (.sl (so.map encS)), .c (.sl (op.map GOp.enc)), .c (.sl (ru.map GRule.enc)), .c (.sl (st.map GStrict.enc))]), (9000, .var [.own 9001 (km0 dd k (.mk uk un uz ua) (L.take i) ⟨x.te, x.mo, true⟩).te.length, .own 9002 (km0 dd k (.mk uk un uz ua) (L.take i) ⟨x.te, x.mo, true⟩).mo.length, .c (.v (.bool x.fu))]), (9001, teR (km0 dd k (.mk uk un uz ua) (L.take i) ⟨x.te, x.mo, true⟩)), (9002, moR (km0 dd k (.mk uk un uz ua) (L.take i) ⟨x.te, x.mo, true⟩)), (23, .arr 100 2 (zA0 rc0 L) false)] [.one (.ptr 9000 0), .one (.own 9001 x.te.length), .one (.own 9002 x.mo.length)])
  (fun i => i ≤ L.length) (fun i => L.length - i) 0 (Nat.zero_le _) ?_ zF0 zB0 (by decide +kernel) ?_
 ·exact zM0 (by simp [go_sem, km0]) (by simp [go_sem, km0, zA0])
 ·intro i hi
  obtain ⟨w1, w2, w3, w4⟩ := hway i hi _ rfl
  rw [← hdd] at w1 w2 w3 w4 hstep
  rcases Nat.lt_or_ge i L.length with hlt | hge
  ·have hst2 := hstep i hlt
   have hq := hdo L[i] (List.getElem_mem hlt)
   have hql := hred L[i] (List.getElem_mem hlt)
   have hqr : (zA0 rc0 L).getD i [] = [iC L[i].1, .c (.sl (L[i].2.map encI))] := by
    simp [zA0, rc0, List.getD_eq_getElem?_getD, List.getElem?_map, List.getElem?_eq_getElem hlt]
   generalize hyy : km0 dd k (.mk uk un uz ua) (L.take i) ⟨x.te, x.mo, true⟩ = y at w1 w2 w3 w4 hst2 ⊢
   obtain ⟨yte, ymo, yfu⟩ := y
   simp only at w1 w2 w3 w4
   generalize hzz : km0 dd k (.mk uk un uz ua) (L.take (i + 1)) ⟨x.te, x.mo, true⟩ = z at hst2
   have hyrow : (zA0 Tm.enc yte).getD k [] = [iC uk, iC un, sC uz, .c (.sl (Tm.encs ua))] := by
    simp [zA0, List.getD_eq_getElem?_getD, List.getElem?_map, w1, Tm.enc]
   have hky : k < yte.length := (List.getElem?_eq_some_iff.1 w1).1
   unfold po0 at hst2
   rw [← hdd] at hq
   have hat := jc1 yte (by omega) w3 (doB dd (.mk uk un uz ua) L[i])
   generalize (doB dd (.mk uk un uz ua) L[i]).valid = bv at hst2 hq
   generalize doB dd (.mk uk un uz ua) L[i] = v at hst2 hq hat
   generalize xM1 v yte 0 = o at hst2 hat
   generalize L[i] = q at hst2 hq hql hqr
   obtain ⟨qr, qp⟩ := q
   obtain ⟨vk, vn, vz, va⟩ := v
   rw [hdd, hde] at hq
   simp only at hql hqr hq
   refine mT1 ?_
   refine CallK.mk hq ?_
   refine mT1 ?_
   refine CallK.bor hat rfl ?_
   cases bv with
   | false =>
    simp only [Bool.false_eq_true, if_false] at hst2
    subst hst2
    refine mT1 ?_
    exact ⟨i + 1, by omega, by omega, zM0 (by simp [go_sem, hzz]) (by simp [go_sem, hzz])⟩
   | true =>
    simp only [if_true] at hst2
    cases o with
    | some j =>
     simp only at hst2
     subst hst2
     have h0 : ¬ ((j : Int) < 0) := by omega
     simp only [atI]
     simp -implicitDefEqProofs (disch := omega) only [go_sem, hky, hlt, hyrow, hqr, h0]
     refine ⟨⟨by simp, by omega, by omega⟩, fun _ => ⟨i + 1, by omega, by omega, ?_⟩⟩
     rw [hzz]
     exact zM0 (by simp [go_sem]) (by simp [go_sem, zA0, GMove.enc, GRedex.enc, rdG, encI, encL])
    | none =>
     simp only at hst2
     simp only [atI]
     by_cases hl40 : yte.length = 40
     ·rw [if_pos hl40] at hst2
      subst hst2
      have h4 : (((yte.length : Nat) : Int) == 40) = true := by simp [hl40]
      simp -implicitDefEqProofs (disch := omega) only [go_sem, hky, hlt, hyrow, hqr, h4, Int.reduceLT, Int.reduceNeg]
      refine ⟨i + 1, by omega, by omega, ?_⟩
      rw [hzz]
      exact lek
     ·rw [if_neg hl40] at hst2
      subst hst2
      have h4 : (((yte.length : Nat) : Int) == 40) = false := by simp; omega
      simp -implicitDefEqProofs (disch := omega) only [go_sem, hky, hlt, hyrow, hqr, h4, Int.reduceLT, Int.reduceNeg]
      have hlast : ∀ X : List AC, (zA0 Tm.enc yte ++ [X]).getD yte.length [] = X := fun X => by simp [zA0, List.getD]
      refine ⟨⟨by simp, by omega, by omega⟩, fun _ => ⟨by omega, fun _ => ⟨by rw [hlast]; simp, fun _ => ⟨⟨by simp, by omega, by omega⟩, fun _ => ⟨i + 1, by omega, by omega, ?_⟩⟩⟩⟩⟩
      rw [hzz]
      exact zM0 (by simp [go_sem]) (by simp [go_sem, zA0, Tm.enc, GMove.enc, GRedex.enc, rdG, encI, encL])
  ·have : i = L.length := by omega
   subst this
   have e : km0 dd k (.mk uk un uz ua) (L.take L.length) ⟨x.te, x.mo, true⟩ = yE := by rw [List.take_length, hyE, hdd]
   rw [e]
   refine pZ1 ?_
   exact ⟨[], by simp, rfl, by simp [go_sem]⟩
theorem ls0 (d : GDefinition) (n k : Nat) (y : GSpace) (u : Tm) (hu : y.te[k]? = some u) : wT0 d (n + 1) k y = wT0 d n (k + 1) ⟨(km0 d k u (kn0 d u) ⟨y.te, y.mo, true⟩).te, (km0 d k u (kn0 d u) ⟨y.te, y.mo, true⟩).mo, y.fu && (km0 d k u (kn0 d u) ⟨y.te, y.mo, true⟩).fu⟩ := by
 have h := da0 d k u y.fu (kn0 d u) y.te y.mo true
 rw [Bool.and_true] at h
 conv => lhs; unfold wT0
 rw [hu]
 simp only
 rw [← h]
theorem re0 (d : GDefinition) (n k : Nat) (y : GSpace) (h : y.te.length ≤ k) : wT0 d n k y = y := by
 cases n with
 | zero => rfl
 | succ n =>
  unfold wT0
  rw [List.getElem?_eq_none h]
theorem gt0 (d : GDefinition) (hw : d.wf) (hs : d.size < 1048577) (t : Tm) (htw : t.wf) (ht : t.size < 1048577) (hcf : yr0 d t = true) :
  wB0 Tryz.prog 12 [zv0 d.enc, tmV t] [] [teR (zw0 d t), moR (zw0 d t)] (.agg [.own 0 (zw0 d t).te.length, .own 1 (zw0 d t).mo.length, .c (.v (.bool (zw0 d t).fu))]) := by
 have hcs := yn0 d hs t (by omega)
 rw [hcf] at hcs
 have hcp := wn0 t ht
 have hc := fW0 d hw t htw hcf
 have hadd := fun k u x h1 h2 => qd1 d hw hs hc t k u x h1 h2
 have hnext := fun k u x h1 h2 => tl0 d hc.2.2.2 hc.2.2.1 hc.1 hc.2.1 t k u t x h1 h2
 have hinv : Inv d t 0 t [] ⟨[t], [], true⟩ := by
  obtain ⟨hg, hst⟩ := pv0 d hw t htw hcf
  refine ⟨rfl, by simp, fun v hv => (List.mem_singleton.1 hv) ▸ hg, fun v hv => (List.mem_singleton.1 hv) ▸ hcf, fun m hm => (List.not_mem_nil hm).elim, by simp, fun _ => ⟨fun i v hi => by omega, fun q hq => (List.not_mem_nil hq).elim⟩, fun j hj hl => ?_⟩
  simp only [List.length_singleton] at hl
  omega
 obtain ⟨X, hX⟩ : ∃ X, X = zw0 d t := ⟨_, rfl⟩
 rw [← hX]
 unfold zw0 at hX
 rw [if_pos hcf] at hX
 obtain ⟨t0, ht0⟩ : ∃ t0, t0 = t := ⟨_, rfl⟩
 rw [← ht0] at hadd hnext hinv hX
 obtain ⟨⟨so, op⟩, ru, st⟩ := d
 obtain ⟨tk, tn, tz, ta⟩ := t
 have hde : (⟨⟨so, op⟩, ru, st⟩ : GDefinition).enc = [.sl (so.map encS), .sl (op.map GOp.enc), .sl (ru.map GRule.enc), .sl (st.map GStrict.enc)] := rfl
 obtain ⟨dd, hdd⟩ : ∃ dd : GDefinition, dd = ⟨⟨so, op⟩, ru, st⟩ := ⟨_, rfl⟩
 refine sxv [] zF0 zB0 Tryz.func12 ?_
 refine cT1 ?_
 refine CallK.mk hcs ?_
 refine cT1 ?_
 refine CallK.mk hcp ?_
 refine cT1 ?_
 refine qB0 [] (ι := Nat × GSpace) (fun p => mk 37 [(2, .one (.ptr 2 0)), (4, .one (.ptr 4 0)), (5, .one (.ptr 16 0)), (6, zG0 p.1)] [(2, .var [.c (.sl (so.map encS)), .c (.sl (op.map GOp.enc)), .c (.sl (ru.map GRule.enc)), .c (.sl (st.map GStrict.enc))]), (4, .var [.nil, .nil, .c (.v (.bool false))]), (16, .var [.own 14 p.2.te.length, .own 9102 p.2.mo.length, .c (.v (.bool p.2.fu))]), (14, teR p.2), (9102, moR p.2)])
  (fun p => p.1 ≤ 41 ∧ Inv dd t0 p.1 t0 [] p.2 ∧ X = wT0 dd (41 - p.1) p.1 p.2) (fun p => 41 - p.1) (0, ⟨[t0], [], true⟩) ⟨Nat.zero_le _, by rw [hdd]; exact hinv, by rw [hdd]; exact hX⟩ ?_ zF0 zB0 (by decide +kernel) ?_
 ·subst ht0
  exact (kb0 16 1 9102 104 4 (by simp [zK0]; rfl) (by simp) (by simp [zK0]) (by decide)).trans (zM0 (by simp [go_sem]) (by simp [go_sem, zA0, Tm.enc]))
 ·rintro ⟨k, y⟩ ⟨hk, hi, hX⟩
  simp only at hk hi hX ⊢
  have hlen := hi.len
  rcases Nat.lt_or_ge k y.te.length with hlt | hge
  ·have hu : y.te[k]? = some y.te[k] := List.getElem?_eq_getElem hlt
   rw [← hdd] at hadd hnext
   have ha := hadd k _ y { hi with full := fun hf => ⟨(hi.full hf).1, fun q hq => (List.not_mem_nil hq).elim⟩ } hu
   have hn := hnext k _ y hi hu
   have he := ls0 dd (40 - k) k y _ hu
   rw [show 40 - k + 1 = 41 - k by omega] at he
   rw [he] at hX
   have hfu := da0 dd k y.te[k] y.fu (kn0 dd y.te[k]) y.te y.mo true
   rw [Bool.and_true] at hfu
   rw [show (⟨y.te, y.mo, y.fu⟩ : GSpace) = y from rfl] at hfu
   rw [hfu] at hn
   generalize km0 dd k y.te[k] (kn0 dd y.te[k]) ⟨y.te, y.mo, true⟩ = r at ha hn hX
   rw [hdd, hde] at ha
   obtain ⟨rte, rmo, rfu⟩ := r
   simp only at hn hX
   simp -implicitDefEqProofs (disch := omega) only [go_sem, hlt]
   refine LoanK.con [16, 14, 9102] [] ha rfl (by simp [go_sem, encS, encI]) ?_
   cases rfu with
   | true =>
    refine yQ0 ?_
    rw [Bool.and_true] at hn hX
    exact ⟨(k + 1, ⟨rte, rmo, y.fu⟩), ⟨by omega, hn, by rw [hX, show 40 - k = 41 - (k + 1) by omega]⟩, by simp only; omega, lek⟩
   | false =>
    refine yQ0 ?_
    rw [Bool.and_false] at hn hX
    exact ⟨(k + 1, ⟨rte, rmo, false⟩), ⟨by omega, hn, by rw [hX, show 40 - k = 41 - (k + 1) by omega]⟩, by simp only; omega, lek⟩
  ·rw [re0 dd _ _ _ hge] at hX
   subst hX
   refine ff1 ?_
   exact ⟨[14, 9102], by simp, rfl, by simp [go_sem], rfl⟩
theorem cG0 (d : GDefinition) (hs : d.size < 1048577) (t : Tm) (ht : t.size < 1048577) (hcf : yr0 d t = false) : Sat Tryz.prog 12 [zv0 d.enc, tmV t] (zv0 (zw0 d t).enc) := by
 have hcs := yn0 d hs t (by omega)
 rw [hcf] at hcs
 have hX : zw0 d t = vg0 := by unfold zw0; rw [if_neg (by rw [hcf]; decide)]
 rw [hX]
 obtain ⟨⟨so, op⟩, ru, st⟩ := d
 obtain ⟨tk, tn, tz, ta⟩ := t
 refine soc zF0 zB0 Tryz.func12 ?_
 refine sg1 ?_
 refine c3' hcs ?_
 rfl
end Go.Ai
/- Runs and paths in a space that is done. -/
namespace Go.Ai
open Go.Proofs
set_option maxRecDepth 100000
def gj0 (d : GDefinition) : Nat → Tm → Nat → Int × Tm × Nat
 | n, t, k => match t.nxt d.st (qN0 d) with
  | none => (1, t, k)
  | some q => match n with
   | 0 => (2, t, k)
   | n + 1 => if (doB d t q).valid then gj0 d n (doB d t q) (k + 1) else (3, t, k)
theorem ct1 (d : GDefinition) (hw : d.wf) (t0 : Tm) (x : GSpace) (h : Done d t0 x) (hf : x.fu = true) : ∀ (n : Nat) (t : Tm) (k : Nat), t ∈ x.te → (gj0 d n t k).1 = 1 → (gj0 d n t k).2.1 ∈ x.te ∧ xX0 d (gj0 d n t k).2.1 = none := by
 intro n
 induction n with
 | zero =>
  intro t k ht hr
  unfold gj0 at hr ⊢
  split at hr
  ·rename_i hn
   simp only [hn]
   exact ⟨ht, by unfold xX0; rw [if_pos (h.cfg t ht)]; exact hn⟩
  ·simp at hr
 | succ n ih =>
  intro t k ht hr
  unfold gj0 at hr ⊢
  split at hr
  ·rename_i hn
   simp only [hn]
   exact ⟨ht, by unfold xX0; rw [if_pos (h.cfg t ht)]; exact hn⟩
  ·rename_i q hn
   simp only [hn]
   simp only at hr
   split at hr
   ·rename_i hv
    rw [if_pos hv]
    have hq := tx0 d t (rN0 d t (h.cfg t ht)) q hn
    exact ih _ (k + 1) (h.full hf t ht q hq).2 hr
   ·simp at hr
end Go.Ai
/- Runs in the reference. -/
namespace Go.Ai
open Go.Proofs
set_option maxRecDepth 100000
def pf1 (d : GDefinition) : Nat → Tm → List Tm
 | n, t => t :: match t.nxt d.st (qN0 d) with
  | none => []
  | some q => match n with
   | 0 => []
   | n + 1 => if (doB d t q).valid then pf1 d n (doB d t q) else []
def pe1 (d : GDefinition) : Nat → Tm → List (Int × List Int)
 | n, t => match t.nxt d.st (qN0 d) with
  | none => []
  | some q => match n with
   | 0 => []
   | n + 1 => if (doB d t q).valid then q :: pe1 d n (doB d t q) else []
def vP1 (st : Int) (t : Tm) (k : Nat) : List AC := match t with
 | .mk tk tn tz ta => [iC st, iC tk, iC tn, sC tz, tC ta, iC k]
abbrev qR (qs : List (Int × List Int)) : LB := .arr 100 2 (zA0 rc0 qs) false
abbrev tR (ts : List Tm) : LB := .arr 34 4 (zA0 Tm.enc ts) false
abbrev zB (r : Int × Tm × Nat) (nq nt : Nat) : LB := .var (vP1 r.1 r.2.1 r.2.2 ++ [.own 1 nq, .own 2 nt])
theorem xR1 (d : GDefinition) (hw : d.wf) (hs : d.size < 1048577) (hc : xD1 d) (t : Tm) (hg : jk0 d t) (N : Nat) (hN : N ≤ 200) :
  wB0 Tryz.prog 88 [zv0 d.enc, tmV t, zG0 N] [] [zB (gj0 d N t 0) (pe1 d N t).length (pf1 d N t).length, qR (pe1 d N t), tR (pf1 d N t)] (.one (.ptr 0 0)) := by
 obtain ⟨hru, hnd, hst, hok⟩ := hc
 have hl := qF0 GRule.size d.ru
 have hl2 := qF0 GStrict.size d.st
 have hs' := hs
 simp only [GDefinition.size] at hs'
 have hrg : ∀ u, jk0 d u → rng d.st u := fun u hu => pw0 d hst u hu
 have hnx : ∀ u, jk0 d u → jB0 d u := fun u hu => pM0 d (by omega) (by omega) hok u hu.1 (hrg u hu)
 have hred : ∀ u, jk0 d u → ∀ q, u.nxt d.st (qN0 d) = some q → wG1 d u q := fun u hu q hq => vk0 d hst u hu q (tx0 d u (hrg u hu) q hq)
 have hdo : ∀ u, jk0 d u → ∀ q, u.nxt d.st (qN0 d) = some q → Sat Tryz.prog 70 [zv0 d.enc, tmV u, .agg [iC q.1, .c (.sl (q.2.map encI))]] (.tup [tmV (doB d u q), boolV (doB d u q).valid]) := fun u hu q hq =>
  dQ0 d (by omega) hok u (by have := hu.1.1; omega) q (hred u hu q hq)
 have hgo : ∀ u, jk0 d u → ∀ q, u.nxt d.st (qN0 d) = some q → (doB d u q).valid = true → jk0 d (doB d u q) := fun u hu q hq hv => jT1 d hok u hu q (hred u hu q hq) hv
 have hcp := wn0 t (by have := hg.1.1; omega)
 obtain ⟨R, hR⟩ : ∃ R, R = gj0 d N t 0 := ⟨_, rfl⟩
 obtain ⟨TS, hTS⟩ : ∃ TS, TS = pf1 d N t := ⟨_, rfl⟩
 obtain ⟨QS, hQS⟩ : ∃ QS, QS = pe1 d N t := ⟨_, rfl⟩
 rw [← hR, ← hTS, ← hQS]
 obtain ⟨Rs, ⟨Rk, Rn, Rz, Ra⟩, Rc⟩ := R
 obtain ⟨⟨so, op⟩, ru, st⟩ := d
 obtain ⟨t0, ht0⟩ : ∃ t0, t0 = t := ⟨_, rfl⟩
 obtain ⟨tk, tn, tz, ta⟩ := t
 have hde : (⟨⟨so, op⟩, ru, st⟩ : GDefinition).enc = [.sl (so.map encS), .sl (op.map GOp.enc), .sl (ru.map GRule.enc), .sl (st.map GStrict.enc)] := rfl
 obtain ⟨dd, hdd⟩ : ∃ dd : GDefinition, dd = ⟨⟨so, op⟩, ru, st⟩ := ⟨_, rfl⟩
 refine yR0 [(2, ([⟨13, 14, [29], [17]⟩, ⟨13, 15, [29], [30]⟩, ⟨12, 16, [28, 26], [31]⟩, ⟨13, 16, [29], [31]⟩], []))] zF0 zB0 Tryz.func88 rfl rfl rfl (by decide +kernel) (by decide +kernel) (Nat.le_of_ble_eq_true rfl) (by simp [go_sem]) (by simp [go_sem]) (by simp [go_sem, vP1]) (by simp [go_sem]) (by simp [go_sem]) rfl ?_
 refine cT1 ?_
 refine CallK.mk hcp ?_
 refine cT1 ?_
 refine qB0 [(2, ([⟨13, 14, [29], [17]⟩, ⟨13, 15, [29], [30]⟩, ⟨12, 16, [28, 26], [31]⟩, ⟨13, 16, [29], [31]⟩], []))] (ι := Nat × Tm × List (Int × List Int) × List Tm) (fun p => mk 100 [(2, zG0 N), (3, .one (.ptr 3 0)), (4, .one (.ptr 4 0)), (7, .one (.ptr 16 0))] [(3, .var [.c (.sl (so.map encS)), .c (.sl (op.map GOp.enc)), .c (.sl (ru.map GRule.enc)), .c (.sl (st.map GStrict.enc))]), (4, .var (bi0 (.mk tk tn tz ta))), (16, .var (vP1 1 p.2.1 p.1 ++ [.own 9101 p.2.2.1.length, .own 9102 p.2.2.2.length])), (9101, qR p.2.2.1), (9102, tR p.2.2.2)])
  (fun p => p.1 ≤ N ∧ jk0 dd p.2.1 ∧ p.2.2.1.length = p.1 ∧ p.2.2.2.length = p.1 ∧ (Rs, Tm.mk Rk Rn Rz Ra, Rc) = gj0 dd (N - p.1) p.2.1 p.1 ∧ TS = p.2.2.2 ++ pf1 dd (N - p.1) p.2.1 ∧ QS = p.2.2.1 ++ pe1 dd (N - p.1) p.2.1) (fun p => N - p.1) (0, .mk tk tn tz ta, [], []) ⟨Nat.zero_le _, by rw [hdd]; exact hg, rfl, rfl, by rw [hdd]; exact hR, by rw [hdd]; exact hTS, by rw [hdd]; exact hQS⟩ ?_ zF0 zB0 (by decide +kernel) ?_
 ·simp only [bi0, vP1]
  exact (kb0 16 6 9101 100 2 (by simp [zK0]; rfl) (by simp) (by simp [zK0]) (by decide)).trans ((kb0 16 7 9102 34 4 (by simp [zK0]; rfl) (by simp) (by simp [zK0]) (by decide)).trans (zM0 (by simp [go_sem]) (by simp [go_sem, zA0])))
 ·rintro ⟨i, u, qs, ts⟩ ⟨hi, hgu, hql, htl, hR, hTS, hQS⟩
  simp only at hi hgu hql htl hR hTS hQS ⊢
  rw [← hdd] at hnx hdo hgo
  have hnx := hnx u hgu
  simp only [jB0] at hnx
  have hdo := hdo u hgu
  have hgo := hgo u hgu
  unfold gj0 at hR
  unfold pf1 at hTS
  unfold pe1 at hQS
  generalize u.nxt dd.st (qN0 dd) = o at hnx hdo hgo hR hTS hQS
  obtain ⟨uk, un, uz, ua⟩ := u
  rw [hdd, hde] at hnx
  simp only [vP1, bi0]
  have hlast : ∀ X : List AC, (zA0 Tm.enc ts ++ [X]).getD ts.length [] = X := fun X => by simp [zA0, List.getD]
  refine yQ0 ?_
  refine ⟨⟨by simp, by omega, by omega⟩, fun _ => ⟨by omega, fun _ => ⟨by rw [hlast]; simp, fun _ => CallK.mk hnx ?_⟩⟩⟩
  obtain ⟨m, hm⟩ : ∃ m, N - i = m := ⟨_, rfl⟩
  rw [hm] at hR hTS hQS
  cases o with
  | none =>
   simp only at hR hTS hQS
   cases hR
   subst hTS hQS
   simp -implicitDefEqProofs (disch := omega) only [go_sem, rdx, Option.isSome_none]
   exact ⟨[16, 9101, 9102], by simp, rfl, by simp [go_sem, zA0, vP1, Tm.enc], rfl⟩
  | some q =>
   have hdo := hdo q rfl
   have hgo := hgo q rfl
   cases m with
   | zero =>
    simp only at hR hTS hQS
    have hiN : i = N := by omega
    cases hR
    subst hTS hQS
    simp -implicitDefEqProofs (disch := omega) only [go_sem, rdx, Option.isSome_some]
    refine ⟨fun _ => ⟨[16, 9101, 9102], by simp, rfl, by simp [go_sem, zA0, vP1, Tm.enc], rfl⟩, fun h => ?_⟩
    simp only [beq_eq_false_iff_ne] at h
    omega
   | succ m =>
    simp only at hR hTS hQS
    have hiN : ((i : Int) == (N : Int)) = false := by simp; omega
    generalize (doB dd (.mk uk un uz ua) q).valid = bv at hdo hgo hR hTS hQS
    generalize doB dd (.mk uk un uz ua) q = v at hdo hgo hR hTS hQS
    obtain ⟨vk, vn, vz, va⟩ := v
    rw [hdd, hde] at hdo
    cases bv with
    | false =>
     simp only [Bool.false_eq_true, if_false] at hR hTS hQS
     cases hR
     subst hTS hQS
     simp -implicitDefEqProofs (disch := omega) only [go_sem, rdx, Option.isSome_some, hiN, List.nil_append]
     refine CallK.mk hdo ?_
     refine kF0 ?_
     exact ⟨[16, 9101, 9102], by simp, rfl, by simp [go_sem, zA0, vP1, Tm.enc], rfl⟩
    | true =>
     simp only [if_true] at hR hTS hQS
     simp -implicitDefEqProofs (disch := omega) only [go_sem, rdx, Option.isSome_some, hiN, List.nil_append]
     refine CallK.mk hdo ?_
     refine kF0 ?_
     refine ⟨⟨by simp, by omega, by omega⟩, fun _ => ⟨(i + 1, .mk vk vn vz va, qs ++ [q], ts ++ [.mk uk un uz ua]), ⟨by simp only; omega, hgo rfl, by simp [hql], by simp [htl], ?_, ?_, ?_⟩, by simp only; omega, zM0 (by simp [go_sem]) (by simp [go_sem, zA0, vP1, Tm.enc, rc0])⟩⟩
     ·simp only
      rw [show N - (i + 1) = m by omega]; exact hR
     ·simp only
      rw [show N - (i + 1) = m by omega, hTS]; simp
     ·simp only
      rw [show N - (i + 1) = m by omega, hQS]; simp
def bB1 (d : GDefinition) (t : Tm) (fuel : Int) : Bool := yr0 d t && (decide (0 ≤ fuel) && decide (fuel ≤ 200))
theorem nP0 (d : GDefinition) (hs : d.size < 1048577) (t : Tm) (ht : t.size < 30000000) (fuel : Int) : Sat Tryz.prog 83 [zv0 d.enc, tmV t, zG0 fuel] (boolV (bB1 d t fuel)) := by
 have hc := yn0 d hs t ht
 have hin := qw0 fuel 0 200
 unfold bB1
 generalize (decide (0 ≤ fuel) && decide (fuel ≤ 200)) = b2 at hin ⊢
 generalize yr0 d t = b at hc ⊢
 obtain ⟨k, n, s, ts⟩ := t
 have hde : d.enc = [.sl (d.si.so.map encS), .sl (d.si.op.map GOp.enc), .sl (d.ru.map GRule.enc), .sl (d.st.map GStrict.enc)] := rfl
 refine soc zF0 zB0 Tryz.func83 ?_
 refine cW1 ?_
 refine c3' hc ?_
 refine ⟨fun h => ?_, fun h => by rw [h]; rfl⟩
 refine c3' hin ?_
 rw [h, Bool.true_and]
theorem bc0 (d : GDefinition) (hw : d.wf) (hs : d.size < 1048577) (t : Tm) (htw : t.wf) (ht : t.size < 1048577) (hcf : yr0 d t = true) (N : Nat) (hN : N ≤ 200) :
  Sat Tryz.prog 30 [zv0 d.enc, tmV t, zG0 N] (zv0 ([.v (.int .i64 (gj0 d N t 0).1)] ++ (gj0 d N t 0).2.1.enc ++ [.v (.int .i64 ((gj0 d N t 0).2.2 : Nat))])) := by
 have hgd := nP0 d hs t (by omega) N
 have hN' : decide ((N : Int) ≤ 200) = true := decide_eq_true (by omega)
 have hN0 : decide (0 ≤ (N : Int)) = true := decide_eq_true (by omega)
 unfold bB1 at hgd
 rw [hcf, hN', hN0] at hgd
 have hx := xR1 d hw hs (fW0 d hw t htw hcf) t (pv0 d hw t htw hcf).1 N hN
 generalize gj0 d N t 0 = R at hx ⊢
 generalize (pe1 d N t).length = nq at hx
 generalize pe1 d N t = QS at hx
 generalize (pf1 d N t).length = nt at hx
 generalize pf1 d N t = TS at hx
 obtain ⟨Rs, ⟨Rk, Rn, Rz, Ra⟩, Rc⟩ := R
 obtain ⟨⟨so, op⟩, ru, st⟩ := d
 obtain ⟨tk, tn, tz, ta⟩ := t
 refine soc zF0 zB0 Tryz.func30 ?_
 refine sg1 ?_
 refine bu1 hgd ?_
 refine CallK.con [] [9101, 9102, 9103] rfl hx (by simp [go_sem, vP1, GDefinition.enc, GSignature.enc, Tm.enc, encS, encL]) ?_
 simp -implicitDefEqProofs only [go_sem, vP1]
 simp [Tm.enc]
end Go.Ai
