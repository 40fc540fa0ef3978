/- State spaces: what they are. (Of AiX1, beside AiA4's redexes.) -/
import Derived.Test.YtphclghkljeaeaaGreatAiA4
import Derived.Test.YtphclghkljeaeaaGreatAiI5
import Derived.Test.YtphclghkljeaeaaGreatAiPR3
set_option linter.unusedVariables false
set_option linter.unusedSimpArgs false
namespace Go.Ai
open Go.Proofs Go.RowKit
set_option maxRecDepth 100000
structure GMove where
 fr : Int
 tg : Int
 re : GRedex
def GMove.enc (x : GMove) : List C := encI x.fr ++ (encI x.tg ++ (GRedex.enc x.re))
def GMove.size (x : GMove) : Nat := szI x.fr + szI x.tg + GRedex.size x.re
def GMove.wf (x : GMove) : Prop := wfI x.fr ∧ wfI x.tg ∧ GRedex.wf x.re
def GMove.eqb (x y : GMove) : Bool := eqI x.fr y.fr && (eqI x.tg y.tg && (GRedex.eqb x.re y.re))
theorem GMove.enc_len (x : GMove) : x.enc.length = 4 := by simp [GMove.enc, encI, encS, wV1, encL, Go.Ai.enc_len, GRedex.enc_len]
theorem GMove.enc_take (x : GMove) : x.enc.take 4 = x.enc := List.take_of_length_le (by rw [GMove.enc_len]; exact Nat.le_refl _)
theorem GMove.encm_take (x : GMove) : (x.enc.map AC.c).take 4 = x.enc.map AC.c := List.take_of_length_le (by rw [List.length_map, GMove.enc_len]; exact Nat.le_refl _)
attribute [go_sem] GMove.enc_len GMove.enc_take GMove.encm_take
structure GSpace where
 te : List Tm
 mo : List GMove
 fu : Bool
def GSpace.enc (x : GSpace) : List C := encL Tm.enc x.te ++ (encL GMove.enc x.mo ++ (wV1 x.fu))
def GSpace.size (x : GSpace) : Nat := (szL Tm.size) x.te + (szL GMove.size) x.mo + szB x.fu
def GSpace.wf (x : GSpace) : Prop := (wfL Tm.wf) x.te ∧ (wfL GMove.wf) x.mo ∧ wfB x.fu
def GSpace.eqb (x y : GSpace) : Bool := (eqL Tm.eqb) x.te y.te && ((eqL GMove.eqb) x.mo y.mo && (eqB x.fu y.fu))
theorem GSpace.enc_len (x : GSpace) : x.enc.length = 3 := by simp [GSpace.enc, encI, encS, wV1, encL, Go.Ai.enc_len]
theorem GSpace.enc_take (x : GSpace) : x.enc.take 3 = x.enc := List.take_of_length_le (by rw [GSpace.enc_len]; exact Nat.le_refl _)
theorem GSpace.encm_take (x : GSpace) : (x.enc.map AC.c).take 3 = x.enc.map AC.c := List.take_of_length_le (by rw [List.length_map, GSpace.enc_len]; exact Nat.le_refl _)
attribute [go_sem] GSpace.enc_len GSpace.enc_take GSpace.encm_take
end Go.Ai
namespace Go.Ai
open Go.Proofs
set_option maxRecDepth 100000
theorem yY1 : ∀ (t u : Tm), t.eqb u = true ↔ t = u := by
 refine Tm.ind (fun k n s ts ih u => ?_)
 obtain ⟨k', n', s', ts'⟩ := u
 have hs : ∀ (us : List Tm), Tm.eqbs ts us = true ↔ ts = us := by
  induction ts with
  | nil => intro us; cases us <;> simp [Tm.eqbs]
  | cons a ts ihs =>
   intro us
   cases us with
   | nil => simp [Tm.eqbs]
   | cons b us =>
    simp only [Tm.eqbs, Bool.and_eq_true, List.cons.injEq]
    rw [ih a (List.mem_cons_self) b, ihs (fun t ht => ih t (List.mem_cons_of_mem _ ht))]
 have hss : s.toList = s'.toList ↔ s = s' := by rw [← qQ0]; simp [eqS]
 simp only [Tm.eqb, Bool.and_eq_true, hs, Tm.mk.injEq, beq_iff_eq, hss]
theorem sX0 (sg : GSignature) : ∀ (t : Tm), t.nodes = true → t.sort sg [] ≠ sE → t.vars = [] := by
 refine Tm.ind (fun k n s ts ih hn hs => ?_)
 have hsub : Tm.varss ts = [] → k ≠ 1 → (Tm.mk k n s ts).vars = [] := fun h hk => by
  have : (k == 1) = false := by simpa using hk
  simp [Tm.vars, this, h]
 rcases mr0 sg [] k n s ts hs with rfl | rfl | rfl
 ·exact absurd (bF0 sg n s ts) hs
 ·refine hsub ?_ (by decide)
  obtain ⟨o, h1, h2, h3, _⟩ := ja0 sg [] n s ts hs
  simp only [Tm.nodes, Bool.and_eq_true] at hn
  have hn2 := hn.2
  rw [xE0] at hn2
  have hall : ∀ t, t ∈ ts → t.vars = [] := fun t ht => by
   obtain ⟨i, hi, rfl⟩ := List.mem_iff_getElem.1 ht
   exact ih _ ht (List.all_eq_true.1 hn2 _ ht) (va0 sg ts o.ar i hi h2 h3)
  have hlist : ∀ (us : List Tm), (∀ t, t ∈ us → t.vars = []) → Tm.varss us = [] := fun us => by
   induction us with
   | nil => intro _; rfl
   | cons a ts iht =>
    intro hall
    simp only [Tm.varss, hall a (List.mem_cons_self), List.nil_append]
    exact iht (fun t ht => hall t (List.mem_cons_of_mem _ ht))
  exact hlist ts hall
 ·obtain rfl := yx0 n s ts 3 (by decide) hn
  exact hsub rfl (by decide)
theorem nu0 (d : GDefinition) (hd : dW0 d = true) (v : Tm) (hv : v.valid = true) (h : kO0 d v) : yu0 d v = true := by
 simp only [yu0, hd, hv, sX0 d.si v h.2.1 h.2.2, (eqS_ne _ _).2 h.2.2, Bool.true_and, List.length_nil, BEq.rfl, Bool.not_false, Bool.and_self]
theorem pc1 (d : GDefinition) (v : Tm) (h : yu0 d v = true) : dW0 d = true := by
 simp only [yu0, Bool.and_eq_true] at h
 exact h.1.1.1
def nS0 (u : Tm) : List Tm → Nat → Option Nat
 | [], _ => none
 | t :: ts, k => if t.eqb u then some k else nS0 u ts (k + 1)
theorem lo0 (u : Tm) : ∀ (ts : List Tm) (k j : Nat), nS0 u ts k = some j → ∃ i, j = k + i ∧ ts[i]? = some u
 | [], _, _, h => by cases h
 | t :: ts, k, j, h => by
  simp only [nS0] at h
  split at h
  ·rename_i he
   cases h
   exact ⟨0, rfl, by simp [(yY1 t u).1 he]⟩
  ·obtain ⟨i, h1, h2⟩ := lo0 u ts (k + 1) j h
   exact ⟨i + 1, by omega, by simpa using h2⟩
def xS0 (d : GDefinition) (fr : Nat) (t : Tm) (x : GSpace) (q : Int × List Int) : GSpace :=
 if (doB d t q).valid then match nS0 (doB d t q) x.te 0 with
  | some k => ⟨x.te, x.mo ++ [⟨(fr : Int), (k : Int), rdG q⟩], x.fu⟩
  | none => if x.te.length = 40 then ⟨x.te, x.mo, false⟩ else ⟨x.te ++ [doB d t q], x.mo ++ [⟨(fr : Int), (x.te.length : Int), rdG q⟩], x.fu⟩
 else ⟨x.te, x.mo, false⟩
def yV0 (d : GDefinition) (fr : Nat) (t : Tm) (qs : List (Int × List Int)) (x : GSpace) : GSpace := qs.foldl (xS0 d fr t) x
def yt0 (d : GDefinition) (t : Tm) : List (Int × List Int) := t.all d.st (zp0 d)
structure Inv (d : GDefinition) (t0 : Tm) (k : Nat) (u : Tm) (done : List (Int × List Int)) (x : GSpace) : Prop where
 first : x.te[0]? = some t0
 len : x.te.length ≤ 40
 good : ∀ v, v ∈ x.te → kO0 d v
 cfg : ∀ v, v ∈ x.te → yu0 d v = true
 mv : ∀ m, m ∈ x.mo → ∃ (i j : Nat) (q : Int × List Int) (v : Tm), m = ⟨(i : Int), (j : Int), rdG q⟩ ∧ x.te[i]? = some v ∧ q ∈ yt0 d v ∧ (doB d v q).valid = true ∧ x.te[j]? = some (doB d v q)
 mlen : x.mo.length ≤ 960 * k + done.length
 full : x.fu = true → (∀ i v, i < k → x.te[i]? = some v → ∀ q, q ∈ yt0 d v → (doB d v q).valid = true ∧ doB d v q ∈ x.te) ∧ ∀ q, q ∈ done → (doB d u q).valid = true ∧ doB d u q ∈ x.te
 way : ∀ j, 0 < j → j < x.te.length → ∃ m i, x.mo.find? (fun m => m.tg == (j : Int)) = some m ∧ m.fr = ((i : Nat) : Int) ∧ i < j
theorem fG0 {α : Type} {xs ys : List α} {i : Nat} {v : α} (h : xs[i]? = some v) : (xs ++ ys)[i]? = some v := by
 rw [List.getElem?_append_left (List.getElem?_eq_some_iff.1 h).1, h]
theorem vs1 (d : GDefinition) (hok : ∀ x, x ∈ d.ru → qS0 x ∧ qk0 d.si x = true) (hst : cy0 d.si d.st = true) (t0 : Tm) (k : Nat) (u : Tm) (done : List (Int × List Int)) (x : GSpace) (h : Inv d t0 k u done x) (hu : x.te[k]? = some u) (q : Int × List Int) (hq : q ∈ yt0 d u) :
  Inv d t0 k u (done ++ [q]) (xS0 d k u x q) ∧ (xS0 d k u x q).te[k]? = some u := by
 have hum : u ∈ x.te := List.mem_of_getElem? hu
 have hred := wX0 d hst u (h.good u hum) q hq
 have hlt : k < x.te.length := (List.getElem?_eq_some_iff.1 hu).1
 unfold xS0
 split
 case isFalse => exact ⟨{ h with mlen := by have := h.mlen; simp only [List.length_append, List.length_singleton]; omega, full := fun hf => by cases hf }, hu⟩
 rename_i hv
 have hgo := yr1 d hok u (h.good u hum) q hred hv
 have hcv := nu0 d (pc1 d u (h.cfg u hum)) (doB d u q) hv hgo
 split
 ·rename_i j hj
  obtain ⟨i, e, hi⟩ := lo0 _ _ _ _ hj
  have e : j = i := by omega
  subst e
  refine ⟨{ h with mv := fun m hm => ?_, mlen := by have := h.mlen; simp only [List.length_append, List.length_singleton]; omega, full := fun hf => ?_, way := fun n hn hl => ?_ }, hu⟩
  ·rcases List.mem_append.1 hm with hm | hm
   ·exact h.mv m hm
   ·rw [List.mem_singleton.1 hm]
    exact ⟨k, j, q, u, rfl, hu, hq, hv, hi⟩
  ·obtain ⟨f1, f2⟩ := h.full hf
   refine ⟨f1, fun r hr => ?_⟩
   rcases List.mem_append.1 hr with hr | hr
   ·exact f2 r hr
   ·rw [List.mem_singleton.1 hr]
    exact ⟨hv, List.mem_of_getElem? hi⟩
  ·obtain ⟨m, i, h1, h2, h3⟩ := h.way n hn hl
   exact ⟨m, i, by simp only [List.find?_append, h1, Option.some_or], h2, h3⟩
 ·split
  ·exact ⟨{ h with mlen := by have := h.mlen; simp only [List.length_append, List.length_singleton]; omega, full := fun hf => by cases hf }, hu⟩
  ·rename_i hn hl
   have hlen := h.len
   have hend : (x.te ++ [doB d u q])[x.te.length]? = some (doB d u q) := by simp
   refine ⟨{ first := fG0 h.first, len := by simp only [List.length_append, List.length_singleton]; omega, good := fun v hv => ?_, cfg := fun v hv => ?_, mv := fun m hm => ?_, mlen := by have := h.mlen; simp only [List.length_append, List.length_singleton]; omega, full := fun hf => ?_, way := fun n hn hl => ?_ }, fG0 hu⟩
   ·rcases List.mem_append.1 hv with hv | hv
    ·exact h.good v hv
    ·rw [List.mem_singleton.1 hv]; exact hgo
   ·rcases List.mem_append.1 hv with hv | hv
    ·exact h.cfg v hv
    ·rw [List.mem_singleton.1 hv]; exact hcv
   ·rcases List.mem_append.1 hm with hm | hm
    ·obtain ⟨i, j, r, v, e, h1, h2, h3, h4⟩ := h.mv m hm
     exact ⟨i, j, r, v, e, fG0 h1, h2, h3, fG0 h4⟩
    ·rw [List.mem_singleton.1 hm]
     exact ⟨k, x.te.length, q, u, rfl, fG0 hu, hq, hv, hend⟩
   ·obtain ⟨f1, f2⟩ := h.full hf
    refine ⟨fun i v hi hv r hr => ?_, fun r hr => ?_⟩
    ·rw [List.getElem?_append_left (by omega)] at hv
     obtain ⟨a, b⟩ := f1 i v hi hv r hr
     exact ⟨a, List.mem_append_left _ b⟩
    ·rcases List.mem_append.1 hr with hr | hr
     ·obtain ⟨a, b⟩ := f2 r hr
      exact ⟨a, List.mem_append_left _ b⟩
     ·rw [List.mem_singleton.1 hr]
      exact ⟨hv, List.mem_append_right _ (List.mem_singleton_self _)⟩
   ·simp only [List.length_append, List.length_singleton] at hl
    by_cases hc : n < x.te.length
    ·obtain ⟨m, i, h1, h2, h3⟩ := h.way n hn hc
     exact ⟨m, i, by simp only [List.find?_append, h1, Option.some_or], h2, h3⟩
    ·have : n = x.te.length := by omega
     subst this
     refine ⟨⟨(k : Int), (x.te.length : Int), rdG q⟩, k, ?_, rfl, hlt⟩
     have hno : x.mo.find? (fun m => m.tg == ((x.te.length : Nat) : Int)) = none := by
      rw [List.find?_eq_none]
      intro m hm
      obtain ⟨i, j, r, v, e, _, _, _, h4⟩ := h.mv m hm
      have := (List.getElem?_eq_some_iff.1 h4).1
      rw [e]
      simp only [beq_iff_eq]
      omega
     simp only [List.find?_append, hno, Option.none_or]
     simp
theorem dr0 (d : GDefinition) (hok : ∀ x, x ∈ d.ru → qS0 x ∧ qk0 d.si x = true) (hst : cy0 d.si d.st = true) (t0 : Tm) (k : Nat) (u : Tm) : ∀ (qs done : List (Int × List Int)) (x : GSpace), Inv d t0 k u done x → x.te[k]? = some u → (∀ q, q ∈ qs → q ∈ yt0 d u) →
  Inv d t0 k u (done ++ qs) (yV0 d k u qs x) ∧ (yV0 d k u qs x).te[k]? = some u
 | [], done, x, h, hu, _ => by rw [List.append_nil]; exact ⟨h, hu⟩
 | q :: qs, done, x, h, hu, hq => by
  obtain ⟨h1, h2⟩ := vs1 d hok hst t0 k u done x h hu q (hq q (by simp))
  have := dr0 d hok hst t0 k u qs (done ++ [q]) _ h1 h2 (fun r hr => hq r (by simp [hr]))
  rwa [List.append_assoc, List.singleton_append] at this
def qG0 (d : GDefinition) : Nat → Nat → GSpace → GSpace
 | 0, _, x => x
 | n + 1, k, x => match x.te[k]? with
  | some u => qG0 d n (k + 1) (yV0 d k u (yt0 d u) x)
  | none => x
def lV0 : GSpace := ⟨[], [], false⟩
def qR0 (d : GDefinition) (t : Tm) : GSpace := if yu0 d t then qG0 d 41 0 ⟨[t], [], true⟩ else lV0
structure Done (d : GDefinition) (t0 : Tm) (x : GSpace) : Prop where
 first : x.te[0]? = some t0
 len : x.te.length ≤ 40
 good : ∀ v, v ∈ x.te → kO0 d v
 cfg : ∀ v, v ∈ x.te → yu0 d v = true
 mv : ∀ m, m ∈ x.mo → ∃ (i j : Nat) (q : Int × List Int) (v : Tm), m = ⟨(i : Int), (j : Int), rdG q⟩ ∧ x.te[i]? = some v ∧ q ∈ yt0 d v ∧ (doB d v q).valid = true ∧ x.te[j]? = some (doB d v q)
 mlen : x.mo.length ≤ 40000
 full : x.fu = true → ∀ v, v ∈ x.te → ∀ q, q ∈ yt0 d v → (doB d v q).valid = true ∧ doB d v q ∈ x.te
 way : ∀ j, 0 < j → j < x.te.length → ∃ m i, x.mo.find? (fun m => m.tg == (j : Int)) = some m ∧ m.fr = ((i : Nat) : Int) ∧ i < j
theorem dt0 (d : GDefinition) (hok : ∀ x, x ∈ d.ru → qS0 x ∧ qk0 d.si x = true) (hst : cy0 d.si d.st = true) (hru : d.ru.length ≤ 16) (hnd : ndS d.st) (t0 : Tm) (k : Nat) (u z : Tm) (x : GSpace) (h : Inv d t0 k z [] x) (hu : x.te[k]? = some u) : Inv d t0 (k + 1) z [] (yV0 d k u (yt0 d u) x) := by
 have h0 : Inv d t0 k u [] x := { h with full := fun hf => ⟨(h.full hf).1, fun q hq => by cases hq⟩ }
 obtain ⟨h1, h2⟩ := dr0 d hok hst t0 k u (yt0 d u) [] x h0 hu (fun q hq => hq)
 rw [List.nil_append] at h1
 have hal := pZ0 d hru hnd hst u (h.good u (List.mem_of_getElem? hu))
 refine { h1 with mlen := ?_, full := fun hf => ⟨fun i v hi hv => ?_, fun q hq => by cases hq⟩ }
 ·have := h1.mlen
  have e : (yt0 d u).length ≤ 960 := hal
  simp only [List.length_nil]
  omega
 ·obtain ⟨f1, f2⟩ := h1.full hf
  rcases Nat.lt_or_ge i k with hlt | hge
  ·exact f1 i v hlt hv
  ·have : i = k := by omega
   subst this
   rw [h2] at hv
   cases hv
   exact f2
theorem tR0 (d : GDefinition) (t0 z : Tm) (k : Nat) (x : GSpace) (hk : k ≤ 41) (hle : x.te.length ≤ k) (h : Inv d t0 k z [] x) : Done d t0 x := by
 refine { first := h.first, len := h.len, good := h.good, cfg := h.cfg, mv := h.mv, mlen := by have := h.mlen; simp only [List.length_nil] at this; omega, full := fun hf v hv q hq => ?_, way := h.way }
 obtain ⟨i, hi, e⟩ := List.mem_iff_getElem.1 hv
 exact (h.full hf).1 i v (by omega) (by rw [List.getElem?_eq_getElem hi, e]) q hq
theorem yz1 (d : GDefinition) (hok : ∀ x, x ∈ d.ru → qS0 x ∧ qk0 d.si x = true) (hst : cy0 d.si d.st = true) (hru : d.ru.length ≤ 16) (hnd : ndS d.st) (t0 z : Tm) : ∀ (n k : Nat) (x : GSpace), n + k = 41 → Inv d t0 k z [] x → Done d t0 (qG0 d n k x)
 | 0, k, x, e, h => by
  simp only [qG0]
  exact tR0 d t0 z k x (by omega) (by have := h.len; omega) h
 | n + 1, k, x, e, h => by
  simp only [qG0]
  split
  ·rename_i u hu
   exact yz1 d hok hst hru hnd t0 z n (k + 1) _ (by omega) (dt0 d hok hst hru hnd t0 k u z x h hu)
  ·rename_i hn
   exact tR0 d t0 z k x (by omega) (by simpa using hn) h
theorem lY0 (d : GDefinition) (hw : d.wf) (t : Tm) (htw : t.wf) (hc : yu0 d t = true) : Done d t (qR0 d t) := by
 obtain ⟨hg, hst⟩ := vR0 d hw t htw hc
 unfold qR0
 rw [if_pos hc]
 refine yz1 d (fun x hx => ⟨(vH0 d hw t htw hc).1 x hx, (vH0 d hw t htw hc).2.2 x hx⟩) hst (yD1 d t hc) (yC1 d t hc) t t 41 0 _ rfl ⟨rfl, by simp, fun v hv => (List.mem_singleton.1 hv) ▸ hg, fun v hv => (List.mem_singleton.1 hv) ▸ hc, fun m hm => (List.not_mem_nil hm).elim, by simp, fun _ => ⟨fun i v hi => by omega, fun q hq => (List.not_mem_nil hq).elim⟩, fun j hj hl => ?_⟩
 simp only [List.length_singleton] at hl
 omega
end Go.Ai
namespace Go.Ai
open Go.Proofs
set_option maxRecDepth 100000
def atI : Option Nat → Int
 | some k => (k : Int)
 | none => -1
theorem jD1 (ts : List Tm) (hl : ts.length < 1000000) (hw : ∀ t, t ∈ ts → t.wf) (u : Tm) : Sat Tryz.prog 127 [slV (ts.map Tm.enc), tmV u] (zG0 (atI (nS0 u ts 0))) := by
 obtain ⟨r, hr⟩ : ∃ r, r = atI (nS0 u ts 0) := ⟨_, rfl⟩
 rw [← hr]
 obtain ⟨k, n, s, us⟩ := u
 refine soc zE0 zA0 Tryz.func127 ?_
 simp -implicitDefEqProofs (disch := omega) only [go_sem, List.length_map, Tm.enc]
 refine zB0 (ι := Nat) (fun i => mk 19 [(0, slV (ts.map Tm.enc)), (3, .one (.ptr 3 0)), (5, zG0 i)] [(3, .var (ji0 (.mk k n s us)))]) (fun i => i ≤ ts.length ∧ r = atI (nS0 (.mk k n s us) (ts.drop i) i)) (fun i => ts.length - i) 0 ⟨Nat.zero_le _, by simpa using hr⟩ ?_ zE0 zA0 (by decide +kernel) ?_
 ·simp only [ji0]
  exact lek
 ·rintro i ⟨hi, hr⟩
  rcases Nat.lt_or_ge i ts.length with hlt | hge
  ·have hg := zD0 (ec := Tm.enc) hlt
   have he := zt0 ts[i] (hw _ (List.getElem_mem hlt)) (.mk k n s us)
   rw [List.drop_eq_getElem_cons hlt] at hr
   simp only [nS0] at hr
   generalize ts[i] = t at hg he hr
   generalize t.eqb (.mk k n s us) = b at he hr
   obtain ⟨tk, tn, tz, ta⟩ := t
   simp only [Tm.enc] at hg
   simp only [ji0]
   refine xF0 ?_
   refine CallK.mk he ?_
   refine xF0 ?_
   refine ⟨fun h => ?_, fun h => ⟨i + 1, ⟨hlt, ?_⟩, by omega, lek⟩⟩
   ·rw [hr, h]; rfl
   ·rw [hr, h]; rfl
  ·have : i = ts.length := by omega
   subst this
   rw [List.drop_length] at hr
   simp only [ji0]
   refine ru0 ?_
   exact hr.symm
abbrev teR (x : GSpace) : LB := .arr 34 4 (rowsOf Tm.enc x.te) false
abbrev moR (x : GSpace) : LB := .arr 104 4 (rowsOf GMove.enc x.mo) false
abbrev spB (x : GSpace) (f : Bool) : LB := .var [.own 1 x.te.length, .own 2 x.mo.length, .c (.v (.bool f))]
theorem xd1 (d : GDefinition) (k : Nat) (u : Tm) (q : Int × List Int) (te : List Tm) (mo : List GMove) (f g : Bool) : xS0 d k u ⟨te, mo, f && g⟩ q = ⟨(xS0 d k u ⟨te, mo, g⟩ q).te, (xS0 d k u ⟨te, mo, g⟩ q).mo, f && (xS0 d k u ⟨te, mo, g⟩ q).fu⟩ := by
 unfold xS0
 simp only
 split
 ·split
  ·rfl
  ·split
   ·simp
   ·rfl
 ·simp
theorem dD0 (d : GDefinition) (k : Nat) (u : Tm) (f : Bool) : ∀ (qs : List (Int × List Int)) (te : List Tm) (mo : List GMove) (g : Bool), yV0 d k u qs ⟨te, mo, f && g⟩ = ⟨(yV0 d k u qs ⟨te, mo, g⟩).te, (yV0 d k u qs ⟨te, mo, g⟩).mo, f && (yV0 d k u qs ⟨te, mo, g⟩).fu⟩
 | [], te, mo, g => rfl
 | q :: qs, te, mo, g => by
  show yV0 d k u qs (xS0 d k u ⟨te, mo, f && g⟩ q) = _
  rw [xd1, dD0 d k u f qs]
  rfl
theorem gs0 (d : GDefinition) (k : Nat) (u : Tm) (qs : List (Int × List Int)) (x : GSpace) (i : Nat) (h : i < qs.length) : yV0 d k u (qs.take (i + 1)) x = xS0 d k u (yV0 d k u (qs.take i) x) qs[i] := by
 unfold yV0
 rw [List.take_succ_eq_append_getElem h, List.foldl_append]; rfl
def vk1 (d : GDefinition) : Prop := d.ru.length ≤ 16 ∧ ndS d.st ∧ cy0 d.si d.st = true ∧ ∀ x, x ∈ d.ru → qS0 x ∧ qk0 d.si x = true
theorem py0 (d : GDefinition) (hw : d.wf) (t : Tm) (htw : t.wf) (hc : yu0 d t = true) : vk1 d :=
 ⟨yD1 d t hc, yC1 d t hc, (vR0 d hw t htw hc).2, fun x hx => ⟨(vH0 d hw t htw hc).1 x hx, (vH0 d hw t htw hc).2.2 x hx⟩⟩
theorem qG1 (d : GDefinition) (hw : d.wf) (hs : d.size < 1048577) (hc : vk1 d) (t0 : Tm) (k : Nat) (u : Tm) (x : GSpace) (hinv : Inv d t0 k u [] x) (hu : x.te[k]? = some u) :
  qo0 Tryz.prog 59 [zz0 d.enc, .one (.ptr 0 0), zG0 k] [spB x x.fu, teR x, moR x] [spB (yV0 d k u (yt0 d u) ⟨x.te, x.mo, true⟩) x.fu, teR (yV0 d k u (yt0 d u) ⟨x.te, x.mo, true⟩), moR (yV0 d k u (yt0 d u) ⟨x.te, x.mo, true⟩)] (boolV (yV0 d k u (yt0 d u) ⟨x.te, x.mo, true⟩).fu) := by
 obtain ⟨hru, hnd, hst, hok⟩ := hc
 have hl2 := qB0 GStrict.size d.st
 have hs' := hs
 simp only [GDefinition.size] at hs'
 have hgu := hinv.good u (List.mem_of_getElem? hu)
 have hrg := vS0 d hst u hgu
 have hal := pZ0 d hru hnd hst u hgu
 have hau : SatA Tryz.prog 69 [zz0 d.enc, tmV u, slV []] [] 100 2 (rowsOf kg0 []) (rowsOf kg0 (yt0 d u)) [] := by
  have h1 := ka0 d (by omega) (by omega) hnd hok u hgu.1 hrg [] [] (by have := hgu.1.1; simp; omega) (by
   have h1 := hgu.1.2.1
   have := Nat.mul_le_mul hru h1
   simp only [List.length_nil]; omega)
  simpa [qu0, yt0] using h1
 have hdo : ∀ q, q ∈ yt0 d u → Sat Tryz.prog 70 [zz0 d.enc, tmV u, .agg [iC q.1, .c (.sl (q.2.map encI))]] (.tup [tmV (doB d u q), boolV (doB d u q).valid]) := fun q hq =>
  xN0 d (by omega) hok u (by have := hgu.1.1; omega) q (wX0 d hst u hgu q hq)
 -- what holds on the way
 have hway : ∀ i, i ≤ (yt0 d u).length → ∀ y, y = yV0 d k u ((yt0 d u).take i) ⟨x.te, x.mo, true⟩ → y.te[k]? = some u ∧ y.te.length ≤ 40 ∧ (∀ t, t ∈ y.te → t.wf) ∧ y.mo.length ≤ 60000 := by
  intro i hi y hy
  have h0 : Inv d t0 k u [] ⟨x.te, x.mo, false⟩ := { hinv with full := fun h => by cases h }
  obtain ⟨h1, h2⟩ := dr0 d hok hst t0 k u ((yt0 d u).take i) [] _ h0 hu (fun q hq => List.mem_of_mem_take hq)
  have h3 := dD0 d k u false ((yt0 d u).take i) x.te x.mo true
  rw [← hy] at h3
  simp only [Bool.false_and] at h3
  rw [h3] at h1 h2
  refine ⟨h2, h1.len, fun t ht => (h1.good t ht).1.2.2, ?_⟩
  have h4 := h1.mlen
  have h5 : k < 40 := by have := (List.getElem?_eq_some_iff.1 hu).1; have := hinv.len; omega
  have h6 : (yt0 d u).length ≤ 960 := hal
  simp only [List.nil_append, List.length_take] at h4
  omega
 have hlq : (yt0 d u).length ≤ 960 := hal
 have hred : ∀ q, q ∈ yt0 d u → q.2.length < 1000 := fun q hq => (wX0 d hst u hgu q hq).1
 obtain ⟨L, hL⟩ : ∃ L, L = yt0 d u := ⟨_, rfl⟩
 have hstep := gs0 d k u L ⟨x.te, x.mo, true⟩
 rw [← hL] at hau hdo hway hlq hred ⊢
 clear hal
 have hx40 := hinv.len
 have hk : k < x.te.length := (List.getElem?_eq_some_iff.1 hu).1
 have hum : (x.te.map Tm.enc).getD k [] = u.enc := by
  rw [List.getD_eq_getElem?_getD, List.getElem?_map, hu]; rfl
 obtain ⟨yE, hyE⟩ : ∃ yE, yE = yV0 d k u L ⟨x.te, x.mo, true⟩ := ⟨_, rfl⟩
 rw [← hyE]
 obtain ⟨⟨so, op⟩, ru, st⟩ := d
 obtain ⟨uk, un, uz, ua⟩ := u
 have hde : (⟨⟨so, op⟩, ru, st⟩ : GDefinition).enc = [.sl (so.map encS), .sl (op.map GOp.enc), .sl (ru.map GRule.enc), .sl (st.map GStrict.enc)] := rfl
 obtain ⟨dd, hdd⟩ : ∃ dd : GDefinition, dd = ⟨⟨so, op⟩, ru, st⟩ := ⟨_, rfl⟩
 simp only [Tm.enc] at hum
 refine sxv [(12, ([⟨9, 10, [81], [73]⟩, ⟨9, 11, [81], [82]⟩, ⟨8, 12, [80, 78], [83]⟩, ⟨9, 12, [81], [83]⟩], []))] zE0 zA0 Tryz.func59 ?_
 refine mW1 ?_
 have hrow : (rowsOf Tm.enc x.te).getD k [] = [iC uk, iC un, sC uz, .c (.sl (Tm.encs ua))] := by
  simp [rowsOf, List.getD_eq_getElem?_getD, List.getElem?_map, hu, Tm.enc]
 refine ⟨hk, fun _ => ?_⟩
 rw [hrow]
 refine wj0 ?_
 refine CallK.accF 3 rfl hau ⟨rfl, rfl, by simp [qC0, AV.owns, AC.owns]⟩ rfl ?_
 refine wj0 ?_
 refine zn0 [(12, ([⟨9, 10, [81], [73]⟩, ⟨9, 11, [81], [82]⟩, ⟨8, 12, [80, 78], [83]⟩, ⟨9, 12, [81], [83]⟩], []))] (ι := Nat) (fun i => mk 101 [(1, .one (.ptr 9000 0)), (2, zG0 k), (3, .one (.ptr 3 0)), (7, boolV (yV0 dd k (.mk uk un uz ua) (L.take i) ⟨x.te, x.mo, true⟩).fu), (8, .one (.own 23 L.length)), (9, zG0 i)] [(3, .var [.c (.sl (so.map encS)), .c (.sl (op.map GOp.enc)), .c (.sl (ru.map GRule.enc)), .c (.sl (st.map GStrict.enc))]), (9000, .var [.own 9001 (yV0 dd k (.mk uk un uz ua) (L.take i) ⟨x.te, x.mo, true⟩).te.length, .own 9002 (yV0 dd k (.mk uk un uz ua) (L.take i) ⟨x.te, x.mo, true⟩).mo.length, .c (.v (.bool x.fu))]), (9001, teR (yV0 dd k (.mk uk un uz ua) (L.take i) ⟨x.te, x.mo, true⟩)), (9002, moR (yV0 dd k (.mk uk un uz ua) (L.take i) ⟨x.te, x.mo, true⟩)), (23, .arr 100 2 (rowsOf kg0 L) false)] [.one (.ptr 9000 0), .one (.own 9001 x.te.length), .one (.own 9002 x.mo.length)])
  (fun i => i ≤ L.length) (fun i => L.length - i) 0 (Nat.zero_le _) ?_ zE0 zA0 (by decide +kernel) ?_
 ·exact le_mk (by simp [go_sem, yV0]) (by simp [go_sem, yV0, rowsOf])
 ·intro i hi
  obtain ⟨w1, w2, w3, w4⟩ := hway i hi _ rfl
  rw [← hdd] at w1 w2 w3 w4 hstep
  rcases Nat.lt_or_ge i L.length with hlt | hge
  ·have hst2 := hstep i hlt
   have hq := hdo L[i] (List.getElem_mem hlt)
   have hql := hred L[i] (List.getElem_mem hlt)
   have hqr : (rowsOf kg0 L).getD i [] = [iC L[i].1, .c (.sl (L[i].2.map encI))] := by
    simp [rowsOf, kg0, List.getD_eq_getElem?_getD, List.getElem?_map, List.getElem?_eq_getElem hlt]
   generalize hyy : yV0 dd k (.mk uk un uz ua) (L.take i) ⟨x.te, x.mo, true⟩ = y at w1 w2 w3 w4 hst2 ⊢
   obtain ⟨yte, ymo, yfu⟩ := y
   simp only at w1 w2 w3 w4
   generalize hzz : yV0 dd k (.mk uk un uz ua) (L.take (i + 1)) ⟨x.te, x.mo, true⟩ = z at hst2
   have hyrow : (rowsOf Tm.enc yte).getD k [] = [iC uk, iC un, sC uz, .c (.sl (Tm.encs ua))] := by
    simp [rowsOf, List.getD_eq_getElem?_getD, List.getElem?_map, w1, Tm.enc]
   have hky : k < yte.length := (List.getElem?_eq_some_iff.1 w1).1
   unfold xS0 at hst2
   rw [← hdd] at hq
   have hat := jD1 yte (by omega) w3 (doB dd (.mk uk un uz ua) L[i])
   generalize (doB dd (.mk uk un uz ua) L[i]).valid = bv at hst2 hq
   generalize doB dd (.mk uk un uz ua) L[i] = v at hst2 hq hat
   generalize nS0 v yte 0 = o at hst2 hat
   generalize L[i] = q at hst2 hq hql hqr
   obtain ⟨qr, qp⟩ := q
   obtain ⟨vk, vn, vz, va⟩ := v
   rw [hdd, hde] at hq
   simp only at hql hqr hq
   refine mb1 ?_
   refine CallK.mk hq ?_
   refine mb1 ?_
   refine CallK.bor hat rfl ?_
   cases bv with
   | false =>
    simp only [Bool.false_eq_true, if_false] at hst2
    subst hst2
    refine mb1 ?_
    exact tS1
   | true =>
    simp only [if_true] at hst2
    cases o with
    | some j =>
     simp only at hst2
     subst hst2
     have h0 : ¬ ((j : Int) < 0) := by omega
     simp only [atI]
     simp -implicitDefEqProofs (disch := omega) only [go_sem, hky, hlt, hyrow, hqr, h0]
     refine ⟨⟨by simp, by omega, by omega⟩, fun _ => ⟨i + 1, by omega, by omega, ?_⟩⟩
     rw [hzz]
     exact tO1
    | none =>
     simp only at hst2
     simp only [atI]
     by_cases hl40 : yte.length = 40
     ·rw [if_pos hl40] at hst2
      subst hst2
      have h4 : (((yte.length : Nat) : Int) == 40) = true := by simp [hl40]
      simp -implicitDefEqProofs (disch := omega) only [go_sem, hky, hlt, hyrow, hqr, h4, Int.reduceLT, Int.reduceNeg]
      refine ⟨i + 1, by omega, by omega, ?_⟩
      rw [hzz]
      exact lek
     ·rw [if_neg hl40] at hst2
      subst hst2
      have h4 : (((yte.length : Nat) : Int) == 40) = false := by simp; omega
      simp -implicitDefEqProofs (disch := omega) only [go_sem, hky, hlt, hyrow, hqr, h4, Int.reduceLT, Int.reduceNeg]
      have hlast : ∀ X : List AC, (rowsOf Tm.enc yte ++ [X]).getD yte.length [] = X := fun X => by simp [rowsOf, List.getD]
      refine ⟨⟨by simp, by omega, by omega⟩, fun _ => ⟨by omega, fun _ => ⟨by rw [hlast]; simp, fun _ => ⟨⟨by simp, by omega, by omega⟩, fun _ => ⟨i + 1, by omega, by omega, ?_⟩⟩⟩⟩⟩
      rw [hzz]
      exact tN1
  ·have : i = L.length := by omega
   subst this
   have e : yV0 dd k (.mk uk un uz ua) (L.take L.length) ⟨x.te, x.mo, true⟩ = yE := by rw [List.take_length, hyE, hdd]
   rw [e]
   refine fR1 ?_
   exact ⟨[], by simp, rfl, by simp [go_sem]⟩
theorem lZ0 (d : GDefinition) (n k : Nat) (y : GSpace) (u : Tm) (hu : y.te[k]? = some u) : qG0 d (n + 1) k y = qG0 d n (k + 1) ⟨(yV0 d k u (yt0 d u) ⟨y.te, y.mo, true⟩).te, (yV0 d k u (yt0 d u) ⟨y.te, y.mo, true⟩).mo, y.fu && (yV0 d k u (yt0 d u) ⟨y.te, y.mo, true⟩).fu⟩ := by
 have h := dD0 d k u y.fu (yt0 d u) y.te y.mo true
 rw [Bool.and_true] at h
 conv => lhs; unfold qG0
 rw [hu]
 simp only
 rw [← h]
theorem pz0 (d : GDefinition) (n k : Nat) (y : GSpace) (h : y.te.length ≤ k) : qG0 d n k y = y := by
 cases n with
 | zero => rfl
 | succ n =>
  unfold qG0
  rw [List.getElem?_eq_none h]
theorem bo0 (d : GDefinition) (hs : d.size < 1048577) (t : Tm) (ht : t.size < 1048577) (hcf : yu0 d t = false) : Sat Tryz.prog 12 [zz0 d.enc, tmV t] (zz0 (qR0 d t).enc) := by
 have hcs := yT0 d hs t (by omega)
 rw [hcf] at hcs
 have hX : qR0 d t = lV0 := by unfold qR0; rw [if_neg (by rw [hcf]; decide)]
 rw [hX]
 obtain ⟨⟨so, op⟩, ru, st⟩ := d
 obtain ⟨tk, tn, tz, ta⟩ := t
 refine soc zE0 zA0 Tryz.func12 ?_
 simp -implicitDefEqProofs only [go_sem, GDefinition.enc, GSignature.enc, Tm.enc, encS, encL, List.cons_append, List.nil_append]
 refine c7' hcs ?_
 rfl
end Go.Ai
