/- Traces are replayed. -/
import Derived.Test.YtofbieojmaobfaaGreatAiSR
import Derived.Test.YtofbieojmaobfaaGreatAiY3
import Derived.Test.YtofbieojmaobfaaGreatAiA3
import Derived.Test.YtofbieojmaobfaaGreatAiRow2
import Derived.Test.YtofbieojmaobfaaGreatAiDyn5
import Derived.Test.YtofbieojmaobfaaGreatAiG1
import Derived.Test.YtofbieojmaobfaaGreatAiN1
import Derived.Test.YtofbieojmaobfaaGreatAiI5
set_option linter.unusedVariables false
set_option linter.unusedSimpArgs false
namespace Go.Ai
open Go.Proofs
set_option maxRecDepth 100000
theorem eqLI (xs ys : List Int) : eqL eqI xs ys = decide (xs = ys) := by
 induction xs generalizing ys with
 | nil => cases ys <;> simp [eqL]
 | cons x xs ih =>
  cases ys with
  | nil => simp [eqL]
  | cons y ys => simp [eqL, eqI, ih, Bool.beq_eq_decide_eq]
theorem sliceEq_sat (xs : List Int) (hl : xs.length ≤ 140737488355328) (ys : List Int) : Sat Tryz.prog 144 [slV (xs.map encI), slV (ys.map encI)] (boolV (eqL eqI xs ys)) := by
 refine sat_of_code tbOk mixed Tryz.func144 rfl rfl rfl (by decide +kernel) (by decide +kernel) (Nat.le_of_ble_eq_true rfl) ?_
 simp -implicitDefEqProofs (disch := omega) only [go_sem]
 refine ⟨fun h4 => ?_, fun h4 => ?_⟩
 ·rw [eqL_len eqI xs ys (by omega)]
 ·have hll : xs.length = ys.length := by simp at h4; omega
  refine loopA_rule (ι := Nat) (fun i => mk 26 [(0, slV (xs.map encI)), (1, slV (ys.map encI)), (11, slV (xs.map encI)), (12, intV xs.length), (13, intV i)] [])
   (fun i => i ≤ xs.length ∧ eqL eqI (xs.drop i) (ys.drop i) = eqL eqI xs ys) (fun i => xs.length - i) 0 ⟨Nat.zero_le _, by simp⟩ ?_ tbOk mixed (by decide +kernel) ?_
  ·exact le_mk (by simp [go_sem]) (by simp [go_sem])
  ·rintro i ⟨hi, he⟩
   rcases Nat.lt_or_ge i xs.length with hlt | hge
   ·have hlt' : i < ys.length := by omega
    have hg := map_getD (ec := encI) hlt
    have hg' := map_getD (ec := encI) hlt'
    rw [eqL_drop eqI xs ys i hlt hlt'] at he
    generalize xs[i] = x at hg he
    generalize ys[i] = y at hg' he
    simp only [encI] at hg hg'
    simp only [eqI] at he
    simp -implicitDefEqProofs (disch := omega) only [go_sem, hg, hg', hlt, hlt']
    refine ⟨fun h => ?_, fun h => ⟨i + 1, ⟨hlt, ?_⟩, by omega, le_mk (by simp [go_sem]) (by simp [go_sem])⟩⟩
    ·grind
    ·grind
   ·have e1 : xs.drop i = [] := List.drop_of_length_le hge
    have e2 : ys.drop i = [] := List.drop_of_length_le (by omega)
    rw [e1, e2] at he
    simp -implicitDefEqProofs (disch := omega) only [go_sem, Nat.not_lt.2 hge]
    rw [← he]; rfl
theorem specInts_sat (xs : List Int) (hl : xs.length ≤ 140737488355328) (ys : List Int) : Sat Tryz.prog 129 [slV (xs.map encI), slV (ys.map encI)] (boolV (eqL eqI xs ys)) := by
 refine sat_of_code tbOk mixed Tryz.func129 rfl rfl rfl (by decide +kernel) (by decide +kernel) (Nat.le_of_ble_eq_true rfl) ?_
 simp -implicitDefEqProofs (disch := omega) only [go_sem]
 refine ⟨fun h4 => ?_, fun h4 => ?_⟩
 ·rw [eqL_len eqI xs ys (by omega)]
 ·have hll : xs.length = ys.length := by simp at h4; omega
  refine loopA_rule (ι := Nat) (fun i => mk 26 [(0, slV (xs.map encI)), (1, slV (ys.map encI)), (5, intV i)] [])
   (fun i => i ≤ xs.length ∧ eqL eqI (xs.drop i) (ys.drop i) = eqL eqI xs ys) (fun i => xs.length - i) 0 ⟨Nat.zero_le _, by simp⟩ ?_ tbOk mixed (by decide +kernel) ?_
  ·exact le_mk (by simp [go_sem]) (by simp [go_sem])
  ·rintro i ⟨hi, he⟩
   rcases Nat.lt_or_ge i xs.length with hlt | hge
   ·have hlt' : i < ys.length := by omega
    have hg := map_getD (ec := encI) hlt
    have hg' := map_getD (ec := encI) hlt'
    rw [eqL_drop eqI xs ys i hlt hlt'] at he
    generalize xs[i] = x at hg he
    generalize ys[i] = y at hg' he
    simp only [encI] at hg hg'
    simp only [eqI] at he
    simp -implicitDefEqProofs (disch := omega) only [go_sem, hg, hg', hlt, hlt']
    refine ⟨fun h => ?_, fun h => ⟨i + 1, ⟨hlt, ?_⟩, by omega, le_mk (by simp [go_sem]) (by simp [go_sem])⟩⟩
    ·grind
    ·grind
   ·have e1 : xs.drop i = [] := List.drop_of_length_le hge
    have e2 : ys.drop i = [] := List.drop_of_length_le (by omega)
    rw [e1, e2] at he
    simp -implicitDefEqProofs (disch := omega) only [go_sem, Nat.not_lt.2 hge]
    rw [← he]; rfl
theorem gather_mem (rs : List (List (Int × List Int))) : ∀ (xs : List Int) (q : Int × List Int), q ∈ gather rs xs → ∃ x q', x ∈ xs ∧ q' ∈ rs.getD x.toNat [] ∧ q = (q'.1, x :: q'.2)
 | [], q, h => by cases h
 | x :: xs, q, h => by
  simp only [gather, List.mem_append, List.mem_map] at h
  rcases h with ⟨q', h1, rfl⟩ | h
  ·exact ⟨x, q', by simp, h1, rfl⟩
  ·obtain ⟨y, q', h1, h2, h3⟩ := gather_mem rs xs q h
   exact ⟨y, q', by simp [h1], h2, h3⟩
theorem firesF_at (p : GRule → Bool) : ∀ (rs : List GRule) (k x : Int), x ∈ firesF p rs k → ∃ (j : Nat) (h : j < rs.length), x = k + j ∧ p rs[j] = true
 | [], _, _, h => by simp [firesF] at h
 | r :: rs, k, x, h => by
  simp only [firesF, List.mem_append] at h
  rcases h with h | h
  ·split at h
   ·rename_i hp
    simp at h
    exact ⟨0, by simp, by simp [h], hp⟩
   ·cases h
  ·obtain ⟨j, hj, e, hp⟩ := firesF_at p rs (k + 1) x h
   exact ⟨j + 1, by simpa using hj, by rw [e]; push_cast; omega, hp⟩
theorem all_red (d : GDefinition) : ∀ (t : Tm), tmOk t → rng d.st t → ∀ q, q ∈ t.all d.st (firesI d) → q.2.length ≤ t.size ∧ ∃ (j : Nat) (hj : j < d.ru.length) (u : Tm), q.1 = (j : Int) ∧ atp q.2 t = some u ∧ tmOk u ∧ (fireI d.ru[j] u).isSome = true := by
 refine Tm.ind (fun k n s ts ih ht hr q hq => ?_)
 rw [Tm.all, List.mem_append, List.mem_map] at hq
 rcases hq with ⟨x, hx, rfl⟩ | hq
 ·obtain ⟨j, hj, e, hp⟩ := firesF_at _ d.ru 0 x hx
  exact ⟨Nat.zero_le _, j, hj, _, by rw [e]; simp, rfl, ht, hp⟩
 ·obtain ⟨x, q', h1, h2, rfl⟩ := gather_mem _ _ _ hq
  by_cases hk : k = 2
  ·rw [if_pos hk] at h1
   have hxr := hr.1 hk x h1
   rw [alls_get d.st (firesI d) ts _ hxr.2] at h2
   obtain ⟨h3, j, hj, u, h4, h5, h6, h7⟩ := ih _ (List.getElem_mem hxr.2) (tmOk_sub k n s ts ht _ (List.getElem_mem hxr.2)) (rngs_mem d.st ts hr.2 _ (List.getElem_mem hxr.2)) q' h2
   have hs := size_mem ts _ (List.getElem_mem hxr.2)
   have hl := len_sizes ts
   refine ⟨by simp only [List.length_cons, Tm.size]; omega, j, hj, u, h4, ?_, h6, h7⟩
   simp only [atp]
   rw [if_pos (by simp; omega), List.getD_eq_getElem?_getD, List.getElem?_eq_getElem hxr.2, Option.getD_some]
   exact h5
  ·rw [if_neg hk] at h1; cases h1
def goodT (d : GDefinition) (t : Tm) : Prop := tmOk t ∧ t.nodes = true ∧ t.sort d.si [] ≠ sE
theorem good_rng (d : GDefinition) (hst : strB d.si d.st = true) (t : Tm) (h : goodT d t) : rng d.st t := rng_of d.si d.st hst t h.2.1 ((eqS_ne _ _).2 h.2.2)
theorem good_cfg (d : GDefinition) (hw : d.wf) (t : Tm) (htw : t.wf) (h : cfgB d t = true) : goodT d t ∧ strB d.si d.st = true := by
 have h1 := cfg_ok d hw t htw h
 simp only [cfgB, defB, Bool.and_eq_true] at h
 have h2 := h.1.1.2
 simp only [Tm.valid, Bool.and_eq_true] at h2
 exact ⟨⟨h1.2.1, h2.2, by rw [← eqS_ne]; simpa using h.2⟩, h.1.1.1.1.2⟩
theorem good_red (d : GDefinition) (hst : strB d.si d.st = true) (t : Tm) (h : goodT d t) (q : Int × List Int) (hq : q ∈ t.all d.st (firesI d)) : redOk d t q := by
 obtain ⟨h1, h2⟩ := all_red d t h.1 (good_rng d hst t h) q hq
 have := h.1.1
 exact ⟨by omega, h2⟩
theorem good_do (d : GDefinition) (hd : ∀ x, x ∈ d.ru → ruleOk x ∧ ruleB d.si x = true) (t : Tm) (h : goodT d t) (q : Int × List Int) (hq : redOk d t q) (hv : (doB d t q).valid = true) : goodT d (doB d t q) := by
 have hn := hv
 simp only [Tm.valid, Bool.and_eq_true] at hn
 exact ⟨tmOk_of _ hv (doB_wf d (fun x hx => (hd x hx).1) t h.1.2.2 q hq), hn.2, by rw [do_sort d (fun x hx => (hd x hx).2) t h.2.1 h.2.2 q hq]; exact h.2.2⟩
def hasQ (l : List (Int × List Int)) (x : Int × List Int) : Bool := l.any fun y => decide (y = x)
def replay (d : GDefinition) : Tm → List (Int × List Int) → Option Tm
 | t, [] => some t
 | t, x :: xs => if hasQ (t.all d.st (firesI d)) x && (doB d t x).valid then replay d (doB d t x) xs else none
def replayB (d : GDefinition) (t : Tm) (xs : List (Int × List Int)) : Option Tm := if cfgB d t then replay d t xs else none
theorem has_mem (l : List (Int × List Int)) (x : Int × List Int) : hasQ l x = true ↔ x ∈ l := by
 simp [hasQ]
theorem pair_eq (a b : Int × List Int) : decide (a = b) = (decide (a.1 = b.1) && decide (a.2 = b.2)) := by
 rw [← Bool.decide_and]
 exact decide_eq_decide.2 Prod.ext_iff
theorem l13Has_sat (l : List (Int × List Int)) (hl : l.length < 1000000000) (hp : ∀ y, y ∈ l → y.2.length ≤ 100000000) (x : Int × List Int) : Sat Tryz.prog 72 [slV (l.map encQ), .agg [iC x.1, .c (.sl (x.2.map encI))]] (boolV (hasQ l x)) := by
 obtain ⟨r, hr⟩ : ∃ r, r = hasQ l x := ⟨_, rfl⟩
 rw [← hr]
 refine sat_of_code tbOk mixed Tryz.func72 rfl rfl rfl (by decide +kernel) (by decide +kernel) (Nat.le_of_ble_eq_true rfl) ?_
 simp -implicitDefEqProofs (disch := omega) only [go_sem, List.length_map]
 refine loopA_rule (ι := Nat) (fun i => mk 30 [(0, slV (l.map encQ)), (3, .one (.ptr 3 0)), (5, intV i)] [(3, .var [iC x.1, .c (.sl (x.2.map encI))])]) (fun i => i ≤ l.length ∧ r = hasQ (l.drop i) x) (fun i => l.length - i) 0 ⟨Nat.zero_le _, by simpa using hr⟩ ?_ tbOk mixed (by decide +kernel) ?_
 ·exact le_mk (by simp [go_sem]) (by simp [go_sem])
 ·rintro i ⟨hi, hr⟩
  rcases Nat.lt_or_ge i l.length with hlt | hge
  ·have hg := map_getD (ec := encQ) hlt
   rw [List.drop_eq_getElem_cons hlt] at hr
   simp only [hasQ, List.any_cons, pair_eq] at hr
   have hy := hp _ (List.getElem_mem hlt)
   generalize l[i] = y at hg hr hy
   have hq := specInts_sat y.2 (by omega) x.2
   rw [eqLI] at hq
   simp only [encQ] at hg
   simp -implicitDefEqProofs (disch := omega) only [go_sem, hg, hlt, List.length_map]
   refine ⟨fun h => CallK.mk hq ?_, fun h => ?_⟩
   ·simp -implicitDefEqProofs (disch := omega) only [go_sem, hg, hlt, List.length_map]
    refine ⟨fun h2 => ?_, fun h2 => ⟨i + 1, ⟨hlt, ?_⟩, by omega, le_mk (by simp [go_sem]) (by simp [go_sem])⟩⟩
    ·rw [hr, decide_eq_true h, decide_eq_true h2]; rfl
    ·rw [hr, decide_eq_false h2, Bool.and_false, Bool.false_or]; simp only [hasQ, pair_eq]
   ·refine ⟨i + 1, ⟨hlt, ?_⟩, by omega, le_mk (by simp [go_sem]) (by simp [go_sem])⟩
    rw [hr, decide_eq_false (by simpa using h), Bool.false_and, Bool.false_or]; simp only [hasQ, pair_eq]
  ·have : i = l.length := by omega
   subst this
   rw [List.drop_length] at hr
   simp -implicitDefEqProofs (disch := omega) only [go_sem, Nat.lt_irrefl, List.length_map]
   rw [hr]; rfl
def idxQ (p : Int × List Int → Bool) : List (Int × List Int) → Nat → Int
 | [], _ => -1
 | y :: l, k => if p y then (k : Int) else idxQ p l (k + 1)
theorem idxQ_any (p : Int × List Int → Bool) : ∀ (l : List (Int × List Int)) (k : Nat), decide (idxQ p l k ≥ 0) = l.any p
 | [], _ => by simp [idxQ]
 | y :: l, k => by
  simp only [idxQ, List.any_cons]
  split
  ·rename_i h; simp [h]
  ·rename_i h; rw [idxQ_any p l (k + 1)]; simp [h]
abbrev capQ (x : Int × List Int) : List C := [.v (.int .i64 x.1), .sl (x.2.map encI)]
theorem equalRedex_sat (x y : Int × List Int) (hx : x.2.length ≤ 100000000) : Sat Tryz.prog 81 [aggV (capQ x), aggV (capQ y)] (boolV (decide (y = x))) := by
 have hq := sliceEq_sat x.2 (by omega) y.2
 rw [eqLI] at hq
 obtain ⟨r, hr⟩ : ∃ r, r = decide (y = x) := ⟨_, rfl⟩
 rw [← hr]
 have hr : r = (decide (x.1 = y.1) && decide (x.2 = y.2)) := by rw [hr, ← pair_eq]; exact decide_eq_decide.2 eq_comm
 refine sat_of_code tbOk mixed Tryz.func81 rfl rfl rfl (by decide +kernel) (by decide +kernel) (Nat.le_of_ble_eq_true rfl) ?_
 simp -implicitDefEqProofs (disch := omega) only [go_sem, capQ]
 refine ⟨fun h => CallK.mk hq ?_, fun h => ?_⟩
 ·simp -implicitDefEqProofs (disch := omega) only [go_sem]
  rw [hr, decide_eq_true h, Bool.true_and]
 ·rw [hr, decide_eq_false (by simpa using h), Bool.false_and]
theorem isRedex_sat (x y : Int × List Int) (hx : x.2.length ≤ 100000000) : Sat Tryz.prog 80 [aggV (capQ y), .one (.ip (capQ x))] (boolV (decide (y = x))) := by
 have hq := equalRedex_sat x y hx
 refine sat_of_code tbOk mixed Tryz.func80 rfl rfl rfl (by decide +kernel) (by decide +kernel) (Nat.le_of_ble_eq_true rfl) ?_
 simp -implicitDefEqProofs (disch := omega) only [go_sem, capQ]
 refine CallK.mk hq ?_
 simp -implicitDefEqProofs (disch := omega) only [go_sem]
theorem indexRedex_sat (l : List (Int × List Int)) (hl : l.length < 1000000000) (x : Int × List Int) (hx : x.2.length ≤ 100000000) : Sat Tryz.prog 140 [slV (l.map encQ), .one (.clo 80 [.ip (capQ x)])] (intV (idxQ (fun y => decide (y = x)) l 0)) := by
 obtain ⟨r, hr⟩ : ∃ r, r = idxQ (fun y => decide (y = x)) l 0 := ⟨_, rfl⟩
 rw [← hr]
 refine sat_of_code tbOk mixed Tryz.func140 rfl rfl rfl (by decide +kernel) (by decide +kernel) (Nat.le_of_ble_eq_true rfl) ?_
 simp -implicitDefEqProofs (disch := omega) only [go_sem, List.length_map]
 refine loopA_rule (ι := Nat) (fun i => mk 19 [(0, slV (l.map encQ)), (1, .one (.clo 80 [.ip (capQ x)])), (7, intV l.length), (8, intV i)] []) (fun i => i ≤ l.length ∧ r = idxQ (fun y => decide (y = x)) (l.drop i) i) (fun i => l.length - i) 0 ⟨Nat.zero_le _, by simpa using hr⟩ ?_ tbOk mixed (by decide +kernel) ?_
 ·exact le_mk (by simp [go_sem]) (by simp [go_sem])
 ·rintro i ⟨hi, hr⟩
  rcases Nat.lt_or_ge i l.length with hlt | hge
  ·have hg := map_getD (ec := encQ) hlt
   rw [List.drop_eq_getElem_cons hlt] at hr
   simp only [idxQ] at hr
   have hs := isRedex_sat x l[i] hx
   generalize l[i] = y at hg hr hs
   simp only [encQ] at hg
   simp -implicitDefEqProofs (disch := omega) only [go_sem, hg, hlt, List.length_map]
   refine SelfK.mk hs rfl ?_
   simp -implicitDefEqProofs (disch := omega) only [go_sem]
   refine ⟨fun h => ?_, fun h => ⟨i + 1, ⟨hlt, ?_⟩, by omega, le_mk (by simp [go_sem]) (by simp [go_sem])⟩⟩
   ·rw [hr, if_pos (by simpa using h)]
   ·rw [hr, if_neg (by simpa using h)]
  ·have : i = l.length := by omega
   subst this
   rw [List.drop_length] at hr
   simp only [idxQ] at hr
   simp -implicitDefEqProofs (disch := omega) only [go_sem, Nat.lt_irrefl, List.length_map]
   exact hr.symm
theorem containsRedex_sat (l : List (Int × List Int)) (hl : l.length < 1000000000) (x : Int × List Int) (hx : x.2.length ≤ 100000000) : Sat Tryz.prog 78 [slV (l.map encQ), .one (.clo 80 [.ip (capQ x)])] (boolV (hasQ l x)) := by
 have hi := indexRedex_sat l hl x hx
 have hb := idxQ_any (fun y => decide (y = x)) l 0
 rw [hasQ, ← hb]
 refine sat_of_code tbOk mixed Tryz.func78 rfl rfl rfl (by decide +kernel) (by decide +kernel) (Nat.le_of_ble_eq_true rfl) ?_
 simp -implicitDefEqProofs (disch := omega) only [go_sem, capQ]
 refine CloK.mk hi rfl trivial (by simp [go_sem]) rfl ?_
 simp -implicitDefEqProofs (disch := omega) only [go_sem]
end Go.Ai
/- Traces are replayed, in the reference and in the program. -/
namespace Go.Ai
open Go.Proofs
set_option maxRecDepth 100000
def tCells : Tm → List AC
 | .mk k n s ts => [iC k, iC n, sC s, tC ts]
theorem good_all (d : GDefinition) (hru : d.ru.length ≤ 16) (hnd : ndS d.st) (hst : strB d.si d.st = true) (t : Tm) (h : goodT d t) : (t.all d.st (firesI d)).length ≤ 960 := by
 have h1 := all_len d.st (firesI d) d.ru.length (fun t => firesF_len _ _ _) hnd t (good_rng d hst t h)
 have := Nat.mul_le_mul hru h.1.2.1
 omega
theorem cfg_ru (d : GDefinition) (t : Tm) (h : cfgB d t = true) : d.ru.length ≤ 16 := by
 simp only [cfgB, defB, Bool.and_eq_true, decide_eq_true_eq] at h
 exact h.1.1.1.1.1.1.2
theorem specReplay_sat (d : GDefinition) (hw : d.wf) (hs : d.size < 1048577) (t : Tm) (htw : t.wf) (ht : t.size < 1048577) (xs : List (Int × List Int)) (hxl : xs.length < 1000000000) (hxp : ∀ x, x ∈ xs → x.2.length ≤ 100000000) :
  Sat Tryz.prog 26 [aggV d.enc, tmV t, slV (xs.map encQ)] (.tup [tmV ((replayB d t xs).getD zeroT), boolV (replayB d t xs).isSome]) := by
 have hc := specCfg_sat d hs t (by omega)
 have hcp := l3Copy_sat t ht
 have hgc := good_cfg d hw t htw
 have hru := cfg_ru d t
 have hnd := cfg_nd d t
 have hok := cfg_ok d hw t htw
 have hl2 := len_szL GStrict.size d.st
 have hs' := hs
 simp only [GDefinition.size] at hs'
 have hall : cfgB d t = true → ∀ u, goodT d u → SatA Tryz.prog 73 [aggV d.enc, tmV u, slV []] [] 120 2 (rowsOf encQ []) (rowsOf encQ (u.all d.st (firesI d))) [] := fun h u hu => by
  have h1 := specL12All_sat d (by have := hru h; omega) (by omega) (hnd h) (fun x hx => ⟨(hok h).1 x hx, (hok h).2.2 x hx⟩) u hu.1 (good_rng d (hgc h).2 u hu) [] [] (by have := hu.1.1; simp; omega) (by
   have h1 := hu.1.2.1
   have := Nat.mul_le_mul (hru h) h1
   simp only [List.length_nil]; omega)
  simpa [behind] using h1
 have hdo : cfgB d t = true → ∀ u, goodT d u → ∀ q, redOk d u q → Sat Tryz.prog 74 [aggV d.enc, tmV u, .agg [iC q.1, .c (.sl (q.2.map encI))]] (.tup [tmV (doB d u q), boolV (doB d u q).valid]) := fun h u hu q hq =>
  specDo_sat d (by have := hru h; omega) (fun x hx => ⟨(hok h).1 x hx, (hok h).2.2 x hx⟩) u (by have := hu.1.1; omega) q hq
 obtain ⟨r, hr⟩ : ∃ r, r = replayB d t xs := ⟨_, rfl⟩
 rw [← hr]
 unfold replayB at hr
 generalize hb : cfgB d t = b at hc hr
 have hde : d.enc = [.sl (d.si.so.map encS), .sl (d.si.op.map GOp.enc), .sl (d.ru.map GRule.enc), .sl (d.st.map GStrict.enc)] := rfl
 obtain ⟨t0, ht0⟩ : ∃ t0, t0 = t := ⟨_, rfl⟩
 obtain ⟨k2, n2, s2, ts2⟩ := t
 refine sat_of_codeH [(7, ([⟨4, 5, [25, 26, 27, 28], [2]⟩, ⟨4, 6, [25, 26, 27, 28], [9]⟩, ⟨4, 7, [25, 26, 27, 28], [30, 31]⟩, ⟨4, 8, [25, 26, 27, 28], [32]⟩], 4))] tbOk mixed Tryz.func26 rfl rfl rfl (by decide +kernel) (by decide +kernel) (Nat.le_of_ble_eq_true rfl) ?_
 simp -implicitDefEqProofs (disch := omega) only [go_sem, Tm.enc, hde]
 refine CallK.mk hc ?_
 simp -implicitDefEqProofs (disch := omega) only [go_sem, hde]
 refine ⟨fun h => ?_, fun h => CallK.mk hcp ?_⟩
 ·have : r = none := by rw [hr, h]; rfl
  rw [this]; rfl
 ·rw [h, if_pos rfl] at hr
  have hb : cfgB d (.mk k2 n2 s2 ts2) = true := by rw [hb, h]
  obtain ⟨hg0, hst⟩ := hgc hb
  have hru := hru hb
  have hnd := hnd hb
  have hall := hall hb
  have hdo := hdo hb
  have hok := hok hb
  clear hgc hc hcp
  simp -implicitDefEqProofs (disch := omega) only [go_sem, hde, Tm.enc]
  refine loopH_rule [(7, ([⟨4, 5, [25, 26, 27, 28], [2]⟩, ⟨4, 6, [25, 26, 27, 28], [9]⟩, ⟨4, 7, [25, 26, 27, 28], [30, 31]⟩, ⟨4, 8, [25, 26, 27, 28], [32]⟩], 4))] (ι := Nat × Tm) (fun q => mk 52 [(2, slV (xs.map encQ)), (3, .one (.ptr 3 0)), (6, .one (.ptr 6 0)), (8, .one (.ptr 8 0)), (9, intV q.1)] [(3, .var [.c (.sl (d.si.so.map encS)), .c (.sl (d.si.op.map GOp.enc)), .c (.sl (d.ru.map GRule.enc)), .c (.sl (d.st.map GStrict.enc))]), (6, .var [iC 0, iC 0, sC ⟨⟨[]⟩⟩, .nil]), (8, .var (tCells q.2))])
   (fun q => q.1 ≤ xs.length ∧ goodT d q.2 ∧ r = replay d q.2 (xs.drop q.1)) (fun q => xs.length - q.1) (0, .mk k2 n2 s2 ts2) ⟨Nat.zero_le _, hg0, by simpa using hr⟩ ?_ tbOk mixed (by decide +kernel) ?_
  ·simp only [tCells]
   exact le_mk (by simp [go_sem]) (by simp [go_sem])
  ·rintro ⟨i, u⟩ ⟨hi, hg, hr⟩
   simp only at hi hg hr
   rcases Nat.lt_or_ge i xs.length with hlt | hge
   ·have hx := map_getD (ec := encQ) hlt
    rw [List.drop_eq_getElem_cons hlt] at hr
    simp only [replay] at hr
    have hau := hall u hg
    have hal := good_all d hru hnd hst u hg
    have hre : xs[i]'hlt ∈ u.all d.st (firesI d) → redOk d u (xs[i]'hlt) := fun h => good_red d hst u hg _ h
    have hhas := l13Has_sat (u.all d.st (firesI d)) (by omega) (fun y hy => by
     have := (good_red d hst u hg y hy).1
     omega) xs[i]
    have hdq := fun (h : hasQ (u.all d.st (firesI d)) (xs[i]'hlt) = true) => hdo u hg _ (hre ((has_mem _ _).1 h))
    have hgd := fun (h : hasQ (u.all d.st (firesI d)) (xs[i]'hlt) = true) (hv : (doB d u (xs[i]'hlt)).valid = true) => good_do d (fun x hx => ⟨hok.1 x hx, hok.2.2 x hx⟩) u hg _ (hre ((has_mem _ _).1 h)) hv
    generalize hasQ (u.all d.st (firesI d)) xs[i] = b2 at hr hhas hdq hgd
    generalize u.all d.st (firesI d) = l at hau hhas
    generalize doB d u xs[i] = v at hr hdq hgd
    generalize v.valid = b3 at hr hdq hgd
    generalize xs[i] = x at hx hhas hdq
    obtain ⟨xr, xp⟩ := x
    obtain ⟨k, n, s, ts⟩ := u
    obtain ⟨vk, vn, vs, vt⟩ := v
    simp only [encQ, tCells] at hx ⊢
    simp -implicitDefEqProofs (disch := omega) only [go_sem, hx, hlt, List.length_map, hde]
    refine HvC.mk 3 hau ⟨rfl, rfl, by simp [othersK, AV.owns, AC.owns]⟩ rfl ?_
    simp -implicitDefEqProofs (disch := omega) only [go_sem, hx, hlt, List.length_map, hde]
    refine CallK.bor hhas rfl ?_
    simp -implicitDefEqProofs (disch := omega) only [go_sem, hx, hlt, List.length_map, hde]
    refine ⟨fun h2 => ?_, fun h2 => CallK.mk (hdq h2) ?_⟩
    ·have : r = none := by rw [hr, h2]; rfl
     rw [this]; rfl
    ·simp -implicitDefEqProofs (disch := omega) only [go_sem, hx, hlt, List.length_map, hde, Tm.enc]
     refine ⟨fun h3 => ?_, fun h3 => ⟨(i + 1, .mk vk vn vs vt), ⟨hlt, hgd h2 h3, ?_⟩, by simp only; omega, ?_⟩⟩
     ·have : r = none := by rw [hr, h2, h3]; rfl
      rw [this]; rfl
     ·rw [hr, h2, h3]; rfl
     ·simp only [tCells]
      exact le_mk (by simp [go_sem]) (by simp [go_sem])
   ·have : i = xs.length := by omega
    subst this
    rw [List.drop_length] at hr
    simp only [replay] at hr
    obtain ⟨k, n, s, ts⟩ := u
    simp only [tCells]
    simp -implicitDefEqProofs (disch := omega) only [go_sem, Nat.lt_irrefl, List.length_map, hde]
    rw [hr]; rfl
def nowC (last : Bool) : Tm → List AC
 | .mk k n s ts => if last then [iC k, iC n, sC s, .tk 9100 3] else [iC k, iC n, sC s, tC ts]
def nowB (last : Bool) : Tm → List (Nat × LB)
 | .mk k n s ts => if last then [(9100, .tok [some (.v (.int .i64 k)), some (.v (.int .i64 n)), some (.v (.string s)), some (.sl (Tm.encs ts))])] else []
theorem implReplay_sat (d : GDefinition) (hw : d.wf) (hs : d.size < 1048577) (t : Tm) (htw : t.wf) (ht : t.size < 1048577) (xs : List (Int × List Int)) (hxl : xs.length < 1000000000) (hxp : ∀ x, x ∈ xs → x.2.length ≤ 100000000) :
  SatF Tryz.prog 29 [aggV d.enc, tmV t, slV (xs.map encQ)] (.tup [tmV ((replayB d t xs).getD zeroT), boolV (replayB d t xs).isSome]) := by
 have hc := implCfg_sat d hs t (by omega)
 have hcp := copyTermF_sat t (by omega)
 have hgc := good_cfg d hw t htw
 have hru := cfg_ru d t
 have hnd := cfg_nd d t
 have hok := cfg_ok d hw t htw
 have hl2 := len_szL GStrict.size d.st
 have hs' := hs
 simp only [GDefinition.size] at hs'
 have hall : cfgB d t = true → ∀ u, goodT d u → SatF Tryz.prog 79 [aggV d.enc, tmV u, slV []] (slV ((u.all d.st (firesI d)).map encQ)) := fun h u hu => by
  have h1 := implAll_sat d (by have := hru h; omega) (by omega) (hnd h) (hok h).1 u hu.1 (good_rng d (hgc h).2 u hu) [] (by have := hu.1.1; simp; omega)
  have e : (u.all d.st (firesI d)).map (encP []) = (u.all d.st (firesI d)).map encQ := by simp [encP, encQ]
  rwa [e] at h1
 have hdo : cfgB d t = true → ∀ u, goodT d u → ∀ q, redOk d u q → Sat Tryz.prog 82 [aggV d.enc, tmV u, .agg [iC q.1, .c (.sl (q.2.map encI))]] (.tup [tmV (doB d u q), boolV (doB d u q).valid]) := fun h u hu q hq =>
  implDo_sat d (by have := hru h; omega) (hok h).1 u (by have := hu.1.1; omega) q hq
 obtain ⟨r, hr⟩ : ∃ r, r = replayB d t xs := ⟨_, rfl⟩
 rw [← hr]
 unfold replayB at hr
 generalize hb : cfgB d t = b at hc hr
 have hde : d.enc = [.sl (d.si.so.map encS), .sl (d.si.op.map GOp.enc), .sl (d.ru.map GRule.enc), .sl (d.st.map GStrict.enc)] := rfl
 obtain ⟨rT, hrT⟩ : ∃ rT, rT = r.getD zeroT := ⟨_, rfl⟩
 rw [← hrT]
 obtain ⟨k2, n2, s2, ts2⟩ := t
 obtain ⟨rk, rn, rs, rt⟩ := rT
 refine satF_of_code [tmV (.mk rk rn rs rt), boolV r.isSome] rfl (fun _ h => by cases h; rfl) tbOk mixed Tryz.func29 rfl rfl rfl (by decide +kernel) (by decide +kernel) (Nat.le_of_ble_eq_true rfl) ?_
 simp -implicitDefEqProofs (disch := omega) only [go_sem, Tm.enc, hde]
 refine CallK.mk hc ?_
 simp -implicitDefEqProofs (disch := omega) only [go_sem, hde]
 refine ⟨fun h => ?_, fun h => ?_⟩
 ·have : r = none := by rw [hr, h]; rfl
  subst this
  cases hrT
  simp [go_sem, Tm.enc, Tm.encs]
  rfl
 ·rw [h, if_pos rfl] at hr
  have hb : cfgB d (.mk k2 n2 s2 ts2) = true := by rw [hb, h]
  obtain ⟨hg0, hst⟩ := hgc hb
  have hru := hru hb
  have hnd := hnd hb
  have hall := hall hb
  have hdo := hdo hb
  have hok := hok hb
  clear hgc hc
  by_cases hx0 : xs = []
  ·subst hx0
   simp only [replay] at hr
   refine CallK.own hcp rfl ?_
   simp -implicitDefEqProofs (disch := omega) only [go_sem, hde, Tm.enc, List.length_map]
   refine loopA_rule (ι := Unit) (fun _ => mk 47 [(3, .one (.ptr 3 0)), (6, .one (.ptr 6 0)), (8, .one (.ptr 8 0)), (20, slV []), (21, intV 0), (22, intV 0)] [(3, .var [.c (.sl (d.si.so.map encS)), .c (.sl (d.si.op.map GOp.enc)), .c (.sl (d.ru.map GRule.enc)), .c (.sl (d.st.map GStrict.enc))]), (6, .var [iC 0, iC 0, sC ⟨⟨[]⟩⟩, .nil]), (8, .var [iC k2, iC n2, sC s2, .tk 19 3]), (19, .tok [some (.v (.int .i64 k2)), some (.v (.int .i64 n2)), some (.v (.string s2)), some (.sl (Tm.encs ts2))])]) (fun _ => True) (fun _ => 0) () trivial ?_ tbOk mixed (by decide +kernel) ?_
   ·exact le_mk (by simp [go_sem]) (by simp [go_sem])
   ·intro _ _
    simp -implicitDefEqProofs (disch := omega) only [go_sem, hde]
    rw [hr] at hrT ⊢
    cases hrT
    simp [go_sem, Tm.enc, Tm.encs]
  ·have hlp : 0 < xs.length := List.length_pos_iff.2 hx0
   refine CallK.mk hcp.sat ?_
   simp -implicitDefEqProofs (disch := omega) only [go_sem, hde, Tm.enc, List.length_map]
   refine loopA_rule (ι := Nat × Tm) (fun q => mk 47 [(3, .one (.ptr 3 0)), (6, .one (.ptr 6 0)), (8, .one (.ptr 8 0)), (20, slV (xs.map encQ)), (21, intV xs.length), (22, intV q.1)] ([(3, .var [.c (.sl (d.si.so.map encS)), .c (.sl (d.si.op.map GOp.enc)), .c (.sl (d.ru.map GRule.enc)), .c (.sl (d.st.map GStrict.enc))]), (6, .var [iC 0, iC 0, sC ⟨⟨[]⟩⟩, .nil]), (8, .var (nowC (decide (q.1 = xs.length)) q.2))] ++ nowB (decide (q.1 = xs.length)) q.2))
    (fun q => q.1 ≤ xs.length ∧ goodT d q.2 ∧ r = replay d q.2 (xs.drop q.1)) (fun q => xs.length - q.1) (0, .mk k2 n2 s2 ts2) ⟨Nat.zero_le _, hg0, by simpa using hr⟩ ?_ tbOk mixed (by decide +kernel) ?_
   ·have e : decide ((0 : Nat) = xs.length) = false := decide_eq_false (by omega)
    simp only [e, nowC, nowB, Bool.false_eq_true, if_false, List.append_nil]
    exact le_mk (by simp [go_sem]) (by simp [go_sem])
   ·rintro ⟨i, u⟩ ⟨hi, hg, hr⟩
    simp only at hi hg hr
    rcases Nat.lt_or_ge i xs.length with hlt | hge
    ·have hx := map_getD (ec := encQ) hlt
     rw [List.drop_eq_getElem_cons hlt] at hr
     simp only [replay] at hr
     have hau := hall u hg
     have hal := good_all d hru hnd hst u hg
     have hre : xs[i]'hlt ∈ u.all d.st (firesI d) → redOk d u (xs[i]'hlt) := fun h => good_red d hst u hg _ h
     have hhas := containsRedex_sat (u.all d.st (firesI d)) (by omega) (xs[i]'hlt) (hxp _ (List.getElem_mem hlt))
     have hdq := fun (h : hasQ (u.all d.st (firesI d)) (xs[i]'hlt) = true) => hdo u hg _ (hre ((has_mem _ _).1 h))
     have hgd := fun (h : hasQ (u.all d.st (firesI d)) (xs[i]'hlt) = true) (hv : (doB d u (xs[i]'hlt)).valid = true) => good_do d (fun x hx => ⟨hok.1 x hx, hok.2.2 x hx⟩) u hg _ (hre ((has_mem _ _).1 h)) hv
     have hcv := fun (h : hasQ (u.all d.st (firesI d)) (xs[i]'hlt) = true) (hv : (doB d u (xs[i]'hlt)).valid = true) => copyTermF_sat (doB d u (xs[i]'hlt)) (by have := (hgd h hv).1.1; omega)
     generalize hasQ (u.all d.st (firesI d)) xs[i] = b2 at hr hhas hdq hgd hcv
     generalize u.all d.st (firesI d) = l at hau hhas
     generalize doB d u xs[i] = v at hr hdq hgd hcv
     generalize v.valid = b3 at hr hdq hgd hcv
     generalize xs[i] = x at hx hhas hdq
     obtain ⟨xr, xp⟩ := x
     obtain ⟨k, n, s, ts⟩ := u
     obtain ⟨vk, vn, vs, vt⟩ := v
     simp only [encQ] at hx
     simp only [capQ] at hhas
     have e : decide (i = xs.length) = false := decide_eq_false (by omega)
     simp only [e, nowC, nowB, Bool.false_eq_true, if_false, List.append_nil]
     simp -implicitDefEqProofs (disch := omega) only [go_sem, hx, hlt, List.length_map, hde]
     refine CallK.own hau rfl ?_
     simp -implicitDefEqProofs (disch := omega) only [go_sem, hx, hlt, List.length_map, hde]
     refine CloK.mk hhas rfl trivial (by simp [go_sem]) rfl ?_
     simp -implicitDefEqProofs (disch := omega) only [go_sem, hx, hlt, List.length_map, hde]
     refine ⟨fun h2 => ?_, fun h2 => CallK.mk (hdq h2) ?_⟩
     ·have : r = none := by rw [hr, h2]; rfl
      subst this
      cases hrT
      simp [go_sem, Tm.enc, Tm.encs]
      rfl
     ·simp -implicitDefEqProofs (disch := omega) only [go_sem, hx, hlt, List.length_map, hde, Tm.enc]
      refine ⟨fun h3 => ?_, fun h3 => ?_⟩
      ·have : r = none := by rw [hr, h2, h3]; rfl
       subst this
       cases hrT
       simp [go_sem, Tm.enc, Tm.encs]
       rfl
      ·have hnx : r = replay d (.mk vk vn vs vt) (xs.drop (i + 1)) := by rw [hr, h2, h3]; rfl
       by_cases hlast : i + 1 = xs.length
       ·refine CallK.own (hcv h2 h3) rfl ?_
        simp -implicitDefEqProofs (disch := omega) only [go_sem, hde, Tm.enc, List.length_map]
        refine ⟨(i + 1, .mk vk vn vs vt), ⟨hlt, hgd h2 h3, hnx⟩, by simp only; omega, ?_⟩
        simp only [nowC, nowB, decide_eq_true_eq, if_pos hlast, List.cons_append, List.nil_append]
        refine (wk_renTok 8 44 9100 rfl rfl rfl).trans ?_
        exact le_mk (by simp [go_sem]) (by simp [go_sem, renT])
       ·refine CallK.mk (hcv h2 h3).sat ?_
        simp -implicitDefEqProofs (disch := omega) only [go_sem, hde, Tm.enc, List.length_map]
        refine ⟨(i + 1, .mk vk vn vs vt), ⟨hlt, hgd h2 h3, hnx⟩, by simp only; omega, ?_⟩
        simp only [nowC, nowB, decide_eq_true_eq, if_neg hlast, List.append_nil]
        exact le_mk (by simp [go_sem]) (by simp [go_sem])
    ·have : i = xs.length := by omega
     subst this
     rw [List.drop_length] at hr
     simp only [replay] at hr
     obtain ⟨k, n, s, ts⟩ := u
     simp only [decide_true, nowC, nowB, if_true]
     simp -implicitDefEqProofs (disch := omega) only [go_sem, Nat.lt_irrefl, List.length_map, hde]
     rw [hr] at hrT ⊢
     cases hrT
     simp [go_sem, Tm.enc, Tm.encs]
end Go.Ai
/- The law on ReplayTrace. Written by mk37.py. -/
namespace Go.Ai
open Go.Proofs Go.RowKit
set_option maxRecDepth 100000
theorem szIntS_sat (xs : List Int) (hw : wfL wfI xs) (b : Int) (h0 : 0 ≤ b) (h1 : b < 1048577) : Sat Tryz.prog 125 [slV (xs.map encI), intV b] (intV (szR (szL szI xs) b)) := by
 have hl := hw.1
 simp only [maxLen] at hl
 refine sat_of_code tbOk mixed Tryz.func125 rfl rfl rfl (by decide +kernel) (by decide +kernel) (Nat.le_of_ble_eq_true rfl) ?_
 simp -implicitDefEqProofs (disch := omega) only [go_sem]
 have := szL_int xs
 grind [szR]
structure GRedex where
 ru : Int
 ps : List Int
def GRedex.enc (x : GRedex) : List C := encI x.ru ++ (encL encI x.ps)
def GRedex.size (x : GRedex) : Nat := szI x.ru + (szL szI) x.ps
def GRedex.wf (x : GRedex) : Prop := wfI x.ru ∧ (wfL wfI) x.ps
def GRedex.eqb (x y : GRedex) : Bool := eqI x.ru y.ru && ((eqL eqI) x.ps y.ps)
theorem GRedex.enc_len (x : GRedex) : x.enc.length = 2 := by simp [GRedex.enc, encI, encS, encB, encL, Go.Ai.enc_len]
theorem GRedex.enc_take (x : GRedex) : x.enc.take 2 = x.enc := List.take_of_length_le (by rw [GRedex.enc_len]; exact Nat.le_refl _)
theorem GRedex.encm_take (x : GRedex) : (x.enc.map AC.c).take 2 = x.enc.map AC.c := List.take_of_length_le (by rw [List.length_map, GRedex.enc_len]; exact Nat.le_refl _)
attribute [go_sem] GRedex.enc_len GRedex.enc_take GRedex.encm_take
theorem GRedex.eqb_refl (x : GRedex) : x.eqb x = true := by simp only [GRedex.eqb, eqI_refl x.ru, (eqL_refl eqI_refl) x.ps, Bool.and_self]
theorem szRedex_sat (x : GRedex) (hw : x.wf) (b : Int) (h0 : 0 ≤ b) (h1 : b < 1048577) : Sat Tryz.prog 69 [aggV x.enc, intV b] (intV (szR x.size b)) := by
 obtain ⟨r, hr⟩ : ∃ r, r = szR x.size b := ⟨_, rfl⟩
 rw [← hr]
 obtain ⟨xru, xps⟩ := x
 simp only [GRedex.wf, wfI, wfS, wfB, maxLen] at hw
 simp only [GRedex.size, szI, szS, szB] at hr
 refine sat_of_code tbOk mixed Tryz.func69 rfl rfl rfl (by decide +kernel) (by decide +kernel) (Nat.le_of_ble_eq_true rfl) ?_
 simp -implicitDefEqProofs (disch := omega) only [go_sem, GRedex.enc, Tm.enc, encB, encI, encL, encS, List.cons_append, List.nil_append, List.append_nil]
 have hb0 : -1 ≤ szR ((szL szI) xps) b ∧ szR ((szL szI) xps) b ≤ 1048576 := by grind [szR]
 refine CallK.mk (szIntS_sat xps hw.2 b (by grind [szR]) (by grind [szR])) ?_
 simp -implicitDefEqProofs (disch := omega) only [go_sem, GRedex.enc, Tm.enc, encB, encI, encL, encS, List.cons_append, List.nil_append, List.append_nil]
 grind [szR]
theorem toRedex_sat (x : GRedex) (hs : x.size < 1048577) : Sat Tryz.prog 75 [aggV x.enc] (aggV x.enc) := by
 obtain ⟨xru, xps⟩ := x
 simp only [GRedex.size, szI, szS, szB] at hs
 refine sat_of_code tbOk mixed Tryz.func75 rfl rfl rfl (by decide +kernel) (by decide +kernel) (Nat.le_of_ble_eq_true rfl) ?_
 simp -implicitDefEqProofs (disch := omega) only [go_sem, GRedex.enc, Tm.enc, encB, encI, encL, encS, List.cons_append, List.nil_append, List.append_nil]
 refine CallK.mk (toIntS_sat xps (by omega)) ?_
 simp -implicitDefEqProofs (disch := omega) only [go_sem, GRedex.enc, Tm.enc, encB, encI, encL, encS, List.cons_append, List.nil_append, List.append_nil]
 rfl
theorem eqRedex_sat (x : GRedex) (hw : x.wf) (y : GRedex) : Sat Tryz.prog 83 [aggV x.enc, aggV y.enc] (boolV (x.eqb y)) := by
 obtain ⟨r, hr⟩ : ∃ r, r = x.eqb y := ⟨_, rfl⟩
 rw [← hr]
 obtain ⟨xru, xps⟩ := x
 obtain ⟨yru, yps⟩ := y
 simp only [GRedex.wf] at hw
 simp only [GRedex.eqb, eqI, eqS, eqB] at hr
 refine sat_of_code tbOk mixed Tryz.func83 rfl rfl rfl (by decide +kernel) (by decide +kernel) (Nat.le_of_ble_eq_true rfl) ?_
 simp -implicitDefEqProofs (disch := omega) only [go_sem, GRedex.enc, Tm.enc, encB, encI, encL, encS, List.cons_append, List.nil_append, List.append_nil]
 refine ⟨fun h0 => by grind, fun h0 => ?_⟩
 refine CallK.mk (eqIntS_sat xps hw.2 yps) ?_
 simp -implicitDefEqProofs (disch := omega) only [go_sem, GRedex.enc, Tm.enc, encB, encI, encL, encS, List.cons_append, List.nil_append, List.append_nil]
 grind
theorem szRedexS_sat (xs : List GRedex) (hw : wfL GRedex.wf xs) (b : Int) (h0 : 0 ≤ b) (h1 : b < 1048577) : Sat Tryz.prog 25 [slV (xs.map GRedex.enc), intV b] (intV (szR (szL GRedex.size xs) b)) := by
 have hl := hw.1
 simp only [maxLen] at hl
 refine sat_of_code tbOk mixed Tryz.func25 rfl rfl rfl (by decide +kernel) (by decide +kernel) (Nat.le_of_ble_eq_true rfl) ?_
 simp -implicitDefEqProofs (disch := omega) only [go_sem]
 refine ⟨fun h => ?_, fun h => ?_⟩
 ·have := len_szL GRedex.size xs
  grind [szR]
 ·refine loopA_rule (ι := Nat × Int) (fun i => mk 27 [(0, slV (xs.map GRedex.enc)), (5, intV i.1), (1, intV i.2)] []) (fun i => i.1 ≤ xs.length ∧ i.2 - ((szL GRedex.size (xs.drop i.1) : Int) - (xs.length - i.1)) = b - szL GRedex.size xs ∧ 0 ≤ i.2 ∧ i.2 < 1048577) (fun i => xs.length - i.1) (0, b - xs.length) ?_ ?_ tbOk mixed (by decide +kernel) ?_
  ·simp; omega
  ·exact le_mk (by simp [go_sem]) (by simp [go_sem])
  ·rintro ⟨i, c⟩ ⟨hi, hc, hc0, hc1⟩
   simp only at hi hc hc0 hc1
   rcases Nat.lt_or_ge i xs.length with hlt | hge
   ·have hg := map_getD (ec := GRedex.enc) hlt
    have hz := szL_drop GRedex.size xs i hlt
    have hz2 := len_szL GRedex.size (xs.drop (i + 1))
    simp only [List.length_drop] at hz2
    have hx := hw.2 _ (List.getElem_mem hlt)
    generalize xs[i] = x at hg hz hx
    simp -implicitDefEqProofs (disch := omega) only [go_sem, hg, hlt]
    refine CallK.mk (szRedex_sat x hx c hc0 (by omega)) ?_
    simp -implicitDefEqProofs (disch := omega) only [go_sem]
    refine ⟨fun h => ?_, fun h => ⟨(i + 1, szR (GRedex.size x) c), ⟨hlt, ?_⟩, ?_, le_mk (by simp [go_sem]) (by simp [go_sem])⟩⟩
    ·grind [szR]
    ·grind [szR]
    ·simp only; omega
   ·simp -implicitDefEqProofs (disch := omega) only [go_sem, Nat.not_lt.2 hge]
    rw [List.drop_of_length_le hge] at hc
    simp only [szL] at hc
    grind [szR]
abbrev zRedex : List AC := [iC 0, .nil]
theorem toRedexS_sat (xs : List GRedex) (hs : szL GRedex.size xs < 1048577) : Sat Tryz.prog 28 [slV (xs.map GRedex.enc)] (slV (xs.map GRedex.enc)) := by
 have hl := len_szL GRedex.size xs
 refine sat_of_code tbOk mixed Tryz.func28 rfl rfl rfl (by decide +kernel) (by decide +kernel) (Nat.le_of_ble_eq_true rfl) ?_
 simp -implicitDefEqProofs (disch := omega) only [go_sem]
 refine ⟨⟨by omega, by omega⟩, fun _ => ?_⟩
 refine loopA_rule (ι := Nat) (fun i => mk 23 [(0, slV (xs.map GRedex.enc)), (3, .one (.own 7 xs.length)), (4, intV i)] [(7, .arr 120 2 (rowsAt GRedex.enc zRedex xs i) false)]) (fun i => i ≤ xs.length) (fun i => xs.length - i) 0 (Nat.zero_le _) ?_ tbOk mixed (by decide +kernel) ?_
 ·exact le_mk (by simp [go_sem]) (by simp [go_sem, rowsAt_zero, List.mem_replicate])
 ·intro i hi
  have hlen := rowsAt_len (ec := GRedex.enc) (z := zRedex) hi
  rcases Nat.lt_or_ge i xs.length with hlt | hge
  ·have hg := map_getD (ec := GRedex.enc) hlt
   have hr := rowsAt_get (ec := GRedex.enc) (z := zRedex) hlt
   have hset := rowsAt_set (ec := GRedex.enc) (z := zRedex) hlt
   have hm := szL_mem GRedex.size xs _ (List.getElem_mem hlt)
   simp -implicitDefEqProofs (disch := omega) only [go_sem, hg, hlt, hlen]
   refine CallK.mk (toRedex_sat _ (by omega)) ?_
   simp -implicitDefEqProofs (disch := omega) only [go_sem, hlen, hlt, List.length_map, hr, hset]
   refine ⟨by simp [zRedex, unD], fun _ => ⟨i + 1, hlt, by omega, le_mk (by simp [go_sem]) ?_⟩⟩
   simp only [leB, lookB_cons, if_true, inB, true_and, and_true]
   exact rowsAt_inC (by simp [zRedex, inC])
  ·have : i = xs.length := by omega
   subst this
   have hv := rowsAt_view (ec := GRedex.enc) (z := zRedex) (Nat.le_refl xs.length)
   simp -implicitDefEqProofs (disch := omega) only [go_sem, hlen, hv, Nat.lt_irrefl]
   exact rowsAt_isV (Nat.le_refl _)
theorem eqRedexS_sat (xs : List GRedex) (hw : wfL GRedex.wf xs) (ys : List GRedex) : Sat Tryz.prog 31 [slV (xs.map GRedex.enc), slV (ys.map GRedex.enc)] (boolV (eqL GRedex.eqb xs ys)) := by
 have hl := hw.1
 simp only [maxLen] at hl
 refine sat_of_code tbOk mixed Tryz.func31 rfl rfl rfl (by decide +kernel) (by decide +kernel) (Nat.le_of_ble_eq_true rfl) ?_
 simp -implicitDefEqProofs (disch := omega) only [go_sem]
 refine ⟨fun h4 => ?_, fun h4 => ?_⟩
 ·rw [eqL_len GRedex.eqb xs ys (by omega)]
 ·have hll : xs.length = ys.length := by simp at h4; omega
  refine loopA_rule (ι := Nat) (fun i => mk 27 [(0, slV (xs.map GRedex.enc)), (1, slV (ys.map GRedex.enc)), (5, intV i)] [])
   (fun i => i ≤ xs.length ∧ eqL GRedex.eqb (xs.drop i) (ys.drop i) = eqL GRedex.eqb xs ys) (fun i => xs.length - i) 0 ⟨Nat.zero_le _, by simp⟩ ?_ tbOk mixed (by decide +kernel) ?_
  ·exact le_mk (by simp [go_sem]) (by simp [go_sem])
  ·rintro i ⟨hi, he⟩
   rcases Nat.lt_or_ge i xs.length with hlt | hge
   ·have hlt' : i < ys.length := by omega
    have hg := map_getD (ec := GRedex.enc) hlt
    have hg' := map_getD (ec := GRedex.enc) hlt'
    rw [eqL_drop GRedex.eqb xs ys i hlt hlt'] at he
    have hx := hw.2 _ (List.getElem_mem hlt)
    generalize xs[i] = x at hg he hx
    generalize ys[i] = y at hg' he
    simp -implicitDefEqProofs (disch := omega) only [go_sem, hg, hg', hlt, hlt']
    refine CallK.mk (eqRedex_sat x hx y) ?_
    simp -implicitDefEqProofs (disch := omega) only [go_sem]
    refine ⟨fun h => ?_, fun h => ⟨i + 1, ⟨hlt, ?_⟩, by omega, le_mk (by simp [go_sem]) (by simp [go_sem])⟩⟩
    ·rw [h] at he; simpa using he
    ·rw [h] at he; simpa using he
   ·have e1 : xs.drop i = [] := List.drop_of_length_le hge
    have e2 : ys.drop i = [] := List.drop_of_length_le (by omega)
    rw [e1, e2] at he
    simp -implicitDefEqProofs (disch := omega) only [go_sem, Nat.not_lt.2 hge]
    rw [← he]; rfl
theorem GRedex.csz (x : GRedex) : cszCells x.enc = x.size := by simp only [GRedex.enc, GRedex.size, cszCells_append, Nat.add_assoc, cszE_I, cszL_of cszE_I]
theorem GRedex.nar (x : GRedex) : narCells x.enc := (narCells_append _ _ (narE_I x.ru) (narL_of (fun y => ⟨by simp [encI], narE_I y⟩) x.ps))
theorem toRedexF_sat (x : GRedex) (hs : x.size < 1048577) : SatF Tryz.prog 75 [aggV x.enc] (aggV x.enc) := by
 obtain ⟨xru, xps⟩ := x
 simp only [GRedex.size, szI, szS, szB] at hs
 refine satF_of_code [_] rfl (fun _ h => by cases h) tbOk mixed Tryz.func75 rfl rfl rfl (by decide +kernel) (by decide +kernel) (Nat.le_of_ble_eq_true rfl) ?_
 simp -implicitDefEqProofs (disch := omega) only [go_sem, GRedex.enc, Tm.enc, encB, encI, encL, encS, List.cons_append, List.nil_append, List.append_nil]
 refine CallK.own (toIntSF_sat xps (by omega)) rfl ?_
 simp -implicitDefEqProofs (disch := omega) only [go_sem, GRedex.enc, Tm.enc, encB, encI, encL, encS, List.cons_append, List.nil_append, List.append_nil]
theorem toRedexSF_sat (xs : List GRedex) (hs : szL GRedex.size xs < 1048577) : SatF Tryz.prog 28 [slV (xs.map GRedex.enc)] (slV (xs.map GRedex.enc)) := by
 have hl := len_szL GRedex.size xs
 obtain ⟨rows, hrows⟩ : ∃ rows, rows = xs.map GRedex.enc := ⟨_, rfl⟩
 have lr : rows.length = xs.length := by rw [hrows]; simp
 rw [← hrows]
 refine satF_of_code [slV rows] rfl (fun _ h => by cases h) tbOk mixed Tryz.func28 rfl rfl rfl (by decide +kernel) (by decide +kernel) (Nat.le_of_ble_eq_true rfl) ?_
 simp -implicitDefEqProofs (disch := omega) only [go_sem, lr]
 refine ⟨⟨by omega, by omega⟩, fun _ => ?_⟩
 obtain ⟨Z, hZ⟩ : ∃ Z, Z = List.replicate xs.length zRedex := ⟨_, rfl⟩
 obtain ⟨Fr, hFr⟩ : ∃ Fr, Fr = rows.map fun q => q.map dC := ⟨_, rfl⟩
 have lZ : Z.length = xs.length := by rw [hZ]; simp
 have lF : Fr.length = Z.length := by rw [hFr, lZ]; simp [lr]
 have iF : ∀ lb r, r ∈ Fr → ∀ a, a ∈ r → inC lb a := fun lb => by rw [hFr]; exact drows_in lb
 have iZ : ∀ lb r, r ∈ Z → ∀ a, a ∈ r → inC lb a := fun lb => by rw [hZ]; exact rep_in (by simp [zRedex, inC])
 rw [← hZ]
 refine loopA_rule (ι := Nat) (fun i => mk 23 [(0, slV rows), (3, .one (.own 7 xs.length)), (4, intV i)] [(7, .arr 120 2 (turnR Fr Z i) false)]) (fun i => i ≤ xs.length) (fun i => xs.length - i) 0 (Nat.zero_le _) ?_ tbOk mixed (by decide +kernel) ?_
 ·exact le_mk (by simp [go_sem]) (by simp only [leB, lookB_cons, if_true, inB, turnR_zero, true_and, and_true]; exact iZ _)
 ·intro i hi
  have hlen := turnR_len (i := i) lF (by omega)
  rcases Nat.lt_or_ge i xs.length with hlt | hge
  ·have hi' : i < Z.length := by omega
   have hg : rows.getD i [] = GRedex.enc xs[i] := by rw [hrows]; exact map_getD hlt
   have eZ : Z[i] = zRedex := by simp [hZ]
   have eF : Fr[i]'(by omega) = (GRedex.enc xs[i]).map dC := by simp [hFr, hrows]
   have hm := szL_mem GRedex.size xs _ (List.getElem_mem hlt)
   generalize xs[i] = x at hg eF hm
   have hto := toRedexF_sat x (by omega)
   obtain ⟨xru, xps⟩ := x
   have hfin := turnS_turnR lF hi'
   rw [eF] at hfin
   have sl := fun r => turnS_len lF hi' r
   have sg := fun r => turnS_get lF hi' r
   rw [turnR_eq lF hi' eZ]
   simp -implicitDefEqProofs (disch := omega) only [go_sem, hg, hlt, lr, lZ, sl, sg, turnS_set, GRedex.enc, Tm.enc, encB, encI, encL, encS, List.cons_append, List.nil_append, List.append_nil, List.forall_mem_cons, List.not_mem_nil]
   refine CallK.own hto rfl ?_
   simp -implicitDefEqProofs (disch := omega) only [go_sem, hg, hlt, lr, lZ, sl, sg, turnS_set, GRedex.enc, Tm.enc, encB, encI, encL, encS, List.cons_append, List.nil_append, List.append_nil, List.forall_mem_cons, List.not_mem_nil]
   refine ⟨i + 1, hlt, by omega, ((wk_moveS (l := 7) (c := 1) lF hi' rfl rfl rfl rfl).trans (le_mk (by simp [go_sem]) ?_))⟩
   simp only [leB, lookB_cons, if_true, inB, true_and, and_true]
   exact ⟨by rw [← hfin] <;> rfl, turnR_in (iF _) (iZ _)⟩
  ·have : i = xs.length := by omega
   subst this
   simp -implicitDefEqProofs (disch := omega) only [go_sem, hlen, lZ, lr, Nat.lt_irrefl]
   rw [turnR_end lF lZ.symm, hFr]
   exact ⟨drows_isO, drows_toC⟩
theorem markRedexS_nil (k : Int) : Sat Tryz.prog 33 [slV [], intV k] (intV k) := by
 refine sat_of_code tbOk mixed Tryz.func33 rfl rfl rfl (by decide +kernel) (by decide +kernel) (Nat.le_of_ble_eq_true rfl) ?_
 simp -implicitDefEqProofs (disch := omega) only [go_sem]
 refine loopA_rule (ι := Unit) (fun _ => mk 27 [(0, slV []), (1, intV k), (5, intV 0)] []) (fun _ => True) (fun _ => 0) () trivial ?_ tbOk mixed (by decide +kernel) ?_
 ·exact le_mk (by simp [go_sem]) (by simp [go_sem])
 ·intro _ _
  simp -implicitDefEqProofs (disch := omega) only [go_sem]
  intro h; omega
theorem markRedexS_sat (xs : List GRedex) (hw : wfL GRedex.wf xs) (k : Int) (h0 : 0 ≤ k) (h1 : (mkRows (xs.map GRedex.enc) k).2 ≤ 100000000) : SatM Tryz.prog 33 [.one (.m (.sl (xs.map GRedex.enc))), intV k] [.one (.m (.sl (mkRows (xs.map GRedex.enc) k).1)), intV k] (intV (mkRows (xs.map GRedex.enc) k).2) := by
 have hl := hw.1
 cases hx : xs with
 | nil => simpa [mkRows] using satM_nil (rest := [intV k]) rfl rfl (markRedexS_nil k)
 | cons x0 xs0 =>
  rw [← hx]
  simp only [maxLen] at hl
  obtain ⟨rows, hrows⟩ : ∃ rows, rows = xs.map GRedex.enc := ⟨_, rfl⟩
  have lr : rows.length = xs.length := by rw [hrows]; simp
  rw [← hrows] at h1 ⊢
  refine satM_slice 9001 2 tbOk mixed Tryz.func33 rfl rfl rfl (by decide +kernel) (by decide +kernel) (Nat.le_of_ble_eq_true rfl) rfl rfl (by rw [hrows, hx]; simp) (by rw [hrows]; simp [GRedex.enc_len]) (fun e => ?_)
  simp -implicitDefEqProofs (disch := omega) only [go_sem]
  obtain ⟨G, hG⟩ : ∃ G, G = rows.map fun q => q.map mC := ⟨_, rfl⟩
  obtain ⟨Fr, hFr⟩ : ∃ Fr, Fr = (mkRows rows k).1.map fun q => q.map mC := ⟨_, rfl⟩
  have lG : G.length = rows.length := by rw [hG]; simp
  have lF : Fr.length = G.length := by rw [hFr, lG]; simp [mkRows_len]
  have iF : ∀ lb r, r ∈ Fr → ∀ a, a ∈ r → inC lb a := fun lb => by rw [hFr]; exact mrows_in lb
  have iG : ∀ lb r, r ∈ G → ∀ a, a ∈ r → inC lb a := fun lb => by rw [hG]; exact mrows_in lb
  have nF : noD Fr = true := by rw [hFr]; exact mrows_noD
  have nG : noD G = true := by rw [hG]; exact mrows_noD
  rw [← hG]
  refine loopW_rule (ι := Nat) (fun i => mk 27 [(0, .one (.own 9001 rows.length)), (1, intV (kAt rows k i)), (5, intV i)] [(9001, .arr e 2 (turnR Fr G i) false)] [.one (.own 9001 rows.length)]) (fun i => i ≤ rows.length) (fun i => rows.length - i) 0 (Nat.zero_le _) ?_ tbOk mixed (by decide +kernel) ?_
  ·exact le_mk (by simp [go_sem, kAt_zero]) (by simp only [leB, lookB_cons, if_true, inB, turnR_zero, true_and, and_true]; exact iG _)
  ·intro i hi
   have hlen := turnR_len (i := i) lF (by omega)
   rcases Nat.lt_or_ge i rows.length with hlt | hge
   ·have hi' : i < G.length := by omega
    obtain ⟨hm, eM, eK⟩ := mkRows_at rows k i hlt
    have hb1 := kAt_cnt rows k i
    have hb2 := cntRows_get rows i hlt
    have hb3 := mkRows_cnt rows k
    have hb4 := mkCells_cnt rows[i] (kAt rows k i)
    have ex : rows[i] = GRedex.enc (xs[i]'(by omega)) := by simp [hrows]
    have hw' := hw.2 _ (List.getElem_mem (show i < xs.length by omega))
    generalize xs[i]'(by omega) = x at ex hw'
    obtain ⟨xru, xps⟩ := x
    simp only [GRedex.wf] at hw'
    rw [ex] at eM eK hb2 hb4
    simp only [GRedex.enc, Tm.enc, encB, encI, encL, encS, List.cons_append, List.nil_append, List.append_nil, mkCells, mkC] at eM eK hb2 hb4
    generalize hK : kAt rows k i = K at eM eK hb1 hb4
    have hKn : 0 ≤ K := by omega
    have hc1 := mkRows_cnt (xps.map encI) (K + 1)
    have eG : G[i] = [iC xru, .m (.sl (xps.map encI))] := by simp [hG, ex, GRedex.enc, Tm.enc, encB, encI, encL, encS, List.cons_append, List.nil_append, List.append_nil, mC]
    have eF : Fr[i]'(by omega) = [iC K, .m (.sl (mkRows (xps.map encI) (K + 1)).1)] := by simp [hFr, eM, mC]
    have hfin := turnS_turnR lF hi'
    rw [eF] at hfin
    have sl := fun r => turnS_len lF hi' r
    have sg := fun r => turnS_get lF hi' r
    rw [turnR_eq lF hi' eG]
    refine ⟨_, (wk_takeS (l := 9001) (T := 9101) (c := 1) lF hi' rfl rfl rfl (by exact turnS_noD nF nG rfl)), ?_⟩
    simp -implicitDefEqProofs (disch := omega) only [go_sem, sl, sg, turnS_set, lG, hlt, List.forall_mem_cons, List.not_mem_nil, Tm.args]
    refine CallK.mut (markIntS_sat xps hw'.2 (K + 1) (by omega) (by omega)) ?_
    simp -implicitDefEqProofs (disch := omega) only [go_sem, sl, sg, turnS_set, lG, hlt, List.forall_mem_cons, List.not_mem_nil, Tm.args]
    refine ⟨i + 1, hlt, by omega, ((wk_giveS (l := 9001) (T := 9101) (c := 1) lF hi' rfl rfl rfl).trans (le_mk (by simp [go_sem, eK]) ?_))⟩
    simp only [leB, lookB_cons, if_true, inB, true_and, and_true]
    exact ⟨by rw [← hfin] <;> rfl, turnR_in (iF _) (iG _)⟩
   ·have : i = rows.length := by omega
    subst this
    refine ⟨_, Wk.refl _, ?_⟩
    simp -implicitDefEqProofs (disch := omega) only [go_sem, hlen, lG, Nat.lt_irrefl, kAt_all]
    exact turnedRow_mk rfl (by rw [turnR_end lF lG.symm, hFr]) (by rw [mkRows_len]) rfl
def prQ (g : GRedex) : Int × List Int := (g.ru, g.ps)
theorem prQ_enc (xs : List GRedex) : (xs.map prQ).map encQ = xs.map GRedex.enc := by
 simp [prQ, encQ, GRedex.enc, encI, encL]
theorem replay_ok (d : GDefinition) (hst : strB d.si d.st = true) (hd : ∀ x, x ∈ d.ru → ruleOk x ∧ ruleB d.si x = true) : ∀ (xs : List (Int × List Int)) (t u : Tm), goodT d t → replay d t xs = some u → tmOk u
 | [], t, u, h, hr => by simp only [replay] at hr; cases hr; exact h.1
 | x :: xs, t, u, h, hr => by
  simp only [replay] at hr
  split at hr
  ·rename_i hc
   simp only [Bool.and_eq_true] at hc
   exact replay_ok d hst hd xs _ u (good_do d hd t h x (good_red d hst t h x ((has_mem _ _).1 hc.1)) hc.2) hr
  ·cases hr
theorem replayB_ok (d : GDefinition) (hw : d.wf) (t : Tm) (htw : t.wf) (xs : List (Int × List Int)) : ((replayB d t xs).getD zeroT).size ≤ 40000 ∧ ((replayB d t xs).getD zeroT).wf := by
 cases h : replayB d t xs with
 | none => exact ⟨by simp [zeroT, Tm.size, Tm.sizes], zeroT_wf⟩
 | some u =>
  unfold replayB at h
  split at h
  ·rename_i hc
   obtain ⟨hg, hst⟩ := good_cfg d hw t htw hc
   have hok := cfg_ok d hw t htw hc
   have := replay_ok d hst (fun x hx => ⟨hok.1 x hx, hok.2.2 x hx⟩) xs t u hg h
   exact ⟨by have := this.1; simp only [Option.getD_some]; omega, this.2.2⟩
  ·cases h
theorem lawReplayTrace_sat (d : GDefinition) (t : Tm) (x : List GRedex) (hw_d : GDefinition.wf d) (hw_t : Tm.wf t) (hw_x : (wfL GRedex.wf) x) : Sat Tryz.prog 5 [aggV d.enc, tmV t, slV (x.map GRedex.enc)] (boolV true) := by
 refine sat_of_code tbOk mixed Tryz.func5 rfl rfl rfl (by decide +kernel) (by decide +kernel) (Nat.le_of_ble_eq_true rfl) ?_
 simp -implicitDefEqProofs (disch := omega) only [go_sem]
 refine CallK.mk (szDefinition_sat d hw_d 1048576 (by grind [szR]) (by grind [szR])) ?_
 simp -implicitDefEqProofs (disch := omega) only [go_sem]
 intro hz_d
 have hs_d : d.size < 1048577 := by grind [szR]
 refine CallK.mk (szTerm_sat t hw_t _ (by grind [szR]) (by grind [szR])) ?_
 simp -implicitDefEqProofs (disch := omega) only [go_sem]
 intro hz_t
 have hs_t : t.size < 1048577 := by grind [szR]
 refine CallK.mk (szRedexS_sat x hw_x _ (by grind [szR]) (by grind [szR])) ?_
 simp -implicitDefEqProofs (disch := omega) only [go_sem]
 intro hz_x
 have hs_x : (szL GRedex.size) x < 1048577 := by grind [szR]
 have hsum : d.size + t.size + szL GRedex.size x < 1048577 := by grind [szR]
 have hxl := len_szL GRedex.size x
 have hxp : ∀ y, y ∈ x.map prQ → y.2.length ≤ 100000000 := fun y hy => by
  obtain ⟨z, hz, rfl⟩ := List.mem_map.1 hy
  have := szL_mem GRedex.size x z hz
  simp only [GRedex.size, szL_int, prQ] at this ⊢
  omega
 have hsp := specReplay_sat d hw_d hs_d t hw_t (by omega) (x.map prQ) (by rw [List.length_map]; omega) hxp
 have him := implReplay_sat d hw_d hs_d t hw_t (by omega) (x.map prQ) (by rw [List.length_map]; omega) hxp
 have hok := replayB_ok d hw_d t hw_t (x.map prQ)
 rw [prQ_enc] at hsp him
 obtain ⟨R0, hRe⟩ : ∃ R, R = (replayB d t (x.map prQ)).getD zeroT := ⟨_, rfl⟩
 obtain ⟨b0, hbe⟩ : ∃ b, b = (replayB d t (x.map prQ)).isSome := ⟨_, rfl⟩
 rw [← hRe] at hok hsp him
 rw [← hbe] at hsp him
 have hRw0 := hok.2
 have hRs0 : R0.size ≤ 1500000 := by omega
 clear hok hRe hbe hxp
 refine CallK.mk (toDefinition_sat d hs_d) ?_
 simp -implicitDefEqProofs (disch := omega) only [go_sem, and_self]
 refine CallK.mk (toTerm_sat t hs_t) ?_
 simp -implicitDefEqProofs (disch := omega) only [go_sem, and_self]
 refine CallK.mk (toRedexS_sat x hs_x) ?_
 simp -implicitDefEqProofs (disch := omega) only [go_sem, and_self]
 refine CallK.mk (hsp) ?_
 simp -implicitDefEqProofs (disch := omega) only [go_sem, and_self]
 have toX_d := toDefinition_sat d hs_d
 have toF_d := toDefinitionF_sat d hs_d
 have eqX_d := eqDefinition_sat d hw_d d
 have reX_d := GDefinition.eqb_refl d
 have hq_d : cntTop d.enc ≤ 64 * d.size + 64 := by
  have h1 := cntTop_le d.enc
  have h2 := cntCells_le d.enc (GDefinition.nar d)
  rw [GDefinition.csz] at h2
  have h3 := GDefinition.enc_len d
  omega
 have toX_t := toTerm_sat t hs_t
 have toF_t := toTermF_sat t hs_t
 have eqX_t := eqTerm_sat t hw_t t
 have reX_t := Tm.eqb_refl t
 have hq_t : cntTop t.enc ≤ 64 * t.size + 64 := by
  have h1 := cntTop_le t.enc
  have h2 := cntCells_le t.enc (Tm.nar t)
  rw [Tm.csz] at h2
  have h3 := enc_len t
  omega
 have toX_x := toRedexS_sat x hs_x
 have toF_x := toRedexSF_sat x hs_x
 have eqX_x := eqRedexS_sat x hw_x x
 have reX_x := (eqL_refl GRedex.eqb_refl) x
 have hq_x : cntRows (x.map GRedex.enc) ≤ 64 * (szL GRedex.size) x := by
  have h2 := cntRows_le (x.map GRedex.enc) (narRows_map GRedex.enc (fun y => ⟨by rw [GRedex.enc_len]; omega, GRedex.nar y⟩) x)
  rwa [cszRows_map GRedex.enc GRedex.size GRedex.csz] at h2
 have implF := him
 have eqR_0 := eqTerm_sat R0 hRw0 R0
 have reR_0 := Tm.eqb_refl R0
 have hqR_0 : cntTop R0.enc ≤ 64 * R0.size + 64 := by
  have h1 := cntTop_le R0.enc
  have h2 := cntCells_le R0.enc (Tm.nar R0)
  rw [Tm.csz] at h2
  have h3 := enc_len R0
  omega
 obtain ⟨⟨dsiso, dsiop⟩, dru, dst⟩ := d
 simp only [GDefinition.enc, GSignature.enc, Tm.enc, encB, encI, encL, encS, List.cons_append, List.nil_append, List.append_nil, Tm.args, cntTop] at hq_d
 obtain ⟨tk, tn, ts, tt⟩ := t
 simp only [GDefinition.enc, GSignature.enc, Tm.enc, encB, encI, encL, encS, List.cons_append, List.nil_append, List.append_nil, Tm.args, cntTop] at hq_t
 obtain ⟨R0k, R0n, R0s, R0t⟩ := R0
 simp only [GDefinition.enc, GSignature.enc, Tm.enc, encB, encI, encL, encS, List.cons_append, List.nil_append, List.append_nil, Tm.args, cntTop] at hqR_0
 have hc_d_dsiso := mkRows_cnt (dsiso.map encS) 1
 have hc_d_dsiop := mkRows_cnt (dsiop.map GOp.enc) (mkRows (dsiso.map encS) 1).2
 have hc_d_dru := mkRows_cnt (dru.map GRule.enc) (mkRows (dsiop.map GOp.enc) (mkRows (dsiso.map encS) 1).2).2
 have hc_d_dst := mkRows_cnt (dst.map GStrict.enc) (mkRows (dru.map GRule.enc) (mkRows (dsiop.map GOp.enc) (mkRows (dsiso.map encS) 1).2).2).2
 have hc_t_t := mkRows_cnt (Tm.encs tt) (mkRows (dst.map GStrict.enc) (mkRows (dru.map GRule.enc) (mkRows (dsiop.map GOp.enc) (mkRows (dsiso.map encS) 1).2).2).2).2
 have hc_x_x := mkRows_cnt (x.map GRedex.enc) (mkRows (Tm.encs tt) (mkRows (dst.map GStrict.enc) (mkRows (dru.map GRule.enc) (mkRows (dsiop.map GOp.enc) (mkRows (dsiso.map encS) 1).2).2).2).2).2
 have hcR_0_R0 := mkRows_cnt (Tm.encs R0t) 1
 refine CallK.own toF_d rfl ?_
 simp -implicitDefEqProofs (disch := omega) only [go_sem, GDefinition.enc, GSignature.enc, Tm.enc, encB, encI, encL, encS, List.cons_append, List.nil_append, List.append_nil, Tm.args]
 refine CallK.own toF_t rfl ?_
 simp -implicitDefEqProofs (disch := omega) only [go_sem, GDefinition.enc, GSignature.enc, Tm.enc, encB, encI, encL, encS, List.cons_append, List.nil_append, List.append_nil, Tm.args]
 refine CallK.own toF_x rfl ?_
 simp -implicitDefEqProofs (disch := omega) only [go_sem, GDefinition.enc, GSignature.enc, Tm.enc, encB, encI, encL, encS, List.cons_append, List.nil_append, List.append_nil, Tm.args]
 refine CallK.own implF rfl ?_
 simp -implicitDefEqProofs (disch := omega) only [go_sem, GDefinition.enc, GSignature.enc, Tm.enc, encB, encI, encL, encS, List.cons_append, List.nil_append, List.append_nil, Tm.args]
 refine CallK.bor eqR_0 rfl ?_
 simp -implicitDefEqProofs (disch := omega) only [go_sem, GDefinition.enc, GSignature.enc, Tm.enc, encB, encI, encL, encS, List.cons_append, List.nil_append, List.append_nil, Tm.args, reR_0]
 refine CallK.mk toX_d ?_
 simp -implicitDefEqProofs (disch := omega) only [go_sem, GDefinition.enc, GSignature.enc, Tm.enc, encB, encI, encL, encS, List.cons_append, List.nil_append, List.append_nil, Tm.args]
 refine CallK.bor eqX_d rfl ?_
 simp -implicitDefEqProofs (disch := omega) only [go_sem, GDefinition.enc, GSignature.enc, Tm.enc, encB, encI, encL, encS, List.cons_append, List.nil_append, List.append_nil, Tm.args, reX_d]
 refine CallK.mk toX_t ?_
 simp -implicitDefEqProofs (disch := omega) only [go_sem, GDefinition.enc, GSignature.enc, Tm.enc, encB, encI, encL, encS, List.cons_append, List.nil_append, List.append_nil, Tm.args]
 refine CallK.bor eqX_t rfl ?_
 simp -implicitDefEqProofs (disch := omega) only [go_sem, GDefinition.enc, GSignature.enc, Tm.enc, encB, encI, encL, encS, List.cons_append, List.nil_append, List.append_nil, Tm.args, reX_t]
 refine CallK.mk toX_x ?_
 simp -implicitDefEqProofs (disch := omega) only [go_sem, GDefinition.enc, GSignature.enc, Tm.enc, encB, encI, encL, encS, List.cons_append, List.nil_append, List.append_nil, Tm.args]
 refine CallK.bor eqX_x rfl ?_
 simp -implicitDefEqProofs (disch := omega) only [go_sem, GDefinition.enc, GSignature.enc, Tm.enc, encB, encI, encL, encS, List.cons_append, List.nil_append, List.append_nil, Tm.args, reX_x]
 refine CallK.mut (markDefinition_sat dsiso dsiop dru dst hw_d 1 (by omega) (by omega)) ?_
 simp -implicitDefEqProofs (disch := omega) only [go_sem, GDefinition.enc, GSignature.enc, Tm.enc, encB, encI, encL, encS, List.cons_append, List.nil_append, List.append_nil, Tm.args]
 refine CallK.mut (markTerm_sat tk tn ts tt hw_t (mkRows (dst.map GStrict.enc) (mkRows (dru.map GRule.enc) (mkRows (dsiop.map GOp.enc) (mkRows (dsiso.map encS) 1).2).2).2).2 (by omega) (by omega)) ?_
 simp -implicitDefEqProofs (disch := omega) only [go_sem, GDefinition.enc, GSignature.enc, Tm.enc, encB, encI, encL, encS, List.cons_append, List.nil_append, List.append_nil, Tm.args]
 refine CallK.mut (markRedexS_sat x hw_x (mkRows (Tm.encs tt) (mkRows (dst.map GStrict.enc) (mkRows (dru.map GRule.enc) (mkRows (dsiop.map GOp.enc) (mkRows (dsiso.map encS) 1).2).2).2).2).2 (by omega) (by omega)) ?_
 simp -implicitDefEqProofs (disch := omega) only [go_sem, GDefinition.enc, GSignature.enc, Tm.enc, encB, encI, encL, encS, List.cons_append, List.nil_append, List.append_nil, Tm.args]
 refine ⟨fun _ => ?_, fun h => by omega⟩
 refine CallK.bor eqR_0 rfl ?_
 simp -implicitDefEqProofs (disch := omega) only [go_sem, GDefinition.enc, GSignature.enc, Tm.enc, encB, encI, encL, encS, List.cons_append, List.nil_append, List.append_nil, Tm.args, reR_0]
 refine CallK.mut (markTerm_sat R0k R0n R0s R0t hRw0 1 (by omega) (by omega)) ?_
 simp -implicitDefEqProofs (disch := omega) only [go_sem, GDefinition.enc, GSignature.enc, Tm.enc, encB, encI, encL, encS, List.cons_append, List.nil_append, List.append_nil, Tm.args]
 refine CallK.bor (heldTerm_sat R0k R0n R0s R0t hRw0 1 (by omega) (by omega)) rfl ?_
 simp -implicitDefEqProofs (disch := omega) only [go_sem, GDefinition.enc, GSignature.enc, Tm.enc, encB, encI, encL, encS, List.cons_append, List.nil_append, List.append_nil, Tm.args]
 refine ⟨fun h => by omega, fun _ => ?_⟩
 refine CallK.mk toX_d ?_
 simp -implicitDefEqProofs (disch := omega) only [go_sem, GDefinition.enc, GSignature.enc, Tm.enc, encB, encI, encL, encS, List.cons_append, List.nil_append, List.append_nil, Tm.args]
 refine CallK.mk toX_t ?_
 simp -implicitDefEqProofs (disch := omega) only [go_sem, GDefinition.enc, GSignature.enc, Tm.enc, encB, encI, encL, encS, List.cons_append, List.nil_append, List.append_nil, Tm.args]
 refine CallK.mk toX_x ?_
 simp -implicitDefEqProofs (disch := omega) only [go_sem, GDefinition.enc, GSignature.enc, Tm.enc, encB, encI, encL, encS, List.cons_append, List.nil_append, List.append_nil, Tm.args]
 refine CallK.mk implF.sat ?_
 simp -implicitDefEqProofs (disch := omega) only [go_sem, GDefinition.enc, GSignature.enc, Tm.enc, encB, encI, encL, encS, List.cons_append, List.nil_append, List.append_nil, Tm.args]
 refine CallK.bor eqR_0 rfl ?_
 simp -implicitDefEqProofs (disch := omega) only [go_sem, GDefinition.enc, GSignature.enc, Tm.enc, encB, encI, encL, encS, List.cons_append, List.nil_append, List.append_nil, Tm.args, reR_0]
 refine CallK.bor (heldTerm_sat R0k R0n R0s R0t hRw0 1 (by omega) (by omega)) rfl ?_
 simp -implicitDefEqProofs (disch := omega) only [go_sem, GDefinition.enc, GSignature.enc, Tm.enc, encB, encI, encL, encS, List.cons_append, List.nil_append, List.append_nil, Tm.args]
 first | (intro h; omega) | exact ⟨fun h => by omega, fun _ => trivial⟩
end Go.Ai
