/- Paths in a space: the parts. -/
import Derived.Test.YtkcfegkfbijedaaAiX2
import Derived.Test.YtkcfegkfbijedaaAiG1
import Derived.Test.YtkcfegkfbijedaaAiLoan2
import Derived.Test.YtkcfegkfbijedaaAiRow2
namespace Go.Ai
set_option linter.unusedVariables false
set_option linter.unusedSimpArgs false
open Go.Proofs
set_option maxRecDepth 100000

theorem isTo_sat (m : GMove) (to : Int) : Sat Try.prog 19 [aggV m.enc, .one (.ip [.v (.int .i64 to)])] (boolV (m.tg == to)) := by
  obtain ⟨fr, tg, ru, ps⟩ := m
  refine sat_of_code tbOk mixed Try.func19 rfl rfl rfl (by decide +kernel) (by decide +kernel) (Nat.le_of_ble_eq_true rfl) ?_
  simp -implicitDefEqProofs (disch := omega) only [go_sem, GMove.enc, GRedex.enc, encI, encL, List.cons_append, List.nil_append]
def idxTo (to : Int) : List GMove → Nat → Int
  | [], _ => -1
  | m :: ms, k => if m.tg == to then (k : Int) else idxTo to ms (k + 1)
theorem indexMove_sat (ms : List GMove) (hl : ms.length < 1000000000) (to : Int) : Sat Try.prog 18 [slV (ms.map GMove.enc), .one (.clo 19 [.ip [.v (.int .i64 to)]])] (intV (idxTo to ms 0)) := by
  obtain ⟨r, hr⟩ : ∃ r, r = idxTo to ms 0 := ⟨_, rfl⟩
  rw [← hr]
  refine sat_of_code tbOk mixed Try.func18 rfl rfl rfl (by decide +kernel) (by decide +kernel) (Nat.le_of_ble_eq_true rfl) ?_
  simp -implicitDefEqProofs (disch := omega) only [go_sem, List.length_map]
  refine loopA_rule (ι := Nat) (fun i => mk 19 [(0, slV (ms.map GMove.enc)), (1, .one (.clo 19 [.ip [.v (.int .i64 to)]])), (7, intV ms.length), (8, intV i)] []) (fun i => i ≤ ms.length ∧ r = idxTo to (ms.drop i) i) (fun i => ms.length - i) 0 ⟨Nat.zero_le _, by simpa using hr⟩ ?_ tbOk mixed (by decide +kernel) ?_
  · exact le_mk (by simp [go_sem]) (by simp [go_sem])
  · rintro i ⟨hi, hr⟩
    rcases Nat.lt_or_ge i ms.length with hlt | hge
    · have hg := map_getD (ec := GMove.enc) hlt
      rw [List.drop_eq_getElem_cons hlt] at hr
      simp only [idxTo] at hr
      have hs := isTo_sat ms[i] to
      generalize ms[i] = m at hg hr hs
      obtain ⟨fr, tg, ru, ps⟩ := m
      simp only [GMove.enc, GRedex.enc, encI, encL, List.cons_append, List.nil_append] at hg hs hr
      simp -implicitDefEqProofs (disch := omega) only [go_sem, hg, hlt, List.length_map]
      refine SelfK.mk hs rfl ?_
      simp -implicitDefEqProofs (disch := omega) only [go_sem]
      refine ⟨fun h => ?_, fun h => ⟨i + 1, ⟨hlt, ?_⟩, by omega, le_mk (by simp [go_sem]) (by simp [go_sem])⟩⟩
      · rw [hr, if_pos (by simpa using h)]
      · rw [hr, if_neg (by simpa using h)]
    · have : i = ms.length := by omega
      subst this
      rw [List.drop_length] at hr
      simp only [idxTo] at hr
      simp -implicitDefEqProofs (disch := omega) only [go_sem, Nat.lt_irrefl, List.length_map]
      exact hr.symm
abbrev rR (l : List GRedex) : List (List AC) := rowsOf GRedex.enc l
def rv {α : Type} (d : α) (xs : List α) (i : Nat) : List α := (List.range xs.length).map fun j => if j < i ∨ xs.length ≤ j + i then xs.getD (xs.length - 1 - j) d else xs.getD j d
section
variable {α : Type} {d : α}
theorem rv_len (xs : List α) (i : Nat) : (rv d xs i).length = xs.length := by simp [rv]
theorem rv_get (xs : List α) (i j : Nat) (h : j < (rv d xs i).length) : (rv d xs i)[j] = if j < i ∨ xs.length ≤ j + i then xs.getD (xs.length - 1 - j) d else xs.getD j d := by simp [rv]
theorem rv_zero (xs : List α) : rv d xs 0 = xs := by
  refine List.ext_getElem (rv_len xs 0) (fun j h1 h2 => ?_)
  rw [rv_get, if_neg (by omega), List.getD_eq_getElem?_getD, List.getElem?_eq_getElem h2]; rfl
theorem rv_end (xs : List α) (i : Nat) (h : xs.length ≤ i + i + 1) : rv d xs i = xs.reverse := by
  refine List.ext_getElem (by rw [rv_len, List.length_reverse]) (fun j h1 h2 => ?_)
  rw [rv_len] at h1
  rw [rv_get, List.getElem_reverse]
  split
  · rw [List.getD_eq_getElem?_getD, List.getElem?_eq_getElem (by omega)]; rfl
  · have e : xs.length - 1 - j = j := by omega
    simp only [e]
    rw [List.getD_eq_getElem?_getD, List.getElem?_eq_getElem h1]; rfl
theorem rv_step (xs : List α) (i : Nat) (h : i + i + 1 < xs.length) : ((rv d xs i).set i (xs.getD (xs.length - 1 - i) d)).set (xs.length - 1 - i) (xs.getD i d) = rv d xs (i + 1) := by
  refine List.ext_getElem (by simp [rv_len]) (fun j h1 h2 => ?_)
  rw [rv_len] at h2
  rw [rv_get, List.getElem_set]
  split
  · subst j; rw [if_pos (by omega)]; congr 1; omega
  · rw [List.getElem_set]
    split
    · subst i; rw [if_pos (by omega)]
    · rw [rv_get]
      by_cases c : j < i ∨ xs.length ≤ j + i
      · rw [if_pos c, if_pos (by omega)]
      · rw [if_neg c, if_neg (by omega)]
end
def zR : GRedex := ⟨0, []⟩
theorem rR_get (xs : List GRedex) (i : Nat) (h : i < xs.length) : (rR xs).getD i [] = [iC xs[i].ru, .c (.sl (xs[i].ps.map encI))] := by
  rw [rowsOf_get h]; simp [GRedex.enc, encI, encL]
theorem rR_set (xs : List GRedex) (i : Nat) (x : GRedex) : (rR xs).set i [iC x.ru, .c (.sl (x.ps.map encI))] = rR (xs.set i x) := by
  simp [rowsOf, GRedex.enc, encI, encL, List.map_set]
theorem reverseR_satP (xs : List GRedex) (hl : xs.length < 1000000000) : SatP Try.prog 20 [] [] (.arr 45 2 (rR xs) false) (.arr 45 2 (rR xs.reverse) false) (.tup []) := by
  refine satP_of_code tbOk mixed Try.func20 rfl rfl rfl (by decide +kernel) (by decide +kernel) (Nat.le_of_ble_eq_true rfl) ⟨rfl, by decide, rowsOf_cl, rowsOf_noD⟩ ⟨rfl, by decide, rowsOf_cl, rowsOf_noD⟩ ⟨rfl, rfl, by simp [rowsOf_len], rfl⟩ ?_
  simp -implicitDefEqProofs (disch := omega) only [go_sem, rowsOf_len]
  refine loopA_rule (ι := Nat) (fun i => mk 28 [(0, .one (.own 9001 xs.length)), (2, intV i), (3, intV (xs.length - 1 - i))] [(9001, .arr 45 2 (rR (rv zR xs i)) false)] [.one (.own 9001 xs.length)]) (fun i => i + i ≤ xs.length) (fun i => xs.length - i) 0 (Nat.zero_le _) ?_ tbOk mixed (by decide +kernel) ?_
  · have e0 := rv_zero (d := zR) xs
    simp only [e0]
    exact le_mk (by simp [go_sem]) (by simp [go_sem])
  · intro i hi
    rcases Nat.lt_or_ge (i + i + 1) xs.length with hlt | hge
    · have e1 : (xs.length : Int) - 1 - i = ((xs.length - 1 - i : Nat) : Int) := by omega
      have hst := rv_step (d := zR) xs i hlt
      have hln := rv_len (d := zR) xs i
      have hq : i < xs.length - 1 - i := by omega
      have hq2 : xs.length - 1 - i < xs.length := by omega
      have hq3 : i < xs.length := by omega
      have hlo : (rR (rv zR xs i)).getD i [] = [iC (xs.getD i zR).ru, .c (.sl ((xs.getD i zR).ps.map encI))] := by
        rw [rR_get _ _ (by omega), rv_get, if_neg (by omega)]
      have hhi : (rR (rv zR xs i)).getD (xs.length - 1 - i) [] = [iC (xs.getD (xs.length - 1 - i) zR).ru, .c (.sl ((xs.getD (xs.length - 1 - i) zR).ps.map encI))] := by
        rw [rR_get _ _ (by omega), rv_get, if_neg (by omega)]
      have hhi2 : (rR ((rv zR xs i).set i (xs.getD (xs.length - 1 - i) zR))).getD (xs.length - 1 - i) [] = [iC (xs.getD (xs.length - 1 - i) zR).ru, .c (.sl ((xs.getD (xs.length - 1 - i) zR).ps.map encI))] := by
        rw [rR_get _ _ (by rw [List.length_set]; omega), List.getElem_set_ne (by omega), rv_get, if_neg (by omega)]
      rw [e1]
      generalize xs.getD i zR = a at *
      generalize xs.getD (xs.length - 1 - i) zR = b at *
      simp -implicitDefEqProofs (disch := omega) only [go_sem, hlo, hhi, rowsOf_len, hln, rR_set, List.length_set, hq, hq2, hq3, List.forall_mem_cons, List.not_mem_nil, hhi2, hst]
      refine ⟨i + 1, by omega, by omega, le_mk ?_ ?_⟩
      · simp [go_sem]; omega
      · simp [go_sem]
    · have hno : ¬ ((i : Int) < xs.length - 1 - i) := by omega
      have hend := rv_end (d := zR) xs i (by omega)
      have hln := rv_len (d := zR) xs i
      simp -implicitDefEqProofs (disch := omega) only [go_sem, rowsOf_len, hln, hno, hend, List.length_reverse]
      simp
def rM (l : List GRedex) : List (List AC) := l.map fun x => [iC x.ru, .m (.sl (x.ps.map encI))]
theorem rM_in (l : List GRedex) (lb : Lk) (e : TypeId) (sz : Nat) (fz : Bool) : inB lb (.arr e sz (rM l) fz) = True := by
  refine eq_true ?_
  intro r hr a ha
  obtain ⟨q, _, rfl⟩ := List.mem_map.1 hr
  simp only [List.mem_cons, List.not_mem_nil, or_false] at ha
  rcases ha with rfl | rfl <;> trivial
theorem rM_len (l : List GRedex) : (rM l).length = l.length := by simp [rM]
attribute [go_sem ↓] rM_in
attribute [go_sem] rM_len
theorem rM_isO (l : List GRedex) : ∀ r, r ∈ rM l → ∀ x, x ∈ r → isO x = true := by
  intro r hr a ha
  obtain ⟨q, _, rfl⟩ := List.mem_map.1 hr
  simp only [List.mem_cons, List.not_mem_nil, or_false] at ha
  rcases ha with rfl | rfl <;> rfl
theorem rM_toC (l : List GRedex) : (rM l).map (fun r => r.map toC) = l.map GRedex.enc := by
  simp [rM, GRedex.enc, encI, encL, toC]
theorem rM_snoc (l : List GRedex) (x : GRedex) : rM l ++ [[iC x.ru, .m (.sl (x.ps.map encI))]] = rM (l ++ [x]) := by simp [rM]
theorem rowsI_isO (xs : List Int) : ∀ r, r ∈ rowsOf encI xs → ∀ x, x ∈ r → isO x = true := by
  intro r hr x hx
  obtain ⟨y, _, rfl⟩ := List.mem_map.1 hr
  simp [encI] at hx
  subst hx; rfl
theorem copyRedexes_sat (xs : List GRedex) (hl : xs.length < 1000000000) (hw : ∀ x, x ∈ xs → x.ps.length < 100000000) : SatF Try.prog 21 [slV (xs.map GRedex.enc)] (slV (xs.map GRedex.enc)) := by
  obtain ⟨r, hr⟩ : ∃ r, r = xs.map GRedex.enc := ⟨_, rfl⟩
  refine satF_of_code [slV (xs.map GRedex.enc)] rfl (fun _ h => by cases h) tbOk mixed Try.func21 rfl rfl rfl (by decide +kernel) (by decide +kernel) (Nat.le_of_ble_eq_true rfl) ?_
  simp -implicitDefEqProofs (disch := omega) only [go_sem, List.length_map]
  refine loopA_rule (ι := Nat) (fun i => mk 23 [(3, .one (.own 9000 i)), (6, slV (xs.map GRedex.enc)), (7, intV xs.length), (8, intV i)] [(9000, .arr 45 2 (rM (xs.take i)) false)]) (fun i => i ≤ xs.length) (fun i => xs.length - i) 0 (Nat.zero_le _) ?_ tbOk mixed (by decide +kernel) ?_
  · refine (wk_nil (t := 3) 9000 45 2 rfl (by decide) rfl (by decide)).trans ?_
    exact le_mk (by simp [go_sem]) (by simp [go_sem, rM])
  · intro i hi
    rcases Nat.lt_or_ge i xs.length with hlt | hge
    · have hg := map_getD (ec := GRedex.enc) hlt
      have hwx := hw _ (List.getElem_mem hlt)
      have htk : xs.take (i + 1) = xs.take i ++ [xs[i]] := by rw [List.take_add_one, List.getElem?_eq_getElem hlt]; rfl
      have hle : (xs.take i).length = i := by rw [List.length_take]; omega
      generalize hx : xs[i] = x at hg hwx htk
      obtain ⟨ru, ps⟩ := x
      simp only [GRedex.enc, encI, encL, List.cons_append, List.nil_append] at hg hwx
      have hcl := cloneInt_sat ps (by omega)
      simp -implicitDefEqProofs (disch := omega) only [go_sem, hg, hlt, List.length_map, hle]
      refine CallK.outN hcl rfl rfl ?_
      simp -implicitDefEqProofs (disch := omega) only [go_sem, hle]
      refine ⟨⟨by simp, by omega, by omega⟩, fun _ => ⟨i + 1, hlt, by omega, ?_⟩⟩
      refine (wk_rowLast (l := 9000) (T := 17) (c := 1) rfl rfl rfl (by simp [rowsOf_len]) rowsOf_noD (rowsI_isO _) (by decide) rowsOf_toC).trans ?_
      simp only [List.set_cons_succ, List.set_cons_zero]
      have e1 : rM (xs.take i) ++ [[iC ru, .m (.sl (ps.map encI))]] = rM (xs.take (i + 1)) := by rw [htk]; exact rM_snoc _ ⟨ru, ps⟩
      rw [e1]
      exact le_mk (by simp [go_sem]) (by simp [go_sem])
    · have : i = xs.length := by omega
      subst this
      simp -implicitDefEqProofs (disch := omega) only [go_sem, Nat.lt_irrefl, List.length_map, List.take_length]
      exact ⟨rM_isO xs, rM_toC xs⟩
end Go.Ai
/- Paths in a space, in the program and in the reference. -/
namespace Go.Ai
set_option linter.unusedVariables false
set_option linter.unusedSimpArgs false
open Go.Proofs
set_option maxRecDepth 100000

/-- The first move to a place. -/
def moveTo (to : Int) : List GMove → Option GMove
  | [] => none
  | m :: ms => if m.tg == to then some m else moveTo to ms
theorem idxTo_none (to : Int) : ∀ (ms : List GMove) (k : Nat), moveTo to ms = none → idxTo to ms k = -1
  | [], _, _ => rfl
  | m :: ms, k, h => by
    simp only [moveTo] at h
    split at h
    · cases h
    · rename_i hc
      simp only [idxTo, hc]
      exact idxTo_none to ms (k + 1) h
theorem idxTo_some (to : Int) : ∀ (ms : List GMove) (k : Nat) (m : GMove), moveTo to ms = some m → ∃ j, idxTo to ms k = ((k + j : Nat) : Int) ∧ ∃ h : j < ms.length, ms[j] = m
  | [], _, _, h => by cases h
  | a :: ms, k, m, h => by
    simp only [moveTo] at h
    split at h
    · rename_i hc
      cases h
      exact ⟨0, by simp [idxTo, hc], by simp, rfl⟩
    · rename_i hc
      obtain ⟨j, h1, h2, h3⟩ := idxTo_some to ms (k + 1) m h
      refine ⟨j + 1, ?_, by simpa using h2, by simpa using h3⟩
      simp only [idxTo, hc]
      rw [if_neg (by simp), h1]
      congr 1; omega
theorem moveTo_tg (to : Int) : ∀ (ms : List GMove) (m : GMove), moveTo to ms = some m → m.tg = to ∧ m ∈ ms
  | [], _, h => by cases h
  | a :: ms, m, h => by
    simp only [moveTo] at h
    split at h
    · rename_i hc; cases h; exact ⟨by simpa using hc, by simp⟩
    · obtain ⟨h1, h2⟩ := moveTo_tg to ms m h
      exact ⟨h1, by simp [h2]⟩
/-- The way back: what is fired on it, the last first. -/
def back (ms : List GMove) : Nat → Int → Option (List GRedex)
  | 0, to => if to ≤ 0 then some [] else none
  | n + 1, to => if to ≤ 0 then some [] else match moveTo to ms with
    | none => none
    | some m => if m.fr < 0 ∨ m.fr ≥ to then none else (back ms n m.fr).map (fun l => m.re :: l)
theorem back_le (ms : List GMove) (n : Nat) (to : Int) (h : to ≤ 0) : back ms n to = some [] := by cases n <;> simp [back, h]
theorem back_step (ms : List GMove) (n : Nat) (to : Int) (h : 0 < to) (m : GMove) (hm : moveTo to ms = some m) (hf : ¬ (m.fr < 0 ∨ m.fr ≥ to)) (hn : to.toNat ≤ n) : back ms n to = (back ms (n - 1) m.fr).map (fun l => m.re :: l) := by
  cases n with
  | zero => omega
  | succ n => simp only [back, if_neg (show ¬ to ≤ 0 by omega), hm, if_neg hf, Nat.add_sub_cancel]
theorem back_none (ms : List GMove) (n : Nat) (to : Int) (h : 0 < to) (hm : ∀ m, moveTo to ms = some m → m.fr < 0 ∨ m.fr ≥ to) : back ms n to = none := by
  cases n with
  | zero => simp only [back, if_neg (show ¬ to ≤ 0 by omega)]
  | succ n =>
    simp only [back, if_neg (show ¬ to ≤ 0 by omega)]
    cases hq : moveTo to ms with
    | none => rfl
    | some m => simp only [if_pos (hm m hq)]
theorem back_fuel (ms : List GMove) : ∀ (n k : Nat) (to : Int), to.toNat ≤ n → to.toNat ≤ k → back ms n to = back ms k to
  | n, k, to, hn, hk => by
    rcases Int.lt_or_le 0 to with h | h
    · cases n with
      | zero => omega
      | succ n =>
        cases k with
        | zero => omega
        | succ k =>
          simp only [back, if_neg (show ¬ to ≤ 0 by omega)]
          cases moveTo to ms with
          | none => rfl
          | some m =>
            simp only
            split
            · rfl
            · rw [back_fuel ms n k m.fr (by omega) (by omega)]
    · rw [back_le _ _ _ h, back_le _ _ _ h]
/-- The path, and whether there is one. -/
def pathB (x : GSpace) (to : Int) : Option (List GRedex) := if 0 ≤ to ∧ to < x.te.length then back x.mo to.toNat to else none
def plus (acc : List GRedex) (q : Option (List GRedex)) : Option (List GRedex) := q.map fun l => (acc ++ l).reverse
def outL (q : Option (List GRedex)) : List GRedex := q.getD []
theorem implPathIn_sat (x : GSpace) (hxl : x.te.length < 1000000000) (hml : x.mo.length < 1000000000) (hw : ∀ m, m ∈ x.mo → m.re.ps.length < 100000000) (to : Int) :
    SatF Try.prog 7 [aggV x.enc, intV to] (.tup [slV ((outL (plus [] (pathB x to))).map GRedex.enc), boolV (plus [] (pathB x to)).isSome]) := by
  obtain ⟨r, hr⟩ : ∃ r, r = plus [] (pathB x to) := ⟨_, rfl⟩
  rw [← hr]
  unfold pathB at hr
  have hde : x.enc = [.sl (x.te.map Tm.enc), .sl (x.mo.map GMove.enc), .v (.bool x.fu)] := rfl
  refine satF_of_code [slV ((outL r).map GRedex.enc), boolV r.isSome] rfl (fun _ h => by cases h; rfl) tbOk mixed Try.func7 rfl rfl rfl (by decide +kernel) (by decide +kernel) (Nat.le_of_ble_eq_true rfl) ?_
  simp -implicitDefEqProofs (disch := omega) only [go_sem, hde, List.length_map]
  have hno : (to < 0 ∨ to ≥ (x.te.length : Int)) → r = none := by
    intro h
    rw [hr, if_neg (by omega)]; rfl
  refine ⟨fun h1 => ⟨fun h2 => ?_, fun h2 => ?_⟩, fun h1 => ?_⟩
  · rw [hno (.inr h2)]; simp [go_sem, outL]
  · rw [if_pos (by omega)] at hr
    clear hno
    refine loopA_rule (ι := Int × List GRedex) (fun q => mk 63 [(2, .one (.ptr 2 0)), (3, .one (.ptr 3 0)), (6, .one (.own 9000 q.2.length))] [(2, .var [.c (.sl (x.te.map Tm.enc)), .c (.sl (x.mo.map GMove.enc)), .c (.v (.bool x.fu))]), (3, .var [iC q.1]), (9000, .arr 45 2 (rR q.2) false)])
      (fun q => 0 ≤ q.1 ∧ q.2.length + q.1.toNat ≤ to.toNat ∧ r = plus q.2 (back x.mo q.1.toNat q.1) ∧ ∀ y, y ∈ q.2 → y.ps.length < 100000000) (fun q => q.1.toNat) (to, []) ⟨by simp only; omega, by simp, hr, fun _ h => by cases h⟩ ?_ tbOk mixed (by decide +kernel) ?_
    · refine (wk_nil (t := 6) 9000 45 2 rfl (by decide) rfl (by decide)).trans ?_
      exact le_mk (by simp [go_sem]) (by simp [go_sem, rowsOf])
    · rintro ⟨t, acc⟩ ⟨ht0, hal, hr, hac⟩
      simp only at ht0 hal hr hac
      have hix := indexMove_sat x.mo hml t
      rcases Int.lt_or_le 0 t with htp | htz
      · cases hm : moveTo t x.mo with
        | none =>
          have hrn : r = none := by
            rw [hr, back_none _ _ _ htp (fun m h => by rw [hm] at h; cases h)]; rfl
          rw [idxTo_none t x.mo 0 hm] at hix
          simp -implicitDefEqProofs (disch := omega) only [go_sem, htp, hde, List.length_map]
          refine CloK.mk hix rfl trivial (by simp [go_sem]) rfl ?_
          simp -implicitDefEqProofs (disch := omega) only [go_sem, hde, List.length_map]
          rw [hrn]; simp [go_sem, outL]
        | some m =>
          obtain ⟨j, e, hj, hm2⟩ := idxTo_some t x.mo 0 m hm
          rw [e, Nat.zero_add] at hix
          have hg := map_getD (ec := GMove.enc) hj
          have hwm := hw _ (List.getElem_mem hj)
          rw [hm2] at hg hwm
          have hst : ¬ (m.fr < 0 ∨ m.fr ≥ t) → r = plus (acc ++ [m.re]) (back x.mo m.fr.toNat m.fr) := by
            intro h
            rw [hr, back_step _ _ _ htp m hm h (Nat.le_refl _), back_fuel x.mo (t.toNat - 1) m.fr.toNat m.fr (by omega) (by omega)]
            cases back x.mo m.fr.toNat m.fr <;> simp [plus]
          have hrn : (m.fr < 0 ∨ m.fr ≥ t) → r = none := by
            intro h
            rw [hr, back_none _ _ _ htp (fun m' h' => by rw [hm] at h'; cases h'; exact h)]; rfl
          have hsn : rowsOf GRedex.enc acc ++ [m.re.enc.map .c] = rR (acc ++ [m.re]) := rowsOf_snoc (ec := GRedex.enc) m.re
          obtain ⟨fr, tg, ru, ps⟩ := m
          simp only [GMove.enc, GRedex.enc, encI, encL, List.cons_append, List.nil_append, List.map_cons, List.map_nil] at hg hst hrn hwm hsn
          simp -implicitDefEqProofs (disch := omega) only [go_sem, htp, hde, List.length_map]
          refine CloK.mk hix rfl trivial (by simp [go_sem]) rfl ?_
          simp -implicitDefEqProofs (disch := omega) only [go_sem, hde, List.length_map, hg, hj]
          refine ⟨fun h3 => ⟨fun h4 => ?_, fun h4 => ⟨⟨by simp, by omega, by omega⟩, fun _ => ⟨(fr, acc ++ [⟨ru, ps⟩]), ⟨by simp only; omega, by simp; omega, hst (by omega), fun y hy => ?_⟩, by simp only; omega, ?_⟩⟩⟩, fun h3 => ?_⟩
          · rw [hrn (.inr h4)]; simp [go_sem, outL]
          · rcases List.mem_append.1 hy with hy | hy
            · exact hac y hy
            · rw [List.mem_singleton.1 hy]; exact hwm
          · rw [hsn]
            exact le_mk (by simp [go_sem]) (by simp [go_sem])
          · rw [hrn (.inl h3)]; simp [go_sem, outL]
      · have htz' : ¬ (t > 0) := by omega
        rw [back_le _ _ _ htz] at hr
        have hrr : r = some acc.reverse := by rw [hr]; simp [plus]
        have hrv := reverseR_satP acc (by omega)
        have hcp := copyRedexes_sat acc.reverse (by simp; omega) (fun y hy => hac y (List.mem_reverse.1 hy))
        simp -implicitDefEqProofs (disch := omega) only [go_sem, htz', hde, List.length_map]
        refine CallK.loan 0 rfl hrv ⟨rfl, ⟨_, _, _, _, rfl, by simp [rowsOf_len]⟩, by simp [othersK]⟩ ?_
        simp -implicitDefEqProofs (disch := omega) only [go_sem, htz', hde, List.length_map, List.length_reverse]
        refine CallK.own hcp rfl ?_
        simp -implicitDefEqProofs (disch := omega) only [go_sem, htz', hde, List.length_map]
        rw [hrr]; simp [go_sem, outL]
  · rw [hno (.inl h1)]; simp [go_sem, outL]
theorem specPathIn_sat (x : GSpace) (hxl : x.te.length < 1000000000) (hml : x.mo.length < 1000000000) (hw : ∀ m, m ∈ x.mo → m.re.ps.length < 100000000) (to : Int) :
    Sat Try.prog 5 [aggV x.enc, intV to] (.tup [slV ((outL (plus [] (pathB x to))).map GRedex.enc), boolV (plus [] (pathB x to)).isSome]) := by
  obtain ⟨r, hr⟩ : ∃ r, r = plus [] (pathB x to) := ⟨_, rfl⟩
  rw [← hr]
  unfold pathB at hr
  have hin := l1In_sat to 0 ((x.te.length : Int) - 1)
  have hde : x.enc = [.sl (x.te.map Tm.enc), .sl (x.mo.map GMove.enc), .v (.bool x.fu)] := rfl
  refine sat_of_codeD [(11, [⟨0, 7, [8], [63, 66]⟩, ⟨1, 7, [60], [63, 66]⟩, ⟨2, 7, [61], [63, 66]⟩])] tbOk mixed Try.func5 rfl rfl rfl (by decide +kernel) (by decide +kernel) (Nat.le_of_ble_eq_true rfl) ?_
  simp -implicitDefEqProofs (disch := omega) only [go_sem, hde, List.length_map]
  refine CallK.mk hin ?_
  simp -implicitDefEqProofs (disch := omega) only [go_sem, hde, List.length_map]
  refine ⟨fun h => ?_, fun h => ?_⟩
  · have : r = none := by
      rw [hr, if_neg (by simp at h; omega)]; rfl
    rw [this]; rfl
  · rw [if_pos (by simp at h; omega)] at hr
    have hto : 0 ≤ to := by simp at h; omega
    have hto2 : to < x.te.length := by simp at h; omega
    refine loopD_rule [(11, [⟨0, 7, [8], [63, 66]⟩, ⟨1, 7, [60], [63, 66]⟩, ⟨2, 7, [61], [63, 66]⟩])] (ι := Int × List GRedex) (fun q => mk 75 [(1, intV q.1), (2, .one (.ptr 2 0)), (6, slV (q.2.reverse.map GRedex.enc))] [(2, .var [.c (.sl (x.te.map Tm.enc)), .c (.sl (x.mo.map GMove.enc)), .c (.v (.bool x.fu))])])
      (fun q => 0 ≤ q.1 ∧ q.2.length + q.1.toNat ≤ to.toNat ∧ r = plus q.2 (back x.mo q.1.toNat q.1)) (fun q => q.1.toNat) (to, []) ⟨by simp only; omega, by simp, hr⟩ ?_ tbOk mixed (by decide +kernel) ?_
    · refine (wk_data (t := 6) (l := 9) rfl rfl rfl (by decide) (rows' := []) rfl).trans ?_
      exact le_mk (by simp [go_sem]) (by simp [go_sem])
    · rintro ⟨t, acc⟩ ⟨ht0, hal, hr⟩
      simp only at ht0 hal hr
      rcases Int.lt_or_le 0 t with htp | htz
      · simp -implicitDefEqProofs (disch := omega) only [go_sem, htp, hde, List.length_map]
        refine loopD_rule [(11, [⟨0, 7, [8], [63, 66]⟩, ⟨1, 7, [60], [63, 66]⟩, ⟨2, 7, [61], [63, 66]⟩])] (ι := Nat) (fun i => mk 75 [(1, intV t), (2, .one (.ptr 2 0)), (6, slV (acc.reverse.map GRedex.enc)), (7, intV i)] [(2, .var [.c (.sl (x.te.map Tm.enc)), .c (.sl (x.mo.map GMove.enc)), .c (.v (.bool x.fu))])])
          (fun i => i ≤ x.mo.length ∧ moveTo t x.mo = moveTo t (x.mo.drop i)) (fun i => x.mo.length - i) 0 ⟨Nat.zero_le _, rfl⟩ ?_ tbOk mixed (by decide +kernel) ?_
        · exact le_mk (by simp [go_sem]) (by simp [go_sem])
        · rintro i ⟨hi, hmv⟩
          rcases Nat.lt_or_ge i x.mo.length with hlt | hge
          · have hg := map_getD (ec := GMove.enc) hlt
            rw [List.drop_eq_getElem_cons hlt] at hmv
            simp only [moveTo] at hmv
            have hwm := hw _ (List.getElem_mem hlt)
            generalize x.mo[i] = m at hg hmv hwm
            obtain ⟨fr, tg, ru, ps⟩ := m
            simp only [GMove.enc, GRedex.enc, encI, encL, List.cons_append, List.nil_append] at hg hmv hwm
            have hfr := l1In_sat fr 0 (t - 1)
            simp -implicitDefEqProofs (disch := omega) only [go_sem, hg, hlt, List.length_map, hde]
            refine ⟨fun h => ⟨i + 1, ⟨hlt, by rw [hmv, if_neg (by simpa using h)]⟩, by omega, le_mk (by simp [go_sem]) (by simp [go_sem])⟩, fun h => ⟨fun h2 => CallK.mk hfr ?_, fun h2 => by omega⟩⟩
            have hm : moveTo t x.mo = some ⟨fr, tg, ru, ps⟩ := by rw [hmv, if_pos (by simpa using h)]
            have hst : ¬ (fr < 0 ∨ fr ≥ t) → r = plus (acc ++ [⟨ru, ps⟩]) (back x.mo fr.toNat fr) := by
              intro h
              rw [hr, back_step _ _ _ htp _ hm h (Nat.le_refl _), back_fuel x.mo (t.toNat - 1) fr.toNat fr (by omega) (by omega)]
              cases back x.mo fr.toNat fr <;> simp [plus]
            have hrn : (fr < 0 ∨ fr ≥ t) → r = none := by
              intro h
              rw [hr, back_none _ _ _ htp (fun m' h' => by rw [hm] at h'; cases h'; exact h)]; rfl
            simp -implicitDefEqProofs (disch := omega) only [go_sem, hg, hlt, List.length_map, hde]
            refine ⟨fun h3 => ?_, fun h3 => ⟨⟨rowsOf_l (fun _ => rfl), by omega, by omega⟩, fun _ => ⟨⟨rowsOf_l GRedex.enc_len, by simp; omega, by simp; omega⟩, fun _ => ⟨(fr, acc ++ [⟨ru, ps⟩]), ⟨?_, ?_, hst ?_⟩, ?_, ?_⟩⟩⟩⟩
            · have : fr < 0 ∨ fr ≥ t := by simp at h3; omega
              rw [hrn this]; rfl
            · simp at h3 ⊢; omega
            · simp at h3 ⊢; omega
            · simp at h3; omega
            · simp at h3 ⊢; omega
            · refine (wk_rowData (l := 69) (T := 63) (i := 0) (c := 1) (y := ps.map encI) rfl (by simp) rfl rfl (by simp [rowsOf_len]) rowsOf_unN (by decide)).trans ?_
              simp only [List.set_cons_zero, List.getD_cons_zero, List.set_cons_succ, List.cons_append, List.nil_append]
              have e1 : ([iC ru, .c (.sl (ps.map encI))] :: rowsOf GRedex.enc acc.reverse) = rowsOf GRedex.enc (⟨ru, ps⟩ :: acc.reverse) := rfl
              rw [e1]
              refine (wk_data (t := 6) (l := 69) (rows' := (⟨ru, ps⟩ :: acc.reverse : List GRedex).map GRedex.enc) rfl rfl (by simp [rowsOf_len]; omega) (by decide) rowsOf_unN).trans ?_
              exact le_mk (by simp [go_sem]) (by simp [go_sem])
          · have : i = x.mo.length := by omega
            subst this
            rw [List.drop_length] at hmv
            simp only [moveTo] at hmv
            have hrn : r = none := by
              rw [hr, back_none _ _ _ htp (fun m h => by rw [hmv] at h; cases h)]; rfl
            simp -implicitDefEqProofs (disch := omega) only [go_sem, Nat.lt_irrefl, List.length_map, hde]
            rw [hrn]; rfl
      · have htz' : ¬ (t > 0) := by omega
        rw [back_le _ _ _ htz] at hr
        have hrr : r = some acc.reverse := by rw [hr]; simp [plus]
        simp -implicitDefEqProofs (disch := omega) only [go_sem, htz', hde, List.length_map]
        rw [hrr]; rfl
end Go.Ai
/- The law on PathIn. Written by mk35.py. -/
namespace Go.Ai
set_option linter.unusedVariables false
set_option linter.unusedSimpArgs false
open Go.Proofs Go.RowKit
set_option maxRecDepth 100000

theorem eqRedexS_sat (xs : List GRedex) (hw : wfL GRedex.wf xs) (ys : List GRedex) : Sat Try.prog 8 [slV (xs.map GRedex.enc), slV (ys.map GRedex.enc)] (boolV (eqL GRedex.eqb xs ys)) := by
  have hl := hw.1
  simp only [maxLen] at hl
  refine sat_of_code tbOk mixed Try.func8 rfl rfl rfl (by decide +kernel) (by decide +kernel) (Nat.le_of_ble_eq_true rfl) ?_
  simp -implicitDefEqProofs (disch := omega) only [go_sem]
  refine ⟨fun h4 => ?_, fun h4 => ?_⟩
  · rw [eqL_len GRedex.eqb xs ys (by omega)]
  · have hll : xs.length = ys.length := by simp at h4; omega
    refine loopA_rule (ι := Nat) (fun i => mk 27 [(0, slV (xs.map GRedex.enc)), (1, slV (ys.map GRedex.enc)), (5, intV i)] [])
      (fun i => i ≤ xs.length ∧ eqL GRedex.eqb (xs.drop i) (ys.drop i) = eqL GRedex.eqb xs ys) (fun i => xs.length - i) 0 ⟨Nat.zero_le _, by simp⟩ ?_ tbOk mixed (by decide +kernel) ?_
    · exact le_mk (by simp [go_sem]) (by simp [go_sem])
    · rintro i ⟨hi, he⟩
      rcases Nat.lt_or_ge i xs.length with hlt | hge
      · have hlt' : i < ys.length := by omega
        have hg := map_getD (ec := GRedex.enc) hlt
        have hg' := map_getD (ec := GRedex.enc) hlt'
        rw [eqL_drop GRedex.eqb xs ys i hlt hlt'] at he
        have hx := hw.2 _ (List.getElem_mem hlt)
        generalize xs[i] = x at hg he hx
        generalize ys[i] = y at hg' he
        simp -implicitDefEqProofs (disch := omega) only [go_sem, hg, hg', hlt, hlt']
        refine CallK.mk (eqRedex_sat x hx y) ?_
        simp -implicitDefEqProofs (disch := omega) only [go_sem]
        refine ⟨fun h => ?_, fun h => ⟨i + 1, ⟨hlt, ?_⟩, by omega, le_mk (by simp [go_sem]) (by simp [go_sem])⟩⟩
        · rw [h] at he; simpa using he
        · rw [h] at he; simpa using he
      · have e1 : xs.drop i = [] := List.drop_of_length_le hge
        have e2 : ys.drop i = [] := List.drop_of_length_le (by omega)
        rw [e1, e2] at he
        simp -implicitDefEqProofs (disch := omega) only [go_sem, Nat.not_lt.2 hge]
        rw [← he]; rfl

theorem markRedexS_nil (k : Int) : Sat Try.prog 11 [slV [], intV k] (intV k) := by
  refine sat_of_code tbOk mixed Try.func11 rfl rfl rfl (by decide +kernel) (by decide +kernel) (Nat.le_of_ble_eq_true rfl) ?_
  simp -implicitDefEqProofs (disch := omega) only [go_sem]
  refine loopA_rule (ι := Unit) (fun _ => mk 27 [(0, slV []), (1, intV k), (5, intV 0)] []) (fun _ => True) (fun _ => 0) () trivial ?_ tbOk mixed (by decide +kernel) ?_
  · exact le_mk (by simp [go_sem]) (by simp [go_sem])
  · intro _ _
    simp -implicitDefEqProofs (disch := omega) only [go_sem]
    intro h; omega
theorem markRedexS_sat (xs : List GRedex) (hw : wfL GRedex.wf xs) (k : Int) (h0 : 0 ≤ k) (h1 : (mkRows (xs.map GRedex.enc) k).2 ≤ 100000000) : SatM Try.prog 11 [.one (.m (.sl (xs.map GRedex.enc))), intV k] [.one (.m (.sl (mkRows (xs.map GRedex.enc) k).1)), intV k] (intV (mkRows (xs.map GRedex.enc) k).2) := by
  have hl := hw.1
  cases hx : xs with
  | nil => simpa [mkRows] using satM_nil (rest := [intV k]) rfl rfl (markRedexS_nil k)
  | cons x0 xs0 =>
    rw [← hx]
    simp only [maxLen] at hl
    obtain ⟨rows, hrows⟩ : ∃ rows, rows = xs.map GRedex.enc := ⟨_, rfl⟩
    have lr : rows.length = xs.length := by rw [hrows]; simp
    rw [← hrows] at h1 ⊢
    refine satM_slice 9001 2 tbOk mixed Try.func11 rfl rfl rfl (by decide +kernel) (by decide +kernel) (Nat.le_of_ble_eq_true rfl) rfl rfl (by rw [hrows, hx]; simp) (by rw [hrows]; simp [GRedex.enc_len]) (fun e => ?_)
    simp -implicitDefEqProofs (disch := omega) only [go_sem]
    obtain ⟨G, hG⟩ : ∃ G, G = rows.map fun q => q.map mC := ⟨_, rfl⟩
    obtain ⟨Fr, hFr⟩ : ∃ Fr, Fr = (mkRows rows k).1.map fun q => q.map mC := ⟨_, rfl⟩
    have lG : G.length = rows.length := by rw [hG]; simp
    have lF : Fr.length = G.length := by rw [hFr, lG]; simp [mkRows_len]
    have iF : ∀ lb r, r ∈ Fr → ∀ a, a ∈ r → inC lb a := fun lb => by rw [hFr]; exact mrows_in lb
    have iG : ∀ lb r, r ∈ G → ∀ a, a ∈ r → inC lb a := fun lb => by rw [hG]; exact mrows_in lb
    have nF : noD Fr = true := by rw [hFr]; exact mrows_noD
    have nG : noD G = true := by rw [hG]; exact mrows_noD
    rw [← hG]
    refine loopW_rule (ι := Nat) (fun i => mk 27 [(0, .one (.own 9001 rows.length)), (1, intV (kAt rows k i)), (5, intV i)] [(9001, .arr e 2 (turnR Fr G i) false)] [.one (.own 9001 rows.length)]) (fun i => i ≤ rows.length) (fun i => rows.length - i) 0 (Nat.zero_le _) ?_ tbOk mixed (by decide +kernel) ?_
    · exact le_mk (by simp [go_sem, kAt_zero]) (by simp only [leB, lookB_cons, if_true, inB, turnR_zero, true_and, and_true]; exact iG _)
    · intro i hi
      have hlen := turnR_len (i := i) lF (by omega)
      rcases Nat.lt_or_ge i rows.length with hlt | hge
      · have hi' : i < G.length := by omega
        obtain ⟨hm, eM, eK⟩ := mkRows_at rows k i hlt
        have hb1 := kAt_cnt rows k i
        have hb2 := cntRows_get rows i hlt
        have hb3 := mkRows_cnt rows k
        have hb4 := mkCells_cnt rows[i] (kAt rows k i)
        have ex : rows[i] = GRedex.enc (xs[i]'(by omega)) := by simp [hrows]
        have hw' := hw.2 _ (List.getElem_mem (show i < xs.length by omega))
        generalize xs[i]'(by omega) = x at ex hw'
        obtain ⟨xru, xps⟩ := x
        simp only [GRedex.wf] at hw'
        rw [ex] at eM eK hb2 hb4
        simp only [GRedex.enc, Tm.enc, encB, encI, encL, encS, List.cons_append, List.nil_append, List.append_nil, mkCells, mkC] at eM eK hb2 hb4
        generalize hK : kAt rows k i = K at eM eK hb1 hb4
        have hKn : 0 ≤ K := by omega
        have hc1 := mkRows_cnt (xps.map encI) (K + 1)
        have eG : G[i] = [iC xru, .m (.sl (xps.map encI))] := by simp [hG, ex, GRedex.enc, Tm.enc, encB, encI, encL, encS, List.cons_append, List.nil_append, List.append_nil, mC]
        have eF : Fr[i]'(by omega) = [iC K, .m (.sl (mkRows (xps.map encI) (K + 1)).1)] := by simp [hFr, eM, mC]
        have hfin := turnS_turnR lF hi'
        rw [eF] at hfin
        have sl := fun r => turnS_len lF hi' r
        have sg := fun r => turnS_get lF hi' r
        rw [turnR_eq lF hi' eG]
        refine ⟨_, (wk_takeS (l := 9001) (T := 9101) (c := 1) lF hi' rfl rfl rfl (by exact turnS_noD nF nG rfl)), ?_⟩
        simp -implicitDefEqProofs (disch := omega) only [go_sem, sl, sg, turnS_set, lG, hlt, List.forall_mem_cons, List.not_mem_nil, Tm.args]
        refine CallK.mut (markIntS_sat xps hw'.2 (K + 1) (by omega) (by omega)) ?_
        simp -implicitDefEqProofs (disch := omega) only [go_sem, sl, sg, turnS_set, lG, hlt, List.forall_mem_cons, List.not_mem_nil, Tm.args]
        refine ⟨i + 1, hlt, by omega, ((wk_giveS (l := 9001) (T := 9101) (c := 1) lF hi' rfl rfl rfl).trans (le_mk (by simp [go_sem, eK]) ?_))⟩
        simp only [leB, lookB_cons, if_true, inB, true_and, and_true]
        exact ⟨by rw [← hfin] <;> rfl, turnR_in (iF _) (iG _)⟩
      · have : i = rows.length := by omega
        subst this
        refine ⟨_, Wk.refl _, ?_⟩
        simp -implicitDefEqProofs (disch := omega) only [go_sem, hlen, lG, Nat.lt_irrefl, kAt_all]
        exact turnedRow_mk rfl (by rw [turnR_end lF lG.symm, hFr]) (by rw [mkRows_len]) rfl

theorem heldRedexS_sat (xs : List GRedex) (hw : wfL GRedex.wf xs) (k : Int) (h0 : 0 ≤ k) (h1 : (mkRows (xs.map GRedex.enc) k).2 ≤ 100000000) : Sat Try.prog 12 [slV (mkRows (xs.map GRedex.enc) k).1, intV k] (intV (mkRows (xs.map GRedex.enc) k).2) := by
  have hl := hw.1
  simp only [maxLen] at hl
  obtain ⟨rows, hrows⟩ : ∃ rows, rows = xs.map GRedex.enc := ⟨_, rfl⟩
  have lr : rows.length = xs.length := by rw [hrows]; simp
  rw [← hrows] at h1 ⊢
  have lM := mkRows_len rows k
  obtain ⟨M, hM⟩ : ∃ M, M = (mkRows rows k).1 := ⟨_, rfl⟩
  rw [← hM] at lM ⊢
  refine sat_of_code tbOk mixed Try.func12 rfl rfl rfl (by decide +kernel) (by decide +kernel) (Nat.le_of_ble_eq_true rfl) ?_
  simp -implicitDefEqProofs (disch := omega) only [go_sem]
  refine loopA_rule (ι := Nat) (fun i => mk 31 [(0, slV M), (1, intV (kAt rows k i)), (5, intV i)] []) (fun i => i ≤ rows.length) (fun i => rows.length - i) 0 (Nat.zero_le _) ?_ tbOk mixed (by decide +kernel) ?_
  · exact le_mk (by simp [go_sem, kAt_zero]) (by simp [go_sem])
  · intro i hi
    rcases Nat.lt_or_ge i rows.length with hlt | hge
    · obtain ⟨hm, eM, eK⟩ := mkRows_at rows k i hlt
      have hb1 := kAt_cnt rows k i
      have hb2 := cntRows_get rows i hlt
      have hb3 := mkRows_cnt rows k
      have hb4 := mkCells_cnt rows[i] (kAt rows k i)
      have ex : rows[i] = GRedex.enc (xs[i]'(by omega)) := by simp [hrows]
      have hw' := hw.2 _ (List.getElem_mem (show i < xs.length by omega))
      generalize xs[i]'(by omega) = x at ex hw'
      obtain ⟨xru, xps⟩ := x
      simp only [GRedex.wf] at hw'
      rw [ex] at eM eK hb2 hb4
      simp only [GRedex.enc, Tm.enc, encB, encI, encL, encS, List.cons_append, List.nil_append, List.append_nil, mkCells, mkC] at eM eK hb2 hb4
      generalize hK : kAt rows k i = K at eM eK hb1 hb4
      have hKn : 0 ≤ K := by omega
      have hc1 := mkRows_cnt (xps.map encI) (K + 1)
      have hg : M.getD i [] = [.v (.int .i64 K), .sl (mkRows (xps.map encI) (K + 1)).1] := by
        rw [hM, List.getD_eq_getElem?_getD, List.getElem?_eq_getElem hm, eM]; rfl
      have hlt2 : i < M.length := by omega
      simp -implicitDefEqProofs (disch := omega) only [go_sem, hg, hlt, lM, hlt2]
      refine CallK.bor (heldIntS_sat xps hw'.2 (K + 1) (by omega) (by omega)) rfl ?_
      simp -implicitDefEqProofs (disch := omega) only [go_sem, hg, hlt, lM, hlt2, Tm.args]
      refine ⟨fun h => by omega, fun _ => ?_⟩
      exact ⟨i + 1, hlt, by omega, le_mk (by simp [go_sem, eK]) (by simp [go_sem])⟩
    · have : i = rows.length := by omega
      subst this
      simp -implicitDefEqProofs (disch := omega) only [go_sem, lM, Nat.lt_irrefl, kAt_all]

theorem moveTo_szL : ∀ (ms : List GMove) (lo to : Int) (m : GMove), lo < to → moveTo to ms = some m → szL GMove.size (ms.filter fun m => decide (m.tg ≤ lo)) + (1 + m.size) ≤ szL GMove.size (ms.filter fun m => decide (m.tg ≤ to))
  | [], _, _, _, _, h => by cases h
  | a :: ms, lo, to, m, hlt, h => by
    simp only [moveTo] at h
    have mono : ∀ (l : List GMove), szL GMove.size (l.filter fun m => decide (m.tg ≤ lo)) ≤ szL GMove.size (l.filter fun m => decide (m.tg ≤ to)) := by
      intro l
      induction l with
      | nil => simp
      | cons b l ih =>
        by_cases h1 : b.tg ≤ lo
        · rw [List.filter_cons_of_pos (by simpa using h1), List.filter_cons_of_pos (by simp; omega)]
          simp only [szL]; omega
        · rw [List.filter_cons_of_neg (by simpa using h1)]
          by_cases h2 : b.tg ≤ to
          · rw [List.filter_cons_of_pos (by simpa using h2)]
            simp only [szL]; omega
          · rw [List.filter_cons_of_neg (by simpa using h2)]; exact ih
    split at h
    · rename_i hc
      cases h
      have hc : a.tg = to := by simpa using hc
      rw [List.filter_cons_of_neg (by simp; omega), List.filter_cons_of_pos (by simp; omega)]
      have := mono ms
      simp only [szL]; omega
    · have ih := moveTo_szL ms lo to m hlt h
      by_cases h1 : a.tg ≤ lo
      · rw [List.filter_cons_of_pos (by simpa using h1), List.filter_cons_of_pos (by simp; omega)]
        simp only [szL]; omega
      · rw [List.filter_cons_of_neg (by simpa using h1)]
        by_cases h2 : a.tg ≤ to
        · rw [List.filter_cons_of_pos (by simpa using h2)]
          simp only [szL]; omega
        · rw [List.filter_cons_of_neg (by simpa using h2)]; exact ih
theorem szL_filter (ms : List GMove) (p : GMove → Bool) : szL GMove.size (ms.filter p) ≤ szL GMove.size ms := by
  induction ms with
  | nil => simp
  | cons a ms ih =>
    rw [List.filter_cons]
    split <;> simp only [szL] <;> omega
theorem back_ok (ms : List GMove) : ∀ (n : Nat) (to : Int) (l : List GRedex), back ms n to = some l → szL GRedex.size l ≤ szL GMove.size (ms.filter fun m => decide (m.tg ≤ to)) ∧ ∀ y, y ∈ l → ∃ m, m ∈ ms ∧ y = m.re
  | 0, to, l, h => by
    simp only [back] at h
    split at h
    · cases h; exact ⟨by simp [szL], fun _ h => by cases h⟩
    · cases h
  | n + 1, to, l, h => by
    simp only [back] at h
    split at h
    · cases h; exact ⟨by simp [szL], fun _ h => by cases h⟩
    · cases hm : moveTo to ms with
      | none => rw [hm] at h; cases h
      | some m =>
        rw [hm] at h
        simp only at h
        split at h
        · cases h
        · cases hb : back ms n m.fr with
          | none => rw [hb] at h; cases h
          | some l' =>
            rw [hb] at h
            cases h
            obtain ⟨h1, h2⟩ := back_ok ms n m.fr l' hb
            have h3 := moveTo_szL ms m.fr to m (by omega) hm
            have h4 : m.re.size ≤ m.size := by simp only [GMove.size]; omega
            refine ⟨by simp only [szL]; omega, fun y hy => ?_⟩
            rcases List.mem_cons.1 hy with rfl | hy
            · exact ⟨m, (moveTo_tg to ms m hm).2, rfl⟩
            · exact h2 y hy
theorem szL_app {α : Type} (f : α → Nat) : ∀ (a b : List α), szL f (a ++ b) = szL f a + szL f b
  | [], b => by simp [szL]
  | x :: a, b => by simp only [List.cons_append, szL, szL_app f a b]; omega
theorem szL_rev {α : Type} (f : α → Nat) : ∀ (a : List α), szL f a.reverse = szL f a
  | [] => rfl
  | x :: a => by simp only [List.reverse_cons, szL_app, szL_rev f a, szL]; omega
theorem path_ok (x : GSpace) (hw : x.wf) (hs : x.size < 1048577) (to : Int) : szL GRedex.size (outL (plus [] (pathB x to))) ≤ 1048577 ∧ wfL GRedex.wf (outL (plus [] (pathB x to))) := by
  have hz : szL GRedex.size (outL none) ≤ 1048577 ∧ wfL GRedex.wf (outL none) := ⟨by simp [outL, szL], ⟨by simp [outL], fun _ h => by simp [outL] at h⟩⟩
  unfold pathB
  split
  · cases hb : back x.mo to.toNat to with
    | none => exact hz
    | some l =>
      obtain ⟨h1, h2⟩ := back_ok x.mo to.toNat to l hb
      have h3 := szL_filter x.mo (fun m => decide (m.tg ≤ to))
      have h4 := len_szL GRedex.size l
      simp only [GSpace.size] at hs
      have e : outL (plus [] (some l)) = l.reverse := by simp [outL, plus]
      rw [e]
      refine ⟨by rw [szL_rev]; omega, by rw [List.length_reverse]; simp only [maxLen]; omega, fun y hy => ?_⟩
      obtain ⟨m, hm, rfl⟩ := h2 y (List.mem_reverse.1 hy)
      exact (hw.2.1.2 m hm).2.2
  · exact hz
theorem lawPathIn_sat (x : GSpace) (to : Int) (hw_x : GSpace.wf x) (hw_to : wfI to) : Sat Try.prog 3 [aggV x.enc, intV to] (boolV true) := by
  refine sat_of_code tbOk mixed Try.func3 rfl rfl rfl (by decide +kernel) (by decide +kernel) (Nat.le_of_ble_eq_true rfl) ?_
  simp -implicitDefEqProofs (disch := omega) only [go_sem]
  refine CallK.mk (szSpace_sat x hw_x 1048576 (by grind [szR]) (by grind [szR])) ?_
  simp -implicitDefEqProofs (disch := omega) only [go_sem]
  intro hz_x
  have hs_x : x.size < 1048577 := by grind [szR]
  have hok := path_ok x hw_x hs_x to
  have hxl := len_szL Tm.size x.te
  have hml := len_szL GMove.size x.mo
  have hs_x' := hs_x
  simp only [GSpace.size] at hs_x'
  have hpl : ∀ m, m ∈ x.mo → m.re.ps.length < 100000000 := fun m hm => by
    have := szL_mem GMove.size x.mo m hm
    simp only [GMove.size, GRedex.size, szL_int] at this
    omega
  have hsp := specPathIn_sat x (by omega) (by omega) hpl to
  have him := implPathIn_sat x (by omega) (by omega) hpl to
  obtain ⟨R0, hRe⟩ : ∃ R, R = outL (plus [] (pathB x to)) := ⟨_, rfl⟩
  obtain ⟨b0, hbe⟩ : ∃ b, b = (plus [] (pathB x to)).isSome := ⟨_, rfl⟩
  rw [← hRe] at hok hsp him
  rw [← hbe] at hsp him
  have hRw0 := hok.2
  have hRs0 : szL GRedex.size R0 ≤ 1500000 := by omega
  clear hok hRe hbe
  refine CallK.mk (toSpace_sat x hs_x) ?_
  simp -implicitDefEqProofs (disch := omega) only [go_sem, and_self]
  refine CallK.mk (hsp) ?_
  simp -implicitDefEqProofs (disch := omega) only [go_sem, and_self]
  have toX_x := toSpace_sat x hs_x
  have toF_x := toSpaceF_sat x hs_x
  have eqX_x := eqSpace_sat x hw_x x
  have reX_x := GSpace.eqb_refl x
  have hq_x : cntTop x.enc ≤ 64 * x.size + 64 := by
    have h1 := cntTop_le x.enc
    have h2 := cntCells_le x.enc (GSpace.nar x)
    rw [GSpace.csz] at h2
    have h3 := GSpace.enc_len x
    omega
  have implF := him
  have eqR_0 := eqRedexS_sat R0 hRw0 R0
  have reR_0 := (eqL_refl GRedex.eqb_refl) R0
  have hqR_0 : cntRows (R0.map GRedex.enc) ≤ 64 * (szL GRedex.size) R0 := by
    have h2 := cntRows_le (R0.map GRedex.enc) (narRows_map GRedex.enc (fun y => ⟨by rw [GRedex.enc_len]; omega, GRedex.nar y⟩) R0)
    rwa [cszRows_map GRedex.enc GRedex.size GRedex.csz] at h2
  obtain ⟨xte, xmo, xfu⟩ := x
  simp only [GSpace.enc, Tm.enc, encB, encI, encL, encS, List.cons_append, List.nil_append, List.append_nil, Tm.args, cntTop] at hq_x
  have hc_x_xte := mkRows_cnt (xte.map Tm.enc) 1
  have hc_x_xmo := mkRows_cnt (xmo.map GMove.enc) (mkRows (xte.map Tm.enc) 1).2
  have hcR_0_R0 := mkRows_cnt (R0.map GRedex.enc) 1
  refine CallK.own toF_x rfl ?_
  simp -implicitDefEqProofs (disch := omega) only [go_sem, GSpace.enc, Tm.enc, encB, encI, encL, encS, List.cons_append, List.nil_append, List.append_nil, Tm.args]
  refine CallK.own implF rfl ?_
  simp -implicitDefEqProofs (disch := omega) only [go_sem, GSpace.enc, Tm.enc, encB, encI, encL, encS, List.cons_append, List.nil_append, List.append_nil, Tm.args]
  refine CallK.bor eqR_0 rfl ?_
  simp -implicitDefEqProofs (disch := omega) only [go_sem, GSpace.enc, Tm.enc, encB, encI, encL, encS, List.cons_append, List.nil_append, List.append_nil, Tm.args, reR_0]
  refine CallK.mk toX_x ?_
  simp -implicitDefEqProofs (disch := omega) only [go_sem, GSpace.enc, Tm.enc, encB, encI, encL, encS, List.cons_append, List.nil_append, List.append_nil, Tm.args]
  refine CallK.bor eqX_x rfl ?_
  simp -implicitDefEqProofs (disch := omega) only [go_sem, GSpace.enc, Tm.enc, encB, encI, encL, encS, List.cons_append, List.nil_append, List.append_nil, Tm.args, reX_x]
  refine CallK.mut (markSpace_sat xte xmo xfu hw_x 1 (by omega) (by omega)) ?_
  simp -implicitDefEqProofs (disch := omega) only [go_sem, GSpace.enc, Tm.enc, encB, encI, encL, encS, List.cons_append, List.nil_append, List.append_nil, Tm.args]
  refine ⟨fun _ => ?_, fun h => by omega⟩
  refine CallK.bor eqR_0 rfl ?_
  simp -implicitDefEqProofs (disch := omega) only [go_sem, GSpace.enc, Tm.enc, encB, encI, encL, encS, List.cons_append, List.nil_append, List.append_nil, Tm.args, reR_0]
  refine CallK.mut (markRedexS_sat R0 hRw0 1 (by omega) (by omega)) ?_
  simp -implicitDefEqProofs (disch := omega) only [go_sem, GSpace.enc, Tm.enc, encB, encI, encL, encS, List.cons_append, List.nil_append, List.append_nil, Tm.args]
  refine CallK.bor (heldRedexS_sat R0 hRw0 1 (by omega) (by omega)) rfl ?_
  simp -implicitDefEqProofs (disch := omega) only [go_sem, GSpace.enc, Tm.enc, encB, encI, encL, encS, List.cons_append, List.nil_append, List.append_nil, Tm.args]
  refine ⟨fun h => by omega, fun _ => ?_⟩
  refine CallK.mk toX_x ?_
  simp -implicitDefEqProofs (disch := omega) only [go_sem, GSpace.enc, Tm.enc, encB, encI, encL, encS, List.cons_append, List.nil_append, List.append_nil, Tm.args]
  refine CallK.mk implF.sat ?_
  simp -implicitDefEqProofs (disch := omega) only [go_sem, GSpace.enc, Tm.enc, encB, encI, encL, encS, List.cons_append, List.nil_append, List.append_nil, Tm.args]
  refine CallK.bor eqR_0 rfl ?_
  simp -implicitDefEqProofs (disch := omega) only [go_sem, GSpace.enc, Tm.enc, encB, encI, encL, encS, List.cons_append, List.nil_append, List.append_nil, Tm.args, reR_0]
  refine CallK.bor (heldRedexS_sat R0 hRw0 1 (by omega) (by omega)) rfl ?_
  simp -implicitDefEqProofs (disch := omega) only [go_sem, GSpace.enc, Tm.enc, encB, encI, encL, encS, List.cons_append, List.nil_append, List.append_nil, Tm.args]
  first | (intro h; omega) | exact ⟨fun h => by omega, fun _ => trivial⟩
end Go.Ai
