/- Paths in a space: the parts. -/
import Derived.Test.YtkcfegkfbijedaaAiX2
import Derived.Test.YtkcfegkfbijedaaAiG1
import Derived.Test.YtkcfegkfbijedaaAiLoan2
import Derived.Test.YtkcfegkfbijedaaAiRow2
namespace Go.Ai
set_option linter.unusedVariables false
set_option linter.unusedSimpArgs false
open Go.Proofs
set_option maxRecDepth 100000

theorem isTo_sat (m : GMove) (to : Int) : Sat Try.prog 19 [aggV m.enc, .one (.ip [.v (.int .i64 to)])] (boolV (m.tg == to)) := by
  obtain ⟨fr, tg, ru, ps⟩ := m
  refine sat_of_code tbOk mixed Try.func19 rfl rfl rfl (by decide +kernel) (by decide +kernel) (Nat.le_of_ble_eq_true rfl) ?_
  simp -implicitDefEqProofs (disch := omega) only [go_sem, GMove.enc, GRedex.enc, encI, encL, List.cons_append, List.nil_append]
def idxTo (to : Int) : List GMove → Nat → Int
  | [], _ => -1
  | m :: ms, k => if m.tg == to then (k : Int) else idxTo to ms (k + 1)
theorem indexMove_sat (ms : List GMove) (hl : ms.length < 1000000000) (to : Int) : Sat Try.prog 18 [slV (ms.map GMove.enc), .one (.clo 19 [.ip [.v (.int .i64 to)]])] (intV (idxTo to ms 0)) := by
  obtain ⟨r, hr⟩ : ∃ r, r = idxTo to ms 0 := ⟨_, rfl⟩
  rw [← hr]
  refine sat_of_code tbOk mixed Try.func18 rfl rfl rfl (by decide +kernel) (by decide +kernel) (Nat.le_of_ble_eq_true rfl) ?_
  simp -implicitDefEqProofs (disch := omega) only [go_sem, List.length_map]
  refine loopA_rule (ι := Nat) (fun i => mk 19 [(0, slV (ms.map GMove.enc)), (1, .one (.clo 19 [.ip [.v (.int .i64 to)]])), (7, intV ms.length), (8, intV i)] []) (fun i => i ≤ ms.length ∧ r = idxTo to (ms.drop i) i) (fun i => ms.length - i) 0 ⟨Nat.zero_le _, by simpa using hr⟩ ?_ tbOk mixed (by decide +kernel) ?_
  · exact le_mk (by simp [go_sem]) (by simp [go_sem])
  · rintro i ⟨hi, hr⟩
    rcases Nat.lt_or_ge i ms.length with hlt | hge
    · have hg := map_getD (ec := GMove.enc) hlt
      rw [List.drop_eq_getElem_cons hlt] at hr
      simp only [idxTo] at hr
      have hs := isTo_sat ms[i] to
      generalize ms[i] = m at hg hr hs
      obtain ⟨fr, tg, ru, ps⟩ := m
      simp only [GMove.enc, GRedex.enc, encI, encL, List.cons_append, List.nil_append] at hg hs hr
      simp -implicitDefEqProofs (disch := omega) only [go_sem, hg, hlt, List.length_map]
      refine SelfK.mk hs rfl ?_
      simp -implicitDefEqProofs (disch := omega) only [go_sem]
      refine ⟨fun h => ?_, fun h => ⟨i + 1, ⟨hlt, ?_⟩, by omega, le_mk (by simp [go_sem]) (by simp [go_sem])⟩⟩
      · rw [hr, if_pos (by simpa using h)]
      · rw [hr, if_neg (by simpa using h)]
    · have : i = ms.length := by omega
      subst this
      rw [List.drop_length] at hr
      simp only [idxTo] at hr
      simp -implicitDefEqProofs (disch := omega) only [go_sem, Nat.lt_irrefl, List.length_map]
      exact hr.symm
abbrev rR (l : List GRedex) : List (List AC) := rowsOf GRedex.enc l
def rv {α : Type} (d : α) (xs : List α) (i : Nat) : List α := (List.range xs.length).map fun j => if j < i ∨ xs.length ≤ j + i then xs.getD (xs.length - 1 - j) d else xs.getD j d
section
variable {α : Type} {d : α}
theorem rv_len (xs : List α) (i : Nat) : (rv d xs i).length = xs.length := by simp [rv]
theorem rv_get (xs : List α) (i j : Nat) (h : j < (rv d xs i).length) : (rv d xs i)[j] = if j < i ∨ xs.length ≤ j + i then xs.getD (xs.length - 1 - j) d else xs.getD j d := by simp [rv]
theorem rv_zero (xs : List α) : rv d xs 0 = xs := by
  refine List.ext_getElem (rv_len xs 0) (fun j h1 h2 => ?_)
  rw [rv_get, if_neg (by omega), List.getD_eq_getElem?_getD, List.getElem?_eq_getElem h2]; rfl
theorem rv_end (xs : List α) (i : Nat) (h : xs.length ≤ i + i + 1) : rv d xs i = xs.reverse := by
  refine List.ext_getElem (by rw [rv_len, List.length_reverse]) (fun j h1 h2 => ?_)
  rw [rv_len] at h1
  rw [rv_get, List.getElem_reverse]
  split
  · rw [List.getD_eq_getElem?_getD, List.getElem?_eq_getElem (by omega)]; rfl
  · have e : xs.length - 1 - j = j := by omega
    simp only [e]
    rw [List.getD_eq_getElem?_getD, List.getElem?_eq_getElem h1]; rfl
theorem rv_step (xs : List α) (i : Nat) (h : i + i + 1 < xs.length) : ((rv d xs i).set i (xs.getD (xs.length - 1 - i) d)).set (xs.length - 1 - i) (xs.getD i d) = rv d xs (i + 1) := by
  refine List.ext_getElem (by simp [rv_len]) (fun j h1 h2 => ?_)
  rw [rv_len] at h2
  rw [rv_get, List.getElem_set]
  split
  · subst j; rw [if_pos (by omega)]; congr 1; omega
  · rw [List.getElem_set]
    split
    · subst i; rw [if_pos (by omega)]
    · rw [rv_get]
      by_cases c : j < i ∨ xs.length ≤ j + i
      · rw [if_pos c, if_pos (by omega)]
      · rw [if_neg c, if_neg (by omega)]
end
def zR : GRedex := ⟨0, []⟩
theorem rR_get (xs : List GRedex) (i : Nat) (h : i < xs.length) : (rR xs).getD i [] = [iC xs[i].ru, .c (.sl (xs[i].ps.map encI))] := by
  rw [rowsOf_get h]; simp [GRedex.enc, encI, encL]
theorem rR_set (xs : List GRedex) (i : Nat) (x : GRedex) : (rR xs).set i [iC x.ru, .c (.sl (x.ps.map encI))] = rR (xs.set i x) := by
  simp [rowsOf, GRedex.enc, encI, encL, List.map_set]
theorem reverseR_satP (xs : List GRedex) (hl : xs.length < 1000000000) : SatP Try.prog 20 [] [] (.arr 45 2 (rR xs) false) (.arr 45 2 (rR xs.reverse) false) (.tup []) := by
  refine satP_of_code tbOk mixed Try.func20 rfl rfl rfl (by decide +kernel) (by decide +kernel) (Nat.le_of_ble_eq_true rfl) ⟨rfl, by decide, rowsOf_cl, rowsOf_noD⟩ ⟨rfl, by decide, rowsOf_cl, rowsOf_noD⟩ ⟨rfl, rfl, by simp [rowsOf_len], rfl⟩ ?_
  simp -implicitDefEqProofs (disch := omega) only [go_sem, rowsOf_len]
  refine loopA_rule (ι := Nat) (fun i => mk 28 [(0, .one (.own 9001 xs.length)), (2, intV i), (3, intV (xs.length - 1 - i))] [(9001, .arr 45 2 (rR (rv zR xs i)) false)] [.one (.own 9001 xs.length)]) (fun i => i + i ≤ xs.length) (fun i => xs.length - i) 0 (Nat.zero_le _) ?_ tbOk mixed (by decide +kernel) ?_
  · have e0 := rv_zero (d := zR) xs
    simp only [e0]
    exact le_mk (by simp [go_sem]) (by simp [go_sem])
  · intro i hi
    rcases Nat.lt_or_ge (i + i + 1) xs.length with hlt | hge
    · have e1 : (xs.length : Int) - 1 - i = ((xs.length - 1 - i : Nat) : Int) := by omega
      have hst := rv_step (d := zR) xs i hlt
      have hln := rv_len (d := zR) xs i
      have hq : i < xs.length - 1 - i := by omega
      have hq2 : xs.length - 1 - i < xs.length := by omega
      have hq3 : i < xs.length := by omega
      have hlo : (rR (rv zR xs i)).getD i [] = [iC (xs.getD i zR).ru, .c (.sl ((xs.getD i zR).ps.map encI))] := by
        rw [rR_get _ _ (by omega), rv_get, if_neg (by omega)]
      have hhi : (rR (rv zR xs i)).getD (xs.length - 1 - i) [] = [iC (xs.getD (xs.length - 1 - i) zR).ru, .c (.sl ((xs.getD (xs.length - 1 - i) zR).ps.map encI))] := by
        rw [rR_get _ _ (by omega), rv_get, if_neg (by omega)]
      have hhi2 : (rR ((rv zR xs i).set i (xs.getD (xs.length - 1 - i) zR))).getD (xs.length - 1 - i) [] = [iC (xs.getD (xs.length - 1 - i) zR).ru, .c (.sl ((xs.getD (xs.length - 1 - i) zR).ps.map encI))] := by
        rw [rR_get _ _ (by rw [List.length_set]; omega), List.getElem_set_ne (by omega), rv_get, if_neg (by omega)]
      rw [e1]
      generalize xs.getD i zR = a at *
      generalize xs.getD (xs.length - 1 - i) zR = b at *
      simp -implicitDefEqProofs (disch := omega) only [go_sem, hlo, hhi, rowsOf_len, hln, rR_set, List.length_set, hq, hq2, hq3, List.forall_mem_cons, List.not_mem_nil, hhi2, hst]
      refine ⟨i + 1, by omega, by omega, le_mk ?_ ?_⟩
      · simp [go_sem]; omega
      · simp [go_sem]
    · have hno : ¬ ((i : Int) < xs.length - 1 - i) := by omega
      have hend := rv_end (d := zR) xs i (by omega)
      have hln := rv_len (d := zR) xs i
      simp -implicitDefEqProofs (disch := omega) only [go_sem, rowsOf_len, hln, hno, hend, List.length_reverse]
      simp
def rM (l : List GRedex) : List (List AC) := l.map fun x => [iC x.ru, .m (.sl (x.ps.map encI))]
theorem rM_in (l : List GRedex) (lb : Lk) (e : TypeId) (sz : Nat) (fz : Bool) : inB lb (.arr e sz (rM l) fz) = True := by
  refine eq_true ?_
  intro r hr a ha
  obtain ⟨q, _, rfl⟩ := List.mem_map.1 hr
  simp only [List.mem_cons, List.not_mem_nil, or_false] at ha
  rcases ha with rfl | rfl <;> trivial
theorem rM_len (l : List GRedex) : (rM l).length = l.length := by simp [rM]
attribute [go_sem ↓] rM_in
attribute [go_sem] rM_len
theorem rM_isO (l : List GRedex) : ∀ r, r ∈ rM l → ∀ x, x ∈ r → isO x = true := by
  intro r hr a ha
  obtain ⟨q, _, rfl⟩ := List.mem_map.1 hr
  simp only [List.mem_cons, List.not_mem_nil, or_false] at ha
  rcases ha with rfl | rfl <;> rfl
theorem rM_toC (l : List GRedex) : (rM l).map (fun r => r.map toC) = l.map GRedex.enc := by
  simp [rM, GRedex.enc, encI, encL, toC]
theorem rM_snoc (l : List GRedex) (x : GRedex) : rM l ++ [[iC x.ru, .m (.sl (x.ps.map encI))]] = rM (l ++ [x]) := by simp [rM]
theorem rowsI_isO (xs : List Int) : ∀ r, r ∈ rowsOf encI xs → ∀ x, x ∈ r → isO x = true := by
  intro r hr x hx
  obtain ⟨y, _, rfl⟩ := List.mem_map.1 hr
  simp [encI] at hx
  subst hx; rfl
theorem copyRedexes_sat (xs : List GRedex) (hl : xs.length < 1000000000) (hw : ∀ x, x ∈ xs → x.ps.length < 100000000) : SatF Try.prog 21 [slV (xs.map GRedex.enc)] (slV (xs.map GRedex.enc)) := by
  obtain ⟨r, hr⟩ : ∃ r, r = xs.map GRedex.enc := ⟨_, rfl⟩
  refine satF_of_code [slV (xs.map GRedex.enc)] rfl (fun _ h => by cases h) tbOk mixed Try.func21 rfl rfl rfl (by decide +kernel) (by decide +kernel) (Nat.le_of_ble_eq_true rfl) ?_
  simp -implicitDefEqProofs (disch := omega) only [go_sem, List.length_map]
  refine loopA_rule (ι := Nat) (fun i => mk 23 [(3, .one (.own 9000 i)), (6, slV (xs.map GRedex.enc)), (7, intV xs.length), (8, intV i)] [(9000, .arr 45 2 (rM (xs.take i)) false)]) (fun i => i ≤ xs.length) (fun i => xs.length - i) 0 (Nat.zero_le _) ?_ tbOk mixed (by decide +kernel) ?_
  · refine (wk_nil (t := 3) 9000 45 2 rfl (by decide) rfl (by decide)).trans ?_
    exact le_mk (by simp [go_sem]) (by simp [go_sem, rM])
  · intro i hi
    rcases Nat.lt_or_ge i xs.length with hlt | hge
    · have hg := map_getD (ec := GRedex.enc) hlt
      have hwx := hw _ (List.getElem_mem hlt)
      have htk : xs.take (i + 1) = xs.take i ++ [xs[i]] := by rw [List.take_add_one, List.getElem?_eq_getElem hlt]; rfl
      have hle : (xs.take i).length = i := by rw [List.length_take]; omega
      generalize hx : xs[i] = x at hg hwx htk
      obtain ⟨ru, ps⟩ := x
      simp only [GRedex.enc, encI, encL, List.cons_append, List.nil_append] at hg hwx
      have hcl := cloneInt_sat ps (by omega)
      simp -implicitDefEqProofs (disch := omega) only [go_sem, hg, hlt, List.length_map, hle]
      refine CallK.outN hcl rfl rfl ?_
      simp -implicitDefEqProofs (disch := omega) only [go_sem, hle]
      refine ⟨⟨by simp, by omega, by omega⟩, fun _ => ⟨i + 1, hlt, by omega, ?_⟩⟩
      refine (wk_rowLast (l := 9000) (T := 17) (c := 1) rfl rfl rfl (by simp [rowsOf_len]) rowsOf_noD (rowsI_isO _) (by decide) rowsOf_toC).trans ?_
      simp only [List.set_cons_succ, List.set_cons_zero]
      have e1 : rM (xs.take i) ++ [[iC ru, .m (.sl (ps.map encI))]] = rM (xs.take (i + 1)) := by rw [htk]; exact rM_snoc _ ⟨ru, ps⟩
      rw [e1]
      exact le_mk (by simp [go_sem]) (by simp [go_sem])
    · have : i = xs.length := by omega
      subst this
      simp -implicitDefEqProofs (disch := omega) only [go_sem, Nat.lt_irrefl, List.length_map, List.take_length]
      exact ⟨rM_isO xs, rM_toC xs⟩
end Go.Ai
