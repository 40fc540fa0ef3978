/- Paths in a space, in the program and in the reference. -/
import Derived.Test.YtkcfegkfbijedaaAiPI1
import Derived.Test.YtkcfegkfbijedaaAiG1
namespace Go.Ai
set_option linter.unusedVariables false
set_option linter.unusedSimpArgs false
open Go.Proofs
set_option maxRecDepth 100000

/-- The first move to a place. -/
def moveTo (to : Int) : List GMove → Option GMove
  | [] => none
  | m :: ms => if m.tg == to then some m else moveTo to ms
theorem idxTo_none (to : Int) : ∀ (ms : List GMove) (k : Nat), moveTo to ms = none → idxTo to ms k = -1
  | [], _, _ => rfl
  | m :: ms, k, h => by
    simp only [moveTo] at h
    split at h
    · cases h
    · rename_i hc
      simp only [idxTo, hc]
      exact idxTo_none to ms (k + 1) h
theorem idxTo_some (to : Int) : ∀ (ms : List GMove) (k : Nat) (m : GMove), moveTo to ms = some m → ∃ j, idxTo to ms k = ((k + j : Nat) : Int) ∧ ∃ h : j < ms.length, ms[j] = m
  | [], _, _, h => by cases h
  | a :: ms, k, m, h => by
    simp only [moveTo] at h
    split at h
    · rename_i hc
      cases h
      exact ⟨0, by simp [idxTo, hc], by simp, rfl⟩
    · rename_i hc
      obtain ⟨j, h1, h2, h3⟩ := idxTo_some to ms (k + 1) m h
      refine ⟨j + 1, ?_, by simpa using h2, by simpa using h3⟩
      simp only [idxTo, hc]
      rw [if_neg (by simp), h1]
      congr 1; omega
theorem moveTo_tg (to : Int) : ∀ (ms : List GMove) (m : GMove), moveTo to ms = some m → m.tg = to ∧ m ∈ ms
  | [], _, h => by cases h
  | a :: ms, m, h => by
    simp only [moveTo] at h
    split at h
    · rename_i hc; cases h; exact ⟨by simpa using hc, by simp⟩
    · obtain ⟨h1, h2⟩ := moveTo_tg to ms m h
      exact ⟨h1, by simp [h2]⟩
/-- The way back: what is fired on it, the last first. -/
def back (ms : List GMove) : Nat → Int → Option (List GRedex)
  | 0, to => if to ≤ 0 then some [] else none
  | n + 1, to => if to ≤ 0 then some [] else match moveTo to ms with
    | none => none
    | some m => if m.fr < 0 ∨ m.fr ≥ to then none else (back ms n m.fr).map (fun l => m.re :: l)
theorem back_le (ms : List GMove) (n : Nat) (to : Int) (h : to ≤ 0) : back ms n to = some [] := by cases n <;> simp [back, h]
theorem back_step (ms : List GMove) (n : Nat) (to : Int) (h : 0 < to) (m : GMove) (hm : moveTo to ms = some m) (hf : ¬ (m.fr < 0 ∨ m.fr ≥ to)) (hn : to.toNat ≤ n) : back ms n to = (back ms (n - 1) m.fr).map (fun l => m.re :: l) := by
  cases n with
  | zero => omega
  | succ n => simp only [back, if_neg (show ¬ to ≤ 0 by omega), hm, if_neg hf, Nat.add_sub_cancel]
theorem back_none (ms : List GMove) (n : Nat) (to : Int) (h : 0 < to) (hm : ∀ m, moveTo to ms = some m → m.fr < 0 ∨ m.fr ≥ to) : back ms n to = none := by
  cases n with
  | zero => simp only [back, if_neg (show ¬ to ≤ 0 by omega)]
  | succ n =>
    simp only [back, if_neg (show ¬ to ≤ 0 by omega)]
    cases hq : moveTo to ms with
    | none => rfl
    | some m => simp only [if_pos (hm m hq)]
theorem back_fuel (ms : List GMove) : ∀ (n k : Nat) (to : Int), to.toNat ≤ n → to.toNat ≤ k → back ms n to = back ms k to
  | n, k, to, hn, hk => by
    rcases Int.lt_or_le 0 to with h | h
    · cases n with
      | zero => omega
      | succ n =>
        cases k with
        | zero => omega
        | succ k =>
          simp only [back, if_neg (show ¬ to ≤ 0 by omega)]
          cases moveTo to ms with
          | none => rfl
          | some m =>
            simp only
            split
            · rfl
            · rw [back_fuel ms n k m.fr (by omega) (by omega)]
    · rw [back_le _ _ _ h, back_le _ _ _ h]
/-- The path, and whether there is one. -/
def pathB (x : GSpace) (to : Int) : Option (List GRedex) := if 0 ≤ to ∧ to < x.te.length then back x.mo to.toNat to else none
def plus (acc : List GRedex) (q : Option (List GRedex)) : Option (List GRedex) := q.map fun l => (acc ++ l).reverse
def outL (q : Option (List GRedex)) : List GRedex := q.getD []
theorem implPathIn_sat (x : GSpace) (hxl : x.te.length < 1000000000) (hml : x.mo.length < 1000000000) (hw : ∀ m, m ∈ x.mo → m.re.ps.length < 100000000) (to : Int) :
    SatF Try.prog 7 [aggV x.enc, intV to] (.tup [slV ((outL (plus [] (pathB x to))).map GRedex.enc), boolV (plus [] (pathB x to)).isSome]) := by
  obtain ⟨r, hr⟩ : ∃ r, r = plus [] (pathB x to) := ⟨_, rfl⟩
  rw [← hr]
  unfold pathB at hr
  have hde : x.enc = [.sl (x.te.map Tm.enc), .sl (x.mo.map GMove.enc), .v (.bool x.fu)] := rfl
  refine satF_of_code [slV ((outL r).map GRedex.enc), boolV r.isSome] rfl (fun _ h => by cases h; rfl) tbOk mixed Try.func7 rfl rfl rfl (by decide +kernel) (by decide +kernel) (Nat.le_of_ble_eq_true rfl) ?_
  simp -implicitDefEqProofs (disch := omega) only [go_sem, hde, List.length_map]
  have hno : (to < 0 ∨ to ≥ (x.te.length : Int)) → r = none := by
    intro h
    rw [hr, if_neg (by omega)]; rfl
  refine ⟨fun h1 => ⟨fun h2 => ?_, fun h2 => ?_⟩, fun h1 => ?_⟩
  · rw [hno (.inr h2)]; simp [go_sem, outL]
  · rw [if_pos (by omega)] at hr
    clear hno
    refine loopA_rule (ι := Int × List GRedex) (fun q => mk 63 [(2, .one (.ptr 2 0)), (3, .one (.ptr 3 0)), (6, .one (.own 9000 q.2.length))] [(2, .var [.c (.sl (x.te.map Tm.enc)), .c (.sl (x.mo.map GMove.enc)), .c (.v (.bool x.fu))]), (3, .var [iC q.1]), (9000, .arr 45 2 (rR q.2) false)])
      (fun q => 0 ≤ q.1 ∧ q.2.length + q.1.toNat ≤ to.toNat ∧ r = plus q.2 (back x.mo q.1.toNat q.1) ∧ ∀ y, y ∈ q.2 → y.ps.length < 100000000) (fun q => q.1.toNat) (to, []) ⟨by simp only; omega, by simp, hr, fun _ h => by cases h⟩ ?_ tbOk mixed (by decide +kernel) ?_
    · refine (wk_nil (t := 6) 9000 45 2 rfl (by decide) rfl (by decide)).trans ?_
      exact le_mk (by simp [go_sem]) (by simp [go_sem, rowsOf])
    · rintro ⟨t, acc⟩ ⟨ht0, hal, hr, hac⟩
      simp only at ht0 hal hr hac
      have hix := indexMove_sat x.mo hml t
      rcases Int.lt_or_le 0 t with htp | htz
      · cases hm : moveTo t x.mo with
        | none =>
          have hrn : r = none := by
            rw [hr, back_none _ _ _ htp (fun m h => by rw [hm] at h; cases h)]; rfl
          rw [idxTo_none t x.mo 0 hm] at hix
          simp -implicitDefEqProofs (disch := omega) only [go_sem, htp, hde, List.length_map]
          refine CloK.mk hix rfl trivial (by simp [go_sem]) rfl ?_
          simp -implicitDefEqProofs (disch := omega) only [go_sem, hde, List.length_map]
          rw [hrn]; simp [go_sem, outL]
        | some m =>
          obtain ⟨j, e, hj, hm2⟩ := idxTo_some t x.mo 0 m hm
          rw [e, Nat.zero_add] at hix
          have hg := map_getD (ec := GMove.enc) hj
          have hwm := hw _ (List.getElem_mem hj)
          rw [hm2] at hg hwm
          have hst : ¬ (m.fr < 0 ∨ m.fr ≥ t) → r = plus (acc ++ [m.re]) (back x.mo m.fr.toNat m.fr) := by
            intro h
            rw [hr, back_step _ _ _ htp m hm h (Nat.le_refl _), back_fuel x.mo (t.toNat - 1) m.fr.toNat m.fr (by omega) (by omega)]
            cases back x.mo m.fr.toNat m.fr <;> simp [plus]
          have hrn : (m.fr < 0 ∨ m.fr ≥ t) → r = none := by
            intro h
            rw [hr, back_none _ _ _ htp (fun m' h' => by rw [hm] at h'; cases h'; exact h)]; rfl
          have hsn : rowsOf GRedex.enc acc ++ [m.re.enc.map .c] = rR (acc ++ [m.re]) := rowsOf_snoc (ec := GRedex.enc) m.re
          obtain ⟨fr, tg, ru, ps⟩ := m
          simp only [GMove.enc, GRedex.enc, encI, encL, List.cons_append, List.nil_append, List.map_cons, List.map_nil] at hg hst hrn hwm hsn
          simp -implicitDefEqProofs (disch := omega) only [go_sem, htp, hde, List.length_map]
          refine CloK.mk hix rfl trivial (by simp [go_sem]) rfl ?_
          simp -implicitDefEqProofs (disch := omega) only [go_sem, hde, List.length_map, hg, hj]
          refine ⟨fun h3 => ⟨fun h4 => ?_, fun h4 => ⟨⟨by simp, by omega, by omega⟩, fun _ => ⟨(fr, acc ++ [⟨ru, ps⟩]), ⟨by simp only; omega, by simp; omega, hst (by omega), fun y hy => ?_⟩, by simp only; omega, ?_⟩⟩⟩, fun h3 => ?_⟩
          · rw [hrn (.inr h4)]; simp [go_sem, outL]
          · rcases List.mem_append.1 hy with hy | hy
            · exact hac y hy
            · rw [List.mem_singleton.1 hy]; exact hwm
          · rw [hsn]
            exact le_mk (by simp [go_sem]) (by simp [go_sem])
          · rw [hrn (.inl h3)]; simp [go_sem, outL]
      · have htz' : ¬ (t > 0) := by omega
        rw [back_le _ _ _ htz] at hr
        have hrr : r = some acc.reverse := by rw [hr]; simp [plus]
        have hrv := reverseR_satP acc (by omega)
        have hcp := copyRedexes_sat acc.reverse (by simp; omega) (fun y hy => hac y (List.mem_reverse.1 hy))
        simp -implicitDefEqProofs (disch := omega) only [go_sem, htz', hde, List.length_map]
        refine CallK.loan 0 rfl hrv ⟨rfl, ⟨_, _, _, _, rfl, by simp [rowsOf_len]⟩, by simp [othersK]⟩ ?_
        simp -implicitDefEqProofs (disch := omega) only [go_sem, htz', hde, List.length_map, List.length_reverse]
        refine CallK.own hcp rfl ?_
        simp -implicitDefEqProofs (disch := omega) only [go_sem, htz', hde, List.length_map]
        rw [hrr]; simp [go_sem, outL]
  · rw [hno (.inl h1)]; simp [go_sem, outL]
theorem specPathIn_sat (x : GSpace) (hxl : x.te.length < 1000000000) (hml : x.mo.length < 1000000000) (hw : ∀ m, m ∈ x.mo → m.re.ps.length < 100000000) (to : Int) :
    Sat Try.prog 5 [aggV x.enc, intV to] (.tup [slV ((outL (plus [] (pathB x to))).map GRedex.enc), boolV (plus [] (pathB x to)).isSome]) := by
  obtain ⟨r, hr⟩ : ∃ r, r = plus [] (pathB x to) := ⟨_, rfl⟩
  rw [← hr]
  unfold pathB at hr
  have hin := l1In_sat to 0 ((x.te.length : Int) - 1)
  have hde : x.enc = [.sl (x.te.map Tm.enc), .sl (x.mo.map GMove.enc), .v (.bool x.fu)] := rfl
  refine sat_of_codeD [(11, [⟨0, 7, [8], [63, 66]⟩, ⟨1, 7, [60], [63, 66]⟩, ⟨2, 7, [61], [63, 66]⟩])] tbOk mixed Try.func5 rfl rfl rfl (by decide +kernel) (by decide +kernel) (Nat.le_of_ble_eq_true rfl) ?_
  simp -implicitDefEqProofs (disch := omega) only [go_sem, hde, List.length_map]
  refine CallK.mk hin ?_
  simp -implicitDefEqProofs (disch := omega) only [go_sem, hde, List.length_map]
  refine ⟨fun h => ?_, fun h => ?_⟩
  · have : r = none := by
      rw [hr, if_neg (by simp at h; omega)]; rfl
    rw [this]; rfl
  · rw [if_pos (by simp at h; omega)] at hr
    have hto : 0 ≤ to := by simp at h; omega
    have hto2 : to < x.te.length := by simp at h; omega
    refine loopD_rule [(11, [⟨0, 7, [8], [63, 66]⟩, ⟨1, 7, [60], [63, 66]⟩, ⟨2, 7, [61], [63, 66]⟩])] (ι := Int × List GRedex) (fun q => mk 75 [(1, intV q.1), (2, .one (.ptr 2 0)), (6, slV (q.2.reverse.map GRedex.enc))] [(2, .var [.c (.sl (x.te.map Tm.enc)), .c (.sl (x.mo.map GMove.enc)), .c (.v (.bool x.fu))])])
      (fun q => 0 ≤ q.1 ∧ q.2.length + q.1.toNat ≤ to.toNat ∧ r = plus q.2 (back x.mo q.1.toNat q.1)) (fun q => q.1.toNat) (to, []) ⟨by simp only; omega, by simp, hr⟩ ?_ tbOk mixed (by decide +kernel) ?_
    · refine (wk_data (t := 6) (l := 9) rfl rfl rfl (by decide) (rows' := []) rfl).trans ?_
      exact le_mk (by simp [go_sem]) (by simp [go_sem])
    · rintro ⟨t, acc⟩ ⟨ht0, hal, hr⟩
      simp only at ht0 hal hr
      rcases Int.lt_or_le 0 t with htp | htz
      · simp -implicitDefEqProofs (disch := omega) only [go_sem, htp, hde, List.length_map]
        refine loopD_rule [(11, [⟨0, 7, [8], [63, 66]⟩, ⟨1, 7, [60], [63, 66]⟩, ⟨2, 7, [61], [63, 66]⟩])] (ι := Nat) (fun i => mk 75 [(1, intV t), (2, .one (.ptr 2 0)), (6, slV (acc.reverse.map GRedex.enc)), (7, intV i)] [(2, .var [.c (.sl (x.te.map Tm.enc)), .c (.sl (x.mo.map GMove.enc)), .c (.v (.bool x.fu))])])
          (fun i => i ≤ x.mo.length ∧ moveTo t x.mo = moveTo t (x.mo.drop i)) (fun i => x.mo.length - i) 0 ⟨Nat.zero_le _, rfl⟩ ?_ tbOk mixed (by decide +kernel) ?_
        · exact le_mk (by simp [go_sem]) (by simp [go_sem])
        · rintro i ⟨hi, hmv⟩
          rcases Nat.lt_or_ge i x.mo.length with hlt | hge
          · have hg := map_getD (ec := GMove.enc) hlt
            rw [List.drop_eq_getElem_cons hlt] at hmv
            simp only [moveTo] at hmv
            have hwm := hw _ (List.getElem_mem hlt)
            generalize x.mo[i] = m at hg hmv hwm
            obtain ⟨fr, tg, ru, ps⟩ := m
            simp only [GMove.enc, GRedex.enc, encI, encL, List.cons_append, List.nil_append] at hg hmv hwm
            have hfr := l1In_sat fr 0 (t - 1)
            simp -implicitDefEqProofs (disch := omega) only [go_sem, hg, hlt, List.length_map, hde]
            refine ⟨fun h => ⟨i + 1, ⟨hlt, by rw [hmv, if_neg (by simpa using h)]⟩, by omega, le_mk (by simp [go_sem]) (by simp [go_sem])⟩, fun h => ⟨fun h2 => CallK.mk hfr ?_, fun h2 => by omega⟩⟩
            have hm : moveTo t x.mo = some ⟨fr, tg, ru, ps⟩ := by rw [hmv, if_pos (by simpa using h)]
            have hst : ¬ (fr < 0 ∨ fr ≥ t) → r = plus (acc ++ [⟨ru, ps⟩]) (back x.mo fr.toNat fr) := by
              intro h
              rw [hr, back_step _ _ _ htp _ hm h (Nat.le_refl _), back_fuel x.mo (t.toNat - 1) fr.toNat fr (by omega) (by omega)]
              cases back x.mo fr.toNat fr <;> simp [plus]
            have hrn : (fr < 0 ∨ fr ≥ t) → r = none := by
              intro h
              rw [hr, back_none _ _ _ htp (fun m' h' => by rw [hm] at h'; cases h'; exact h)]; rfl
            simp -implicitDefEqProofs (disch := omega) only [go_sem, hg, hlt, List.length_map, hde]
            refine ⟨fun h3 => ?_, fun h3 => ⟨⟨rowsOf_l (fun _ => rfl), by omega, by omega⟩, fun _ => ⟨⟨rowsOf_l GRedex.enc_len, by simp; omega, by simp; omega⟩, fun _ => ⟨(fr, acc ++ [⟨ru, ps⟩]), ⟨?_, ?_, hst ?_⟩, ?_, ?_⟩⟩⟩⟩
            · have : fr < 0 ∨ fr ≥ t := by simp at h3; omega
              rw [hrn this]; rfl
            · simp at h3 ⊢; omega
            · simp at h3 ⊢; omega
            · simp at h3; omega
            · simp at h3 ⊢; omega
            · refine (wk_rowData (l := 69) (T := 63) (i := 0) (c := 1) (y := ps.map encI) rfl (by simp) rfl rfl (by simp [rowsOf_len]) rowsOf_unN (by decide)).trans ?_
              simp only [List.set_cons_zero, List.getD_cons_zero, List.set_cons_succ, List.cons_append, List.nil_append]
              have e1 : ([iC ru, .c (.sl (ps.map encI))] :: rowsOf GRedex.enc acc.reverse) = rowsOf GRedex.enc (⟨ru, ps⟩ :: acc.reverse) := rfl
              rw [e1]
              refine (wk_data (t := 6) (l := 69) (rows' := (⟨ru, ps⟩ :: acc.reverse : List GRedex).map GRedex.enc) rfl rfl (by simp [rowsOf_len]; omega) (by decide) rowsOf_unN).trans ?_
              exact le_mk (by simp [go_sem]) (by simp [go_sem])
          · have : i = x.mo.length := by omega
            subst this
            rw [List.drop_length] at hmv
            simp only [moveTo] at hmv
            have hrn : r = none := by
              rw [hr, back_none _ _ _ htp (fun m h => by rw [hmv] at h; cases h)]; rfl
            simp -implicitDefEqProofs (disch := omega) only [go_sem, Nat.lt_irrefl, List.length_map, hde]
            rw [hrn]; rfl
      · have htz' : ¬ (t > 0) := by omega
        rw [back_le _ _ _ htz] at hr
        have hrr : r = some acc.reverse := by rw [hr]; simp [plus]
        simp -implicitDefEqProofs (disch := omega) only [go_sem, htz', hde, List.length_map]
        rw [hrr]; rfl
end Go.Ai
