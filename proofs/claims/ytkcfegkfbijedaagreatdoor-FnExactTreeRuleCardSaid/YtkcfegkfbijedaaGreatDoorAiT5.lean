/- Selecting rules by a decision tree, on both sides. -/
import Derived.Test.YtkcfegkfbijedaaGreatDoorAiT4
import Derived.Test.YtkcfegkfbijedaaGreatDoorAiTR1
import Derived.Test.YtkcfegkfbijedaaGreatDoorAiT0
namespace Go.Ai
set_option linter.unusedVariables false
set_option linter.unusedSimpArgs false
open Go.Proofs Go.RowKit
set_option maxRecDepth 100000

theorem sliceIndexS2_sat (xs : List ByteArray) (hl : xs.length < 100000000) (s : ByteArray) : Sat Tryz.prog 81 [slV (xs.map encS), strV s] (intV (idxS s xs 0)) := by
  refine sat_of_code tbOk mixed Tryz.func81 rfl rfl rfl (by decide +kernel) (by decide +kernel) (Nat.le_of_ble_eq_true rfl) ?_
  simp -implicitDefEqProofs (disch := omega) only [go_sem]
  refine loopA_rule (ι := Nat) (fun i => mk 19 [(0, slV (xs.map encS)), (1, strV s), (7, intV xs.length), (8, intV i)] []) (fun i => i ≤ xs.length ∧ idxS s (xs.drop i) i = idxS s xs 0) (fun i => xs.length - i) 0 ⟨Nat.zero_le _, by simp⟩ ?_ tbOk mixed (by decide +kernel) ?_
  · exact le_mk (by simp [go_sem]) (by simp [go_sem])
  · rintro i ⟨hi, he⟩
    rcases Nat.lt_or_ge i xs.length with hlt | hge
    · have hg := map_getD (ec := encS) hlt
      rw [idxS_drop s xs i hlt] at he
      generalize xs[i] = x at hg he
      simp only [encS] at hg
      simp -implicitDefEqProofs (disch := omega) only [go_sem, hg, hlt, List.length_map]
      refine ⟨fun h => ?_, fun h => ⟨i + 1, ⟨hlt, ?_⟩, by omega, le_mk (by simp [go_sem]) (by simp [go_sem])⟩⟩
      · have he' : eqS x s = true := by simp [eqS, h]
        simpa only [he', if_true] using he
      · have he' : eqS x s = false := by
          simp only [eqS]
          simp only [beq_eq_false_iff_ne, ne_eq] at h ⊢
          exact fun e => h e.symm
        simpa only [he', Bool.false_eq_true, if_false, Int.natCast_add, Int.natCast_one] using he
    · have e1 : xs.drop i = [] := List.drop_of_length_le hge
      rw [e1] at he
      simp -implicitDefEqProofs (disch := omega) only [go_sem, Nat.not_lt.2 hge, List.length_map]
      rw [← he]; rfl
theorem implIndexOf_sat (xs : List ByteArray) (hl : xs.length < 100000000) (s : ByteArray) : Sat Tryz.prog 52 [slV (xs.map encS), strV s] (intV (idxS s xs 0)) := by
  have h := sliceIndexS2_sat xs hl s
  generalize idxS s xs 0 = r at h ⊢
  refine sat_of_code tbOk mixed Tryz.func52 rfl rfl rfl (by decide +kernel) (by decide +kernel) (Nat.le_of_ble_eq_true rfl) ?_
  simp -implicitDefEqProofs (disch := omega) only [go_sem]
  refine CallK.mk h ?_
  simp -implicitDefEqProofs (disch := omega) only [go_sem]
theorem idxS_range (s : ByteArray) : ∀ (xs : List ByteArray) (k : Int), 0 ≤ k → idxS s xs k = -1 ∨ (k ≤ idxS s xs k ∧ idxS s xs k < k + xs.length)
  | [], k, _ => .inl rfl
  | x :: xs, k, h => by
    simp only [idxS, List.length_cons]
    split
    · right; omega
    · rcases idxS_range s xs (k + 1) (by omega) with h1 | h1
      · exact .inl h1
      · right; omega
def nodeZ : GTreeNode := ⟨[], [], [], 0, []⟩
/-- Where the tree leads, in so many steps. -/
def selF (ns : List GTreeNode) (t : Tm) : Nat → Int → List Int
  | 0, _ => []
  | k + 1, n => if decide (0 ≤ n) && decide (n < (ns.length : Int)) then
      (if (ns.getD n.toNat nodeZ).ke.length = 0 then (ns.getD n.toNat nodeZ).ru
       else if idxS (symAt t (ns.getD n.toNat nodeZ).ps) (ns.getD n.toNat nodeZ).ke 0 < 0 then selF ns t k (ns.getD n.toNat nodeZ).ot
       else if idxS (symAt t (ns.getD n.toNat nodeZ).ps) (ns.getD n.toNat nodeZ).ke 0 < ((ns.getD n.toNat nodeZ).nx.length : Int) then selF ns t k ((ns.getD n.toNat nodeZ).nx.getD (idxS (symAt t (ns.getD n.toNat nodeZ).ps) (ns.getD n.toNat nodeZ).ke 0).toNat 0)
       else [])
    else []
theorem selF_neg (ns : List GTreeNode) (t : Tm) : ∀ k, selF ns t k (-1) = []
  | 0 => rfl
  | k + 1 => by simp [selF]
theorem rowsI_isO3 (xs : List Int) : ∀ r, r ∈ rowsOf encI xs → ∀ x, x ∈ r → isO x = true := by
  intro r hr x hx
  obtain ⟨y, _, rfl⟩ := List.mem_map.1 hr
  simp [encI] at hx
  subst hx; rfl
theorem implSelect_sat (tr : GTree) (hs : tr.size < 1048577) (t : Tm) (ht : t.wf) (hz : t.size < 1048577) : SatF Tryz.prog 27 [aggV tr.enc, tmV t] (slV ((selF tr.no t tr.no.length 0).map encI)) := by
  obtain ⟨ns⟩ := tr
  simp only [GTree.size] at hs
  have hnl := len_szL GTreeNode.size ns
  have hne : (GTree.mk ns).enc = [.sl (ns.map GTreeNode.enc)] := rfl
  rw [hne]
  obtain ⟨r, hr⟩ : ∃ r, r = selF ns t ns.length 0 := ⟨_, rfl⟩
  simp only
  rw [← hr]
  have hsy := fun p hp => implSymbolAt_sat t ht hz p hp
  refine satF_of_code [slV (r.map encI)] rfl (fun _ h => by cases h) tbOk mixed Tryz.func27 rfl rfl rfl (by decide +kernel) (by decide +kernel) (Nat.le_of_ble_eq_true rfl) ?_
  obtain ⟨tk, tn, ts, ta⟩ := t
  simp -implicitDefEqProofs (disch := omega) only [go_sem, Tm.enc, List.length_map]
  refine loopA_rule (ι := Nat × Int) (fun x => mk 58 [(2, .one (.ptr 2 0)), (3, .one (.ptr 3 0)), (5, intV x.2), (10, intV ns.length), (11, intV x.1)] [(2, .var [.c (.sl (ns.map GTreeNode.enc))]), (3, .var [iC tk, iC tn, sC ts, tC ta])])
    (fun x => x.1 ≤ ns.length ∧ r = selF ns (.mk tk tn ts ta) (ns.length - x.1) x.2) (fun x => ns.length - x.1) (0, 0) ⟨Nat.zero_le _, hr⟩ ?_ tbOk mixed (by decide +kernel) ?_
  · exact le_mk (by simp [go_sem]) (by simp [go_sem])
  · rintro ⟨i, n⟩ ⟨hi, he⟩
    simp only at hi he
    rcases Nat.lt_or_ge i ns.length with hlt | hge
    · obtain ⟨k, hk⟩ : ∃ k, ns.length - i = k + 1 := ⟨ns.length - i - 1, by omega⟩
      have hk' : k = ns.length - (i + 1) := by omega
      rw [hk] at he
      by_cases hin : 0 ≤ n ∧ n < (ns.length : Int)
      · obtain ⟨m, rfl⟩ : ∃ m : Nat, n = m := ⟨n.toNat, by omega⟩
        have hm : m < ns.length := by omega
        have hg := map_getD (ec := GTreeNode.enc) hm
        have hzn := szL_mem GTreeNode.size ns ns[m] (List.getElem_mem hm)
        simp only [selF, Int.toNat_natCast, show (decide (0 ≤ (m : Int)) && decide ((m : Int) < (ns.length : Int))) = true by simp; omega, if_true, show ns.getD m nodeZ = ns[m] by simp [List.getD, hm]] at he
        generalize ns[m] = x at hg hzn he
        obtain ⟨ps, ke, nx, ot, ru⟩ := x
        simp only [GTreeNode.size, szL_int] at hzn
        have hkl := len_szL szS ke
        have hs1 := hsy ps (by omega)
        have hix := implIndexOf_sat ke (by omega) (symAt (.mk tk tn ts ta) ps)
        have hir := idxS_range (symAt (.mk tk tn ts ta) ps) ke 0 (by omega)
        have hcl := cloneInt_sat ru (by omega)
        simp only at he
        generalize symAt (.mk tk tn ts ta) ps = sy at he hs1 hix hir
        generalize idxS sy ke 0 = j at he hix hir
        simp only [GTreeNode.enc, encI, encL, encS, List.cons_append, List.nil_append] at hg
        simp -implicitDefEqProofs (disch := omega) only [go_sem, hlt, hm, hg, List.length_map, Tm.enc]
        refine ⟨fun h => absurd h (by omega), fun _ => ⟨fun hz0 => ?_, fun hnz => ?_⟩⟩
        · rw [if_pos (by omega)] at he
          subst he
          refine CallK.outN hcl rfl rfl ?_
          simp -implicitDefEqProofs (disch := omega) only [go_sem]
          exact rowsI_isO3 _
        · rw [if_neg (by simpa using hnz)] at he
          refine CallK.mk hs1 ?_
          simp -implicitDefEqProofs (disch := omega) only [go_sem]
          refine CallK.mk hix ?_
          simp -implicitDefEqProofs (disch := omega) only [go_sem]
          refine ⟨fun hj => ?_, fun hj => ⟨fun hj2 => ?_, fun hj2 => ?_⟩⟩
          · rw [if_pos hj] at he
            exact ⟨(i + 1, ot), ⟨hlt, by rw [he, hk']⟩, by simp only; omega, le_mk (by simp [go_sem]) (by simp [go_sem])⟩
          · rw [if_neg hj, if_pos hj2] at he
            obtain ⟨jj, rfl⟩ : ∃ jj : Nat, j = jj := ⟨j.toNat, by omega⟩
            have hjl : jj < nx.length := by omega
            have hgx := map_getD (ec := encI) hjl
            simp only [Int.toNat_natCast, show nx.getD jj 0 = nx[jj] by simp [List.getD, hjl]] at he hgx ⊢
            simp only [encI] at hgx ⊢
            simp only [hgx]
            refine ⟨⟨by omega, by omega, rfl⟩, fun _ => ⟨Nat.one_pos, fun _ => ⟨(i + 1, nx[jj]), ⟨hlt, by rw [he, hk']⟩, by simp only; omega, le_mk (by simp [go_sem]) (by simp [go_sem])⟩⟩⟩
          · rw [if_neg hj, if_neg hj2] at he
            subst he
            simp [go_sem]
      · have he : r = [] := by
          rw [he, selF, if_neg (by simp; omega)]
        subst he
        simp -implicitDefEqProofs (disch := omega) only [go_sem, hlt, List.length_map, Tm.enc]
        exact fun h1 h2 => absurd ⟨by omega, by omega⟩ hin
    · have he : r = [] := by
        rw [he, show ns.length - i = 0 by omega]; rfl
      subst he
      simp -implicitDefEqProofs (disch := omega) only [go_sem, Nat.not_lt.2 hge, List.length_map, Tm.enc]
theorem specSelect_sat (tr : GTree) (hs : tr.size < 1048577) (t : Tm) (ht : t.wf) (hz : t.size < 1048577) : Sat Tryz.prog 20 [aggV tr.enc, tmV t] (slV ((selF tr.no t tr.no.length 0).map encI)) := by
  obtain ⟨ns⟩ := tr
  simp only [GTree.size] at hs
  have hnl := len_szL GTreeNode.size ns
  have hne : (GTree.mk ns).enc = [.sl (ns.map GTreeNode.enc)] := rfl
  rw [hne]
  obtain ⟨r, hr⟩ : ∃ r, r = selF ns t ns.length 0 := ⟨_, rfl⟩
  simp only
  rw [← hr]
  have hsy := fun p hp => specSymbolAt_sat t ht hz p hp
  refine sat_of_code tbOk mixed Tryz.func20 rfl rfl rfl (by decide +kernel) (by decide +kernel) (Nat.le_of_ble_eq_true rfl) ?_
  obtain ⟨tk, tn, ts, ta⟩ := t
  simp -implicitDefEqProofs (disch := omega) only [go_sem, Tm.enc, List.length_map]
  refine loopA_rule (ι := Nat × Int) (fun x => mk 59 [(2, .one (.ptr 2 0)), (3, .one (.ptr 3 0)), (5, intV x.2), (6, intV x.1)] [(2, .var [.c (.sl (ns.map GTreeNode.enc))]), (3, .var [iC tk, iC tn, sC ts, tC ta])])
    (fun x => x.1 ≤ ns.length ∧ r = selF ns (.mk tk tn ts ta) (ns.length - x.1) x.2) (fun x => ns.length - x.1) (0, 0) ⟨Nat.zero_le _, hr⟩ ?_ tbOk mixed (by decide +kernel) ?_
  · exact le_mk (by simp [go_sem]) (by simp [go_sem])
  · rintro ⟨i, n⟩ ⟨hi, he⟩
    simp only at hi he
    rcases Nat.lt_or_ge i ns.length with hlt | hge
    · obtain ⟨k, hk⟩ : ∃ k, ns.length - i = k + 1 := ⟨ns.length - i - 1, by omega⟩
      have hk' : k = ns.length - (i + 1) := by omega
      rw [hk] at he
      have hin1 := l1In_sat n 0 ((ns.length : Int) - 1)
      by_cases hin : 0 ≤ n ∧ n < (ns.length : Int)
      · rw [show (decide ((0 : Int) ≤ n) && decide (n ≤ (ns.length : Int) - 1)) = true by simp; omega] at hin1
        obtain ⟨m, rfl⟩ : ∃ m : Nat, n = m := ⟨n.toNat, by omega⟩
        have hm : m < ns.length := by omega
        have hg := map_getD (ec := GTreeNode.enc) hm
        have hzn := szL_mem GTreeNode.size ns ns[m] (List.getElem_mem hm)
        simp only [selF, Int.toNat_natCast, show (decide (0 ≤ (m : Int)) && decide ((m : Int) < (ns.length : Int))) = true by simp; omega, if_true, show ns.getD m nodeZ = ns[m] by simp [List.getD, hm]] at he
        generalize ns[m] = x at hg hzn he
        obtain ⟨ps, ke, nx, ot, ru⟩ := x
        simp only [GTreeNode.size, szL_int] at hzn
        have hkl := len_szL szS ke
        have hs1 := hsy ps (by omega)
        have hix := specIndexOf_sat ke (by omega) (symAt (.mk tk tn ts ta) ps)
        have hir := idxS_range (symAt (.mk tk tn ts ta) ps) ke 0 (by omega)
        simp only at he
        generalize symAt (.mk tk tn ts ta) ps = sy at he hs1 hix hir
        generalize idxS sy ke 0 = j at he hix hir
        simp only [GTreeNode.enc, encI, encL, encS, List.cons_append, List.nil_append] at hg
        simp -implicitDefEqProofs (disch := omega) only [go_sem, hlt, hm, hg, List.length_map, Tm.enc]
        refine CallK.mk hin1 ?_
        simp -implicitDefEqProofs (disch := omega) only [go_sem, hlt, hm, hg, List.length_map, Tm.enc]
        refine ⟨fun hz0 => ?_, fun hnz => ?_⟩
        · rw [if_pos (by omega)] at he
          subst he
          exact ⟨⟨rowsOf_l (fun _ => rfl), by omega, by omega⟩, fun _ => rfl⟩
        · rw [if_neg (by simpa using hnz)] at he
          refine CallK.mk hs1 ?_
          simp -implicitDefEqProofs (disch := omega) only [go_sem]
          refine CallK.mk hix ?_
          simp -implicitDefEqProofs (disch := omega) only [go_sem]
          refine ⟨fun hj => ⟨fun hj2 => ?_, fun hj2 => ?_⟩, fun hj => ?_⟩
          · rw [if_neg (by omega), if_pos hj2] at he
            obtain ⟨jj, rfl⟩ : ∃ jj : Nat, j = jj := ⟨j.toNat, by omega⟩
            have hjl : jj < nx.length := by omega
            have hgx := map_getD (ec := encI) hjl
            simp only [Int.toNat_natCast, show nx.getD jj 0 = nx[jj] by simp [List.getD, hjl]] at he hgx ⊢
            simp only [encI] at hgx ⊢
            simp only [hgx]
            refine ⟨⟨by omega, by omega, rfl⟩, fun _ => ⟨Nat.one_pos, fun _ => ⟨(i + 1, nx[jj]), ⟨hlt, by rw [he, hk']⟩, by simp only; omega, le_mk (by simp [go_sem]) (by simp [go_sem])⟩⟩⟩
          · rw [if_neg (by omega), if_neg hj2] at he
            exact ⟨(i + 1, -1), ⟨hlt, by rw [he, selF_neg]⟩, by simp only; omega, le_mk (by simp [go_sem]) (by simp [go_sem])⟩
          · rw [if_pos (by omega)] at he
            exact ⟨(i + 1, ot), ⟨hlt, by rw [he, hk']⟩, by simp only; omega, le_mk (by simp [go_sem]) (by simp [go_sem])⟩
      · rw [show (decide ((0 : Int) ≤ n) && decide (n ≤ (ns.length : Int) - 1)) = false by simp; omega] at hin1
        have he : r = [] := by
          rw [he, selF, if_neg (by simp; omega)]
        subst he
        simp -implicitDefEqProofs (disch := omega) only [go_sem, hlt, List.length_map, Tm.enc]
        refine CallK.mk hin1 ?_
        simp -implicitDefEqProofs (disch := omega) only [go_sem, hlt, List.length_map, Tm.enc]
    · have he : r = [] := by
        rw [he, show ns.length - i = 0 by omega]; rfl
      subst he
      simp -implicitDefEqProofs (disch := omega) only [go_sem, Nat.not_lt.2 hge, List.length_map, Tm.enc]
theorem ru_le : ∀ (ns : List GTreeNode) (x : GTreeNode), x ∈ ns → x.ru.length ≤ (ns.map fun x => x.ru.length).sum
  | [], x, h => by cases h
  | y :: ns, x, h => by
    simp only [List.map_cons, List.sum_cons]
    rcases List.mem_cons.1 h with rfl | h
    · omega
    · have := ru_le ns x h; omega
theorem selF_ok (ns : List GTreeNode) (hw : ∀ x, x ∈ ns → wfL wfI x.ru) (t : Tm) : ∀ (k : Nat) (n : Int), wfL wfI (selF ns t k n) ∧ (selF ns t k n).length ≤ (ns.map fun x => x.ru.length).sum
  | 0, _ => ⟨⟨Nat.zero_le _, fun _ h => by cases h⟩, Nat.zero_le _⟩
  | k + 1, n => by
    have zero : wfL wfI ([] : List Int) ∧ ([] : List Int).length ≤ (ns.map fun x => x.ru.length).sum := ⟨⟨Nat.zero_le _, fun _ h => by cases h⟩, Nat.zero_le _⟩
    simp only [selF]
    split
    · rename_i hin
      simp only [Bool.and_eq_true, decide_eq_true_eq] at hin
      split
      · have hm : n.toNat < ns.length := by omega
        have hmem : ns.getD n.toNat nodeZ ∈ ns := by
          rw [List.getD_eq_getElem?_getD, List.getElem?_eq_getElem hm]; exact List.getElem_mem hm
        generalize ns.getD n.toNat nodeZ = x at hmem
        exact ⟨hw x hmem, ru_le ns x hmem⟩
      · split
        · exact selF_ok ns hw t k _
        · split
          · exact selF_ok ns hw t k _
          · exact zero
    · exact zero
theorem ru_sum (ns : List GTreeNode) : (ns.map fun x => x.ru.length).sum ≤ szL GTreeNode.size ns := by
  induction ns with
  | nil => simp
  | cons x ns ih =>
    simp only [List.map_cons, List.sum_cons, szL, GTreeNode.size, szL_int]
    omega
end Go.Ai
