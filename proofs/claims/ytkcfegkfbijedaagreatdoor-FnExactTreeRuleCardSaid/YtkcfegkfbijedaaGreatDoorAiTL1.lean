/- The rule that a tree finds. -/
import Derived.Test.YtkcfegkfbijedaaGreatDoorAiT5
import Derived.Test.YtkcfegkfbijedaaGreatDoorAiP12
namespace Go.Ai
set_option linter.unusedVariables false
set_option linter.unusedSimpArgs false
open Go.Proofs
set_option maxRecDepth 100000

def firstF (p : Int → Bool) : List Int → Int
  | [] => -1
  | x :: xs => if p x then x else firstF p xs
def treeRuleB (d : GDefinition) (tr : GTree) (t : Tm) : Int := firstF (fun k => (fireB d k t).isSome) (selF tr.no t tr.no.length 0)
theorem implTreeRule_sat (d : GDefinition) (hw : d.wf) (hs : d.size < 1048577) (tr : GTree) (hts : tr.size < 1048577) (t : Tm) (htw : t.wf) (ht : t.size < 1048577) (hxl : (selF tr.no t tr.no.length 0).length < 1000000000) : Sat Tryz.prog 11 [aggV d.enc, aggV tr.enc, tmV t] (intV (treeRuleB d tr t)) := by
  have hsel := (implSelect_sat tr hts t htw ht).sat
  have hf := fun i => (implFireRuleF_sat d hw hs i t htw (by omega)).sat
  obtain ⟨r, hr⟩ : ∃ r, r = treeRuleB d tr t := ⟨_, rfl⟩
  rw [← hr]
  unfold treeRuleB at hr
  generalize selF tr.no t tr.no.length 0 = xs at hsel hr hxl
  obtain ⟨p, hp⟩ : ∃ p : Int → Bool, p = fun k => (fireB d k t).isSome := ⟨_, rfl⟩
  obtain ⟨p2, hp2⟩ : ∃ p2 : Int → Tm, p2 = fun k => (fireB d k t).getD zeroT := ⟨_, rfl⟩
  have hf : ∀ i, Sat Tryz.prog 28 [aggV d.enc, intV i, tmV t] (.tup [tmV (p2 i), boolV (p i)]) := by rw [hp, hp2]; exact hf
  rw [← hp] at hr
  obtain ⟨k2, n2, s2, ts2⟩ := t
  obtain ⟨no⟩ := tr
  have hde : d.enc = [.sl (d.si.so.map encS), .sl (d.si.op.map GOp.enc), .sl (d.ru.map GRule.enc), .sl (d.st.map GStrict.enc)] := rfl
  have hte : GTree.enc ⟨no⟩ = [.sl (no.map GTreeNode.enc)] := rfl
  refine sat_of_code tbOk mixed Tryz.func11 rfl rfl rfl (by decide +kernel) (by decide +kernel) (Nat.le_of_ble_eq_true rfl) ?_
  simp -implicitDefEqProofs (disch := omega) only [go_sem, Tm.enc, hde, hte]
  refine CallK.mk hsel ?_
  simp -implicitDefEqProofs (disch := omega) only [go_sem, List.length_map]
  refine loopA_rule (ι := Nat) (fun i => mk 29 [(3, .one (.ptr 3 0)), (5, .one (.ptr 5 0)), (13, slV (xs.map encI)), (14, intV xs.length), (15, intV i)] [(3, .var [.c (.sl (d.si.so.map encS)), .c (.sl (d.si.op.map GOp.enc)), .c (.sl (d.ru.map GRule.enc)), .c (.sl (d.st.map GStrict.enc))]), (5, .var [iC k2, iC n2, sC s2, tC ts2])])
    (fun i => i ≤ xs.length ∧ r = firstF p (xs.drop i)) (fun i => xs.length - i) 0 ⟨Nat.zero_le _, by simpa using hr⟩ ?_ tbOk mixed (by decide +kernel) ?_
  · exact le_mk (by simp [go_sem]) (by simp [go_sem])
  · rintro i ⟨hi, hr⟩
    rcases Nat.lt_or_ge i xs.length with hlt | hge
    · have hg := map_getD (ec := encI) hlt
      rw [List.drop_eq_getElem_cons hlt] at hr
      simp only [firstF] at hr
      have hfx := hf xs[i]
      generalize xs[i] = x at hg hr hfx
      generalize p x = b at hr hfx
      generalize p2 x = u at hfx
      obtain ⟨uk, un, us, ut⟩ := u
      simp only [encI] at hg
      simp -implicitDefEqProofs (disch := omega) only [go_sem, hg, hlt, List.length_map]
      refine CallK.mk hfx ?_
      simp -implicitDefEqProofs (disch := omega) only [go_sem, Tm.enc]
      refine ⟨fun h => ?_, fun h => ⟨i + 1, ⟨hlt, ?_⟩, by omega, le_mk (by simp [go_sem]) (by simp [go_sem])⟩⟩
      · rw [hr, h]; simp
      · rw [hr, h]; simp
    · have : i = xs.length := by omega
      subst this
      rw [List.drop_length] at hr
      simp -implicitDefEqProofs (disch := omega) only [go_sem, Nat.lt_irrefl, List.length_map]
      rw [hr]; rfl
theorem specTreeRule_sat (d : GDefinition) (hw : d.wf) (hs : d.size < 1048577) (tr : GTree) (hts : tr.size < 1048577) (t : Tm) (htw : t.wf) (ht : t.size < 1048577) (hxl : (selF tr.no t tr.no.length 0).length < 1000000000) : Sat Tryz.prog 7 [aggV d.enc, aggV tr.enc, tmV t] (intV (treeRuleB d tr t)) := by
  have hsel := specSelect_sat tr hts t htw ht
  have hf := fun i => specFireRule_sat d hw hs i t htw (by omega)
  obtain ⟨r, hr⟩ : ∃ r, r = treeRuleB d tr t := ⟨_, rfl⟩
  rw [← hr]
  unfold treeRuleB at hr
  generalize selF tr.no t tr.no.length 0 = xs at hsel hr hxl
  obtain ⟨p, hp⟩ : ∃ p : Int → Bool, p = fun k => (fireB d k t).isSome := ⟨_, rfl⟩
  obtain ⟨p2, hp2⟩ : ∃ p2 : Int → Tm, p2 = fun k => (fireB d k t).getD zeroT := ⟨_, rfl⟩
  have hf : ∀ i, Sat Tryz.prog 21 [aggV d.enc, intV i, tmV t] (.tup [tmV (p2 i), boolV (p i)]) := by rw [hp, hp2]; exact hf
  rw [← hp] at hr
  obtain ⟨k2, n2, s2, ts2⟩ := t
  obtain ⟨no⟩ := tr
  have hde : d.enc = [.sl (d.si.so.map encS), .sl (d.si.op.map GOp.enc), .sl (d.ru.map GRule.enc), .sl (d.st.map GStrict.enc)] := rfl
  have hte : GTree.enc ⟨no⟩ = [.sl (no.map GTreeNode.enc)] := rfl
  refine sat_of_code tbOk mixed Tryz.func7 rfl rfl rfl (by decide +kernel) (by decide +kernel) (Nat.le_of_ble_eq_true rfl) ?_
  simp -implicitDefEqProofs (disch := omega) only [go_sem, Tm.enc, hde, hte]
  refine CallK.mk hsel ?_
  simp -implicitDefEqProofs (disch := omega) only [go_sem, List.length_map]
  refine loopA_rule (ι := Nat) (fun i => mk 35 [(3, .one (.ptr 3 0)), (5, .one (.ptr 5 0)), (7, slV (xs.map encI)), (8, intV i)] [(3, .var [.c (.sl (d.si.so.map encS)), .c (.sl (d.si.op.map GOp.enc)), .c (.sl (d.ru.map GRule.enc)), .c (.sl (d.st.map GStrict.enc))]), (5, .var [iC k2, iC n2, sC s2, tC ts2])])
    (fun i => i ≤ xs.length ∧ r = firstF p (xs.drop i)) (fun i => xs.length - i) 0 ⟨Nat.zero_le _, by simpa using hr⟩ ?_ tbOk mixed (by decide +kernel) ?_
  · exact le_mk (by simp [go_sem]) (by simp [go_sem])
  · rintro i ⟨hi, hr⟩
    rcases Nat.lt_or_ge i xs.length with hlt | hge
    · have hg := map_getD (ec := encI) hlt
      rw [List.drop_eq_getElem_cons hlt] at hr
      simp only [firstF] at hr
      have hfx := hf xs[i]
      generalize xs[i] = x at hg hr hfx
      generalize p x = b at hr hfx
      generalize p2 x = u at hfx
      obtain ⟨uk, un, us, ut⟩ := u
      simp only [encI] at hg
      simp -implicitDefEqProofs (disch := omega) only [go_sem, hg, hlt, List.length_map]
      refine CallK.mk hfx ?_
      simp -implicitDefEqProofs (disch := omega) only [go_sem, hg, hlt, Tm.enc, List.length_map]
      refine ⟨fun h => ?_, fun h => ⟨i + 1, ⟨hlt, ?_⟩, by omega, le_mk (by simp [go_sem]) (by simp [go_sem])⟩⟩
      · rw [hr, h]; simp
      · rw [hr, h]; simp
    · have : i = xs.length := by omega
      subst this
      rw [List.drop_length] at hr
      simp -implicitDefEqProofs (disch := omega) only [go_sem, Nat.lt_irrefl, List.length_map]
      rw [hr]; rfl
end Go.Ai
