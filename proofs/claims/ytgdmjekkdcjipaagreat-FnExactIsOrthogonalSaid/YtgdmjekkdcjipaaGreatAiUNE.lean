/- OverlapsOf of the reference. -/
import Derived.Test.YtgdmjekkdcjipaaGreatAiUND
set_option linter.unusedVariables false
set_option linter.unusedSimpArgs false
namespace Go.Ai
open Go.Proofs
set_option maxRecDepth 100000
def gF0 (d : GDefinition) (i k : Nat) : List GOverlap := qX1 d i ++ (List.range k).flatMap fun k => ovP d i k (lI0 d i) (lI0 d k)
theorem kj0 (d : GDefinition) (i : Nat) : gF0 d i 0 = qX1 d i := by simp [gF0]
theorem gG0 (d : GDefinition) (i k : Nat) : gF0 d i (k + 1) = gF0 d i k ++ ovP d i k (lI0 d i) (lI0 d k) := by
 simp [gF0, List.range_succ, List.append_assoc]
theorem cF0 (d : GDefinition) (i : Nat) : gF0 d i d.ru.length = qX1 d (i + 1) := by
 simp [gF0, qX1, de1, List.range_succ]
theorem jN0 (d : GDefinition) : qX1 d 0 = [] := rfl
theorem pQ0 (d : GDefinition) (i : Nat) (h : i < d.ru.length) : lI0 d i = d.ru[i].le := by
 simp [lI0, List.getD_eq_getElem?_getD, List.getElem?_eq_getElem h]
theorem xp0 {α : Type} (f : Nat → List α) (m : Nat) : ∀ (n : Nat), (∀ k, k < n → (f k).length ≤ m) → ((List.range n).flatMap f).length ≤ n * m
 | 0, _ => by simp
 | n + 1, h => by
  rw [List.range_succ, List.flatMap_append, List.length_append, Nat.succ_mul]
  have h1 := xp0 f m n (fun k hk => h k (by omega))
  have h2 := h n (by omega)
  simp only [List.flatMap_cons, List.flatMap_nil, List.append_nil]
  omega
theorem cG0 (d : GDefinition) (hle : ∀ x, x ∈ d.ru → leOk x.le) (hl : d.ru.length ≤ 16) (i k : Nat) (hi : i < d.ru.length) (hk : k ≤ d.ru.length) : (gF0 d i k).length ≤ 20000 := by
 have hc : ∀ j, j < d.ru.length → ∀ k, (ovP d j k (lI0 d j) (lI0 d k)).length ≤ 60 := fun j hj k => by
  have := ka1 d j k (lI0 d j) (lI0 d k)
  have h2 := (hle _ (List.getElem_mem hj)).cnt
  rw [← pQ0 d j hj] at h2
  omega
 have h1 : (qX1 d i).length ≤ i * 960 := xp0 _ 960 i (fun j hj => by
  have := xp0 (fun k => ovP d j k (lI0 d j) (lI0 d k)) 60 d.ru.length (fun k _ => hc j (by omega) k)
  have h3 : d.ru.length * 60 ≤ 16 * 60 := Nat.mul_le_mul_right 60 hl
  exact Nat.le_trans this h3)
 have h2 := xp0 (fun k => ovP d i k (lI0 d i) (lI0 d k)) 60 k (fun k _ => hc i hi k)
 have h3 : i * 960 ≤ 16 * 960 := Nat.mul_le_mul_right 960 (by omega)
 have h4 : k * 60 ≤ 16 * 60 := Nat.mul_le_mul_right 60 (by omega)
 simp only [gF0, List.length_append]
 omega
theorem xe0 (d : GDefinition) (hd : d.size < 1048577) (hle : fS0 d = true → (∀ x, x ∈ d.ru → leOk x.le) ∧ d.ru.length ≤ 16) : Sat Tryz.prog 10 [qA0 d.enc] (slV ((ovs d).map GOverlap.enc)) := by
 have hde : d.enc = [.sl (d.si.so.map encS), .sl (d.si.op.map GOp.enc), .sl (d.ru.map GRule.enc), .sl (d.st.map GStrict.enc)] := rfl
 have hv := pv0 d hd
 have hrl : d.ru.length < 1048577 := by have := zQ0 GRule.size d.ru; simp only [GDefinition.size] at hd; omega
 refine svc [] zE0 zB0 Tryz.func10 ?_
 by_cases hb : fS0 d = true
 ·obtain ⟨h1, h2⟩ := hle hb
  rw [hb] at hv
  rw [ovs, if_pos hb]
  simp -implicitDefEqProofs (disch := omega) only [go_sem, hde]
  refine zf0 [] (ι := Nat) (fun i => mk 31 [(1, .one (.ptr 1 0)), (3, .one (.own 9001 (qX1 d i).length)), (4, zD0 i)] [(1, .var [.c (.sl (d.si.so.map encS)), .c (.sl (d.si.op.map GOp.enc)), .c (.sl (d.ru.map GRule.enc)), .c (.sl (d.st.map GStrict.enc))]), (9001, .arr 41 7 (rowsOf GOverlap.enc (qX1 d i)) false)])
   (fun i => i ≤ d.ru.length) (fun i => d.ru.length - i) 0 (Nat.zero_le _) ?_ zE0 zB0 (by decide +kernel) ?_
  ·refine (zu0 (t := 3) (l := 6) (k := 0) 9001 rfl rfl rfl (by decide) rfl (rowsOf_cl (ec := encS) (xs := [])) (rowsOf_noD (ec := encS) (xs := []))).trans ?_
   exact zG0 (by simp [go_sem, jN0]) (by simp [go_sem, jN0, rowsOf])
  ·intro i hi
   rcases Nat.lt_or_ge i d.ru.length with hlt | hge
   ·simp -implicitDefEqProofs (disch := omega) only [go_sem, hlt, List.length_map, hde]
    refine CallK.mk hv ?_
    simp -implicitDefEqProofs (disch := omega) only [go_sem, hlt, List.length_map, hde]
    refine zf0 [] (ι := Nat) (fun k => mk 31 [(1, .one (.ptr 1 0)), (3, .one (.own 9001 (gF0 d i k).length)), (4, zD0 i), (5, zD0 k)] [(1, .var [.c (.sl (d.si.so.map encS)), .c (.sl (d.si.op.map GOp.enc)), .c (.sl (d.ru.map GRule.enc)), .c (.sl (d.st.map GStrict.enc))]), (9001, .arr 41 7 (rowsOf GOverlap.enc (gF0 d i k)) false)])
     (fun k => k ≤ d.ru.length) (fun k => d.ru.length - k) 0 (Nat.zero_le _) ?_ zE0 zB0 (by decide +kernel) ?_
    ·exact zG0 (by simp [go_sem, kj0]) (by simp [go_sem, kj0])
    ·intro k hk
     rcases Nat.lt_or_ge k d.ru.length with hkt | hge
     ·have hlen := cG0 d h1 h2 i k hlt hk
      have hp := gh0 d hd h1 i k hlt hkt (gF0 d i k) (by omega)
      rw [← pQ0 d i hlt, ← pQ0 d k hkt, ← gG0, hde] at hp
      simp -implicitDefEqProofs (disch := omega) only [go_sem, hkt, List.length_map, hde]
      refine CallK.accF 3 rfl hp ⟨by simp [zY0], rfl, by simp [zs0, AV.owns, AC.owns]⟩ rfl ?_
      simp -implicitDefEqProofs (disch := omega) only [go_sem, hkt, List.length_map, hde]
      refine ⟨k + 1, hkt, by omega, ?_⟩
      generalize gF0 d i (k + 1) = zs
      refine (zG0 (L' := [(1, .one (.ptr 1 0)), (3, .one (.own 29 zs.length)), (4, zD0 i), (5, zD0 (k + 1 : Nat))]) (B' := [(1, .var [.c (.sl (d.si.so.map encS)), .c (.sl (d.si.op.map GOp.enc)), .c (.sl (d.ru.map GRule.enc)), .c (.sl (d.st.map GStrict.enc))]), (29, .arr 41 7 (rowsOf GOverlap.enc zs) false)]) (by simp [go_sem]) (by simp [go_sem])).trans ?_
      refine (zu0 (t := 3) (l := 29) (k := zs.length) 9001 rfl rfl (by simp [zY0]) (by decide) rfl rowsOf_cl rowsOf_noD).trans ?_
      exact lek
     ·have hk : k = d.ru.length := by omega
      subst hk
      rw [cF0]
      simp -implicitDefEqProofs (disch := omega) only [go_sem, Nat.lt_irrefl, List.length_map, hde]
      exact ⟨i + 1, hlt, by omega, lek⟩
   ·have hi : i = d.ru.length := by omega
    subst hi
    simp -implicitDefEqProofs (disch := omega) only [go_sem, Nat.lt_irrefl, List.length_map, hde]
 ·have hb' : fS0 d = false := by simpa using hb
  rw [hb'] at hv
  rw [ovs, if_neg hb]
  simp -implicitDefEqProofs (disch := omega) only [go_sem, hde]
  refine zf0 [] (ι := Nat) (fun i => mk 31 [(1, .one (.ptr 1 0)), (3, .one (.own 9001 0)), (4, zD0 (0 : Nat))] [(1, .var [.c (.sl (d.si.so.map encS)), .c (.sl (d.si.op.map GOp.enc)), .c (.sl (d.ru.map GRule.enc)), .c (.sl (d.st.map GStrict.enc))]), (9001, .arr 41 7 [] false)])
   (fun i => i = 0) (fun i => i) 0 rfl ?_ zE0 zB0 (by decide +kernel) ?_
  ·refine (zu0 (t := 3) (l := 6) (k := 0) 9001 rfl rfl rfl (by decide) rfl (rowsOf_cl (ec := encS) (xs := [])) (rowsOf_noD (ec := encS) (xs := []))).trans ?_
   exact zG0 (by simp [go_sem]) (by simp [go_sem, rowsOf])
  ·intro i hi
   by_cases h0 : 0 < d.ru.length
   ·simp -implicitDefEqProofs (disch := omega) only [go_sem, h0, List.length_map, hde]
    refine CallK.mk hv ?_
    simp -implicitDefEqProofs (disch := omega) only [go_sem, h0, List.length_map, hde]
   ·simp -implicitDefEqProofs (disch := omega) only [go_sem, h0, List.length_map, hde]
end Go.Ai
