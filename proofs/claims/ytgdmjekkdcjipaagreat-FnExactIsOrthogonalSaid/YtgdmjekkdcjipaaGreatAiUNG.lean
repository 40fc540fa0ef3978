/- IsOrthogonal of both, and the law. -/
import Derived.Test.YtgdmjekkdcjipaaGreatAiUNF
set_option linter.unusedVariables false
set_option linter.unusedSimpArgs false
namespace Go.Ai
open Go.Proofs Go.RowKit
set_option maxRecDepth 100000
theorem kR1 (k n : Int) (s : ByteArray) (l : Nat) (h : pY0 k n s l = true) : (k ≠ 2 → l = 0) ∧ (k = 1 → n = 0) := by
 unfold pY0 at h
 split at h
 ·rename_i hk
  have hk : k = 1 := by simpa using hk
  simp only [Bool.and_eq_true, beq_iff_eq] at h
  exact ⟨fun _ => h.2, fun _ => h.1.2⟩
 ·rename_i hk1
  have hk1 : ¬ k = 1 := by simpa using hk1
  split at h
  ·rename_i hk
   have hk : k = 2 := by simpa using hk
   exact ⟨fun h2 => absurd hk h2, fun h1 => absurd h1 hk1⟩
  ·split at h
   ·simp only [Bool.and_eq_true, beq_iff_eq] at h
    exact ⟨fun _ => h.2, fun h1 => absurd h1 hk1⟩
   ·cases h
mutual
theorem nr0 : ∀ (t : Tm), t.nodes = true → okN t ∧ okN (t.ren s2)
 | .mk k n s ts, h => by
  simp only [Tm.nodes, Bool.and_eq_true] at h
  have h1 := qO1 _ _ _ _ h.1
  have h2 := kR1 _ _ _ _ h.1
  have h3 := nodess_ok ts h.2
  have he : (k ≠ 2 → ts = []) := fun hk => List.eq_nil_of_length_eq_zero (h2.1 hk)
  have hsz : (if k == 1 then s ++ s2 else s).size ≤ 9 := by
   have : (s ++ s2).size = s.size + 1 := by rw [ByteArray.size_append]; rfl
   split <;> omega
  refine ⟨⟨he, h2.2, by omega, h3.1⟩, ?_⟩
  rw [Tm.ren]
  exact ⟨fun hk => by rw [he hk]; rfl, h2.2, hsz, h3.2⟩
theorem nodess_ok : ∀ (ts : List Tm), Tm.nodess ts = true → okNs ts ∧ okNs (Tm.rens s2 ts)
 | [], _ => ⟨trivial, trivial⟩
 | a :: ts, h => by
  simp only [Tm.nodess, Bool.and_eq_true] at h
  have h1 := nr0 a h.1
  have h2 := nodess_ok ts h.2
  exact ⟨⟨h1.1, h2.1⟩, ⟨h1.2, h2.2⟩⟩
end
mutual
theorem jU1 : ∀ (t : Tm), t.wf → okN (t.ren s2) → (t.ren s2).wf
 | .mk k n s ts, h, ho => by
  rw [Tm.ren] at ho ⊢
  refine ⟨h.1, h.2.1, ?_, ?_, rens_wf ts h.2.2.2.2 ho.2.2.2⟩
  ·have := ho.2.2.1
   simp only [maxLen]; omega
  ·rw [jf0, List.length_map]; exact h.2.2.2.1
theorem rens_wf : ∀ (ts : List Tm), Tm.wfs ts → okNs (Tm.rens s2 ts) → Tm.wfs (Tm.rens s2 ts)
 | [], _, _ => trivial
 | a :: ts, h, ho => ⟨jU1 a h.1 ho.1, rens_wf ts h.2 ho.2⟩
end
theorem bw0 (d : GDefinition) (hw : d.wf) (h : fS0 d = true) : (∀ x, x ∈ d.ru → leOk x.le) ∧ d.ru.length ≤ 16 := by
 unfold fS0 at h
 simp only [Bool.and_eq_true, decide_eq_true_eq, List.all_eq_true] at h
 refine ⟨fun x hx => ?_, h.1.1.1.2⟩
 have hr := h.1.1.1.1.1 x hx
 unfold cQ0 at hr
 simp only [Bool.and_eq_true] at hr
 have hv := hr.1.1.1.1.1.1.1.1.2
 unfold Tm.valid at hv
 simp only [Bool.and_eq_true, decide_eq_true_eq] at hv
 have ho := nr0 x.le hv.2
 have hxw : x.le.wf := (hw.2.1.2 x hx).2.1
 exact ⟨ho.1, ho.2, hv.1.1, hxw, jU1 x.le hxw ho.2⟩
def mb0 (d : GDefinition) : Bool := fS0 d && ((ovs d).length == 0) && d.ru.all fun r => distS r.le.vars
theorem zx1 (rs : List GRule) (i : Nat) (h : i < rs.length) : ((rs.drop i).all fun r => distS r.le.vars) = (distS rs[i].le.vars && (rs.drop (i + 1)).all fun r => distS r.le.vars) := by
 rw [List.drop_eq_getElem_cons h, List.all_cons]
theorem qY1 (d : GDefinition) (hle : fS0 d = true → (∀ x, x ∈ d.ru → leOk x.le) ∧ d.ru.length ≤ 16) : (ovs d).length ≤ 20000 := by
 rw [ovs]
 split
 ·rename_i hb
  obtain ⟨h1, h2⟩ := hle hb
  rcases Nat.eq_zero_or_pos d.ru.length with h0 | h0
  ·rw [h0, jN0]; simp
  ·have := cG0 d h1 h2 (d.ru.length - 1) d.ru.length (by omega) (Nat.le_refl _)
   rw [cF0, show d.ru.length - 1 + 1 = d.ru.length by omega] at this
   exact this
 ·simp
theorem dm0 (d : GDefinition) (hw : d.wf) (hd : d.size < 1048577) : Sat Tryz.prog 11 [qA0 d.enc] (boolV (mb0 d)) := by
 have hde : d.enc = [.sl (d.si.so.map encS), .sl (d.si.op.map GOp.enc), .sl (d.ru.map GRule.enc), .sl (d.st.map GStrict.enc)] := rfl
 have hv := pM0 d hd
 have ho := (xW0 d hd (bw0 d hw)).sat
 have hol := qY1 d (bw0 d hw)
 have hrl : d.ru.length < 1048577 := by have := zQ0 GRule.size d.ru; simp only [GDefinition.size] at hd; omega
 have hli := fun x (hx : x ∈ d.ru) => xV0 x.le (by have := qT0 GRule.size d.ru x hx; simp only [GRule.size, GDefinition.size] at *; omega)
 obtain ⟨r, hr⟩ : ∃ r, r = mb0 d := ⟨_, rfl⟩
 rw [← hr]
 unfold mb0 at hr
 generalize ovs d = os at ho hol hr
 refine soc zE0 zB0 Tryz.func11 ?_
 simp -implicitDefEqProofs (disch := omega) only [go_sem, hde]
 refine CallK.mk hv ?_
 cases hb : fS0 d with
 | false =>
  rw [hb] at hr
  have hr : r = false := hr
  subst hr
  simp -implicitDefEqProofs (disch := omega) only [go_sem, hde]
 | true =>
  rw [hb, Bool.true_and] at hr
  simp -implicitDefEqProofs (disch := omega) only [go_sem, hde]
  refine CallK.mk ho ?_
  simp -implicitDefEqProofs (disch := omega) only [go_sem, hde, List.length_map]
  refine ⟨fun h => ?_, fun h => ?_⟩
  ·rw [hr, beq_false_of_ne (by omega : os.length ≠ 0)]; rfl
  ·rw [show (os.length == 0) = true from by rw [beq_iff_eq]; omega, Bool.true_and] at hr
   refine zA0 (ι := Nat) (fun i => mk 26 [(15, slV (d.ru.map GRule.enc)), (16, zD0 d.ru.length), (17, zD0 i)] [])
    (fun i => i ≤ d.ru.length ∧ r = (d.ru.drop i).all fun r => distS r.le.vars) (fun i => d.ru.length - i) 0 ⟨Nat.zero_le _, by simpa using hr⟩ ?_ zE0 zB0 (by decide +kernel) ?_
   ·exact lek
   ·rintro i ⟨hi, he⟩
    rcases Nat.lt_or_ge i d.ru.length with hlt | hge
    ·have hg := zC0 (ec := GRule.enc) hlt
     have hl := hli _ (List.getElem_mem hlt)
     rw [zx1 d.ru i hlt] at he
     generalize d.ru[i] = x at hg hl he
     obtain ⟨xna, ⟨xk, xn, xs, xt⟩, ⟨rk, rn, rs, rt⟩, xg⟩ := x
     simp only [GRule.enc, Tm.enc, encS, zj0, List.cons_append, List.nil_append] at hg
     simp only at hl he
     generalize distS (Tm.mk xk xn xs xt).vars = b at hl he
     simp -implicitDefEqProofs (disch := omega) only [go_sem, hg, hlt, List.length_map]
     refine CallK.mk hl ?_
     cases b with
     | false =>
      have he : r = false := he
      subst he
      simp -implicitDefEqProofs (disch := omega) only [go_sem, hg, hlt, List.length_map]
     | true =>
      simp -implicitDefEqProofs (disch := omega) only [go_sem, hg, hlt, List.length_map]
      exact ⟨i + 1, ⟨hlt, by simpa using he⟩, by omega, lek⟩
    ·have hi : i = d.ru.length := by omega
     subst hi
     rw [List.drop_length, List.all_nil] at he
     subst he
     simp -implicitDefEqProofs (disch := omega) only [go_sem, Nat.lt_irrefl, List.length_map]
theorem gg0 (d : GDefinition) (hw : d.wf) (hd : d.size < 1048577) : Sat Tryz.prog 12 [qA0 d.enc] (boolV (mb0 d)) := by
 have hde : d.enc = [.sl (d.si.so.map encS), .sl (d.si.op.map GOp.enc), .sl (d.ru.map GRule.enc), .sl (d.st.map GStrict.enc)] := rfl
 have hv := pv0 d hd
 have ho := xe0 d hd (bw0 d hw)
 have hol := qY1 d (bw0 d hw)
 have hrl : d.ru.length < 1048577 := by have := zQ0 GRule.size d.ru; simp only [GDefinition.size] at hd; omega
 have hli := fun x (hx : x ∈ d.ru) => xd0 x.le (by have := qT0 GRule.size d.ru x hx; simp only [GRule.size, GDefinition.size] at *; omega)
 obtain ⟨r, hr⟩ : ∃ r, r = mb0 d := ⟨_, rfl⟩
 rw [← hr]
 unfold mb0 at hr
 generalize ovs d = os at ho hol hr
 refine soc zE0 zB0 Tryz.func12 ?_
 simp -implicitDefEqProofs (disch := omega) only [go_sem, hde]
 refine zA0 (ι := Nat) (fun i => mk 27 [(1, .one (.ptr 1 0)), (3, zD0 i)] [(1, .var [.c (.sl (d.si.so.map encS)), .c (.sl (d.si.op.map GOp.enc)), .c (.sl (d.ru.map GRule.enc)), .c (.sl (d.st.map GStrict.enc))])])
  (fun i => i ≤ d.ru.length ∧ r = (fS0 d && (os.length == 0) && (d.ru.drop i).all fun r => distS r.le.vars)) (fun i => d.ru.length - i) 0 ⟨Nat.zero_le _, by simpa using hr⟩ ?_ zE0 zB0 (by decide +kernel) ?_
 ·exact lek
 ·rintro i ⟨hi, he⟩
  rcases Nat.lt_or_ge i d.ru.length with hlt | hge
  ·have hg := zC0 (ec := GRule.enc) hlt
   have hl := hli _ (List.getElem_mem hlt)
   rw [zx1 d.ru i hlt] at he
   generalize d.ru[i] = x at hg hl he
   obtain ⟨xna, ⟨xk, xn, xs, xt⟩, ⟨rk, rn, rs, rt⟩, xg⟩ := x
   simp only [GRule.enc, Tm.enc, encS, zj0, List.cons_append, List.nil_append] at hg
   simp only at hl he
   generalize distS (Tm.mk xk xn xs xt).vars = b at hl he
   simp -implicitDefEqProofs (disch := omega) only [go_sem, hg, hlt, List.length_map, hde]
   refine CallK.mk hl ?_
   cases b with
   | false =>
    have he : r = false := by rw [he]; simp
    subst he
    simp -implicitDefEqProofs (disch := omega) only [go_sem, hg, hlt, List.length_map, hde]
   | true =>
    simp -implicitDefEqProofs (disch := omega) only [go_sem, hg, hlt, List.length_map, hde]
    exact ⟨i + 1, ⟨hlt, by simpa using he⟩, by omega, lek⟩
  ·have hi : i = d.ru.length := by omega
   subst hi
   rw [List.drop_length, List.all_nil, Bool.and_true] at he
   simp -implicitDefEqProofs (disch := omega) only [go_sem, Nat.lt_irrefl, List.length_map, hde]
   refine CallK.mk hv ?_
   cases hb : fS0 d with
   | false =>
    rw [hb] at he
    have he : r = false := he
    subst he
    simp -implicitDefEqProofs (disch := omega) only [go_sem, hde]
   | true =>
    rw [hb, Bool.true_and] at he
    simp -implicitDefEqProofs (disch := omega) only [go_sem, hde]
    refine CallK.mk ho ?_
    simp -implicitDefEqProofs (disch := omega) only [go_sem, hde, List.length_map]
    rw [he, Bool.eq_iff_iff]; simp
theorem kB0 (d : GDefinition) (hw_d : GDefinition.wf d) : Sat Tryz.prog 5 [qA0 d.enc] (boolV true) := by
 refine soc zE0 zB0 Tryz.func5 ?_
 simp -implicitDefEqProofs (disch := omega) only [go_sem]
 refine CallK.mk (xg0 d hw_d 1048576 (by grind [szR]) (by grind [szR])) ?_
 simp -implicitDefEqProofs (disch := omega) only [go_sem]
 intro hz_d
 have hs_d : d.size < 1048577 := by grind [szR]
 have hsp := gg0 d hw_d hs_d
 have him := dm0 d hw_d hs_d
 generalize mb0 d = b at hsp him
 refine CallK.mk (wP0 d hs_d) ?_
 simp -implicitDefEqProofs (disch := omega) only [go_sem]
 refine CallK.mk hsp ?_
 simp -implicitDefEqProofs (disch := omega) only [go_sem]
 refine CallK.mk (wP0 d hs_d) ?_
 simp -implicitDefEqProofs (disch := omega) only [go_sem]
 refine CallK.mk him ?_
 simp -implicitDefEqProofs (disch := omega) only [go_sem]
 refine CallK.mk (wP0 d hs_d) ?_
 simp -implicitDefEqProofs (disch := omega) only [go_sem]
 refine CallK.mk (xR0 d hw_d d) ?_
 simp -implicitDefEqProofs (disch := omega) only [go_sem, GDefinition.eqb_refl]
end Go.Ai
