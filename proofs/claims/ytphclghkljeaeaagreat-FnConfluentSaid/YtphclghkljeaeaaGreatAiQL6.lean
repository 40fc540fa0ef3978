/- Normal forms of a space, on both sides. -/
import Derived.Test.YtphclghkljeaeaaGreatAiP8
import Derived.Test.YtphclghkljeaeaaGreatAiSP4
import Derived.Test.YtphclghkljeaeaaGreatAiDw13
import Derived.Test.YtphclghkljeaeaaGreatAiA4
import Derived.Test.YtphclghkljeaeaaGreatAiG1
import Derived.Test.YtphclghkljeaeaaGreatAiAccX
import Derived.Test.YtphclghkljeaeaaGreatAiRow2
import Derived.Test.YtphclghkljeaeaaGreatAiQL3
set_option linter.unusedVariables false
set_option linter.unusedSimpArgs false
namespace Go.Ai
open Go.Proofs
set_option maxRecDepth 100000
def jC0 (p : Tm → Bool) : List Tm → Nat → List Int
 | [], _ => []
 | t :: ts, i => if p t = true then (i : Int) :: jC0 p ts (i + 1) else jC0 p ts (i + 1)
theorem mg0 (p : Tm → Bool) (t : Tm) : ∀ (ts : List Tm) (i : Nat), jC0 p (ts ++ [t]) i = jC0 p ts i ++ (if p t = true then [((i + ts.length : Nat) : Int)] else [])
 | [], i => by simp only [List.nil_append, jC0]; split <;> simp
 | s :: ts, i => by
  simp only [List.cons_append, jC0, mg0 p t ts (i + 1), List.length_cons]
  rw [show i + 1 + ts.length = i + (ts.length + 1) by omega]
  split <;> simp
theorem mh0 (p : Tm → Bool) (ts : List Tm) (i : Nat) (h : i < ts.length) : jC0 p (ts.take (i + 1)) 0 = jC0 p (ts.take i) 0 ++ (if p ts[i] = true then [(i : Int)] else []) := by
 rw [List.take_succ_eq_append_getElem h, mg0, List.length_take]
 simp [Nat.min_eq_left (Nat.le_of_lt h)]
theorem kd0 (p : Tm → Bool) : ∀ (ts : List Tm) (i : Nat), (jC0 p ts i).length ≤ ts.length
 | [], _ => by simp [jC0]
 | t :: ts, i => by
  have := kd0 p ts (i + 1)
  simp only [jC0, List.length_cons]; split <;> simp <;> omega
def yP0 (d : GDefinition) (t : Tm) : Bool := yr0 d t && !(xX0 d t).isSome
theorem spaceEnc (x : GSpace) : x.enc = [.sl (x.te.map Tm.enc), .sl (x.mo.map GMove.enc), .v (.bool x.fu)] := rfl
theorem yp0 (d : GDefinition) (hw : d.wf) (hs : d.size < 1048577) (x : GSpace) (hl : x.te.length < 1048577) (hx : ∀ t, t ∈ x.te → t.wf ∧ t.size < 30000000) : Sat Tryz.prog 36 [zv0 d.enc, zv0 x.enc] (slV ((jC0 (yP0 d) x.te 0).map encI)) := by
 have hn := fun i (h : i < x.te.length) => pm0 d hw hs x.te[i] (hx _ (List.getElem_mem h)).1 (hx _ (List.getElem_mem h)).2
 have hn : ∀ i (h : i < x.te.length), Sat Tryz.prog 91 [zv0 d.enc, tmV x.te[i]] (boolV (yP0 d x.te[i])) := hn
 rw [spaceEnc]
 obtain ⟨ts, mo, fu⟩ := x
 simp only at hl hn ⊢
 clear hx
 generalize yP0 d = p at hn ⊢
 obtain ⟨r, hr⟩ : ∃ r, r = jC0 p ts 0 := ⟨_, rfl⟩
 rw [← hr]
 have hde : d.enc = [.sl (d.si.so.map encS), .sl (d.si.op.map GOp.enc), .sl (d.ru.map GRule.enc), .sl (d.st.map GStrict.enc)] := rfl
 rw [hde] at hn ⊢
 refine soc zF0 zB0 Tryz.func36 ?_
 refine yQ0 ?_
 refine zC0 (ι := Nat) (fun i => mk 27 [(2, .one (.ptr 2 0)), (3, .one (.ptr 3 0)), (5, .one (.own 7 (jC0 p (ts.take i) 0).length)), (6, zG0 i)] [(2, .var [.c (.sl (d.si.so.map encS)), .c (.sl (d.si.op.map GOp.enc)), .c (.sl (d.ru.map GRule.enc)), .c (.sl (d.st.map GStrict.enc))]), (3, .var [.c (.sl (ts.map Tm.enc)), .c (.sl (mo.map GMove.enc)), .c (.v (.bool fu))]), (7, .arr 3 1 (zA0 encI (jC0 p (ts.take i) 0)) false)])
  (fun i => i ≤ ts.length) (fun i => ts.length - i) 0 (Nat.zero_le _) ?_ zF0 zB0 (by decide +kernel) ?_
 ·exact zM0 (by simp [go_sem, jC0]) (by simp [go_sem, jC0, zA0])
 ·intro i hi
  have hln := kd0 p (ts.take i) 0
  rw [List.length_take] at hln
  rcases Nat.lt_or_ge i ts.length with hlt | hge
  ·have hg := zE0 (ec := Tm.enc) hlt
   have ht := mh0 p ts i hlt
   have hni := hn i hlt
   generalize ts[i] = u at hg ht hni
   generalize p u = b at ht hni
   obtain ⟨uk, un, us, ut⟩ := u
   simp only [Tm.enc] at hg
   refine pi0 ?_
   refine bs1 hni ?_
   refine ⟨fun h => ⟨⟨by simp, by omega, by omega⟩, fun _ => ⟨i + 1, hlt, by omega, zM0 ?_ ?_⟩⟩, fun h => ⟨i + 1, hlt, by omega, zM0 ?_ ?_⟩⟩
   ·simp [go_sem, ht, h]
   ·simp [go_sem, ht, h]; exact zo0 (ec := encI) (i : Int)
   ·simp [go_sem, ht, h]
   ·simp [go_sem, ht, h]
  ·have : i = ts.length := by omega
   subst this
   simp -implicitDefEqProofs (disch := omega) only [go_sem, Nat.lt_irrefl, List.take_length, List.length_map]
   rw [hr]
theorem wa1 (xs : List Int) : ∀ r, r ∈ zA0 encI xs → ∀ x, x ∈ r → isO x = true := by
 intro r hr x hx
 obtain ⟨y, _, rfl⟩ := List.mem_map.1 hr
 simp [encI] at hx
 subst hx; rfl
theorem yN0 (d : GDefinition) (hw : d.wf) (hs : d.size < 1048577) (x : GSpace) (hl : x.te.length < 1048577) (hx : ∀ t, t ∈ x.te → t.wf ∧ t.size < 30000000) : SatF Tryz.prog 32 [zv0 d.enc, zv0 x.enc] (slV ((jC0 (yP0 d) x.te 0).map encI)) := by
 have hn := fun i (h : i < x.te.length) => pc0 d hw hs x.te[i] (hx _ (List.getElem_mem h)).1 (hx _ (List.getElem_mem h)).2
 have hn : ∀ i (h : i < x.te.length), Sat Tryz.prog 90 [zv0 d.enc, tmV x.te[i]] (boolV (yP0 d x.te[i])) := hn
 rw [spaceEnc]
 obtain ⟨ts, mo, fu⟩ := x
 simp only at hl hn ⊢
 clear hx
 generalize yP0 d = p at hn ⊢
 obtain ⟨r, hr⟩ : ∃ r, r = jC0 p ts 0 := ⟨_, rfl⟩
 rw [← hr]
 have hde : d.enc = [.sl (d.si.so.map encS), .sl (d.si.op.map GOp.enc), .sl (d.ru.map GRule.enc), .sl (d.st.map GStrict.enc)] := rfl
 rw [hde] at hn ⊢
 refine sfc [slV (r.map encI)] rfl (fun _ h => by cases h) zF0 zB0 Tryz.func32 ?_
 refine fx0 ?_
 refine zC0 (ι := Nat) (fun i => match jC0 p (ts.take i) 0 with
   | [] => mk 25 [(2, .one (.ptr 2 0)), (9, slV (ts.map Tm.enc)), (5, .one .nil), (10, zG0 ts.length), (11, zG0 i)] [(2, .var [.c (.sl (d.si.so.map encS)), .c (.sl (d.si.op.map GOp.enc)), .c (.sl (d.ru.map GRule.enc)), .c (.sl (d.st.map GStrict.enc))])]
   | q :: qs => mk 25 [(2, .one (.ptr 2 0)), (9, slV (ts.map Tm.enc)), (5, .one (.own 22 (q :: qs).length)), (10, zG0 ts.length), (11, zG0 i)] [(2, .var [.c (.sl (d.si.so.map encS)), .c (.sl (d.si.op.map GOp.enc)), .c (.sl (d.ru.map GRule.enc)), .c (.sl (d.st.map GStrict.enc))]), (22, .arr 3 1 (zA0 encI (q :: qs)) false)])
  (fun i => i ≤ ts.length) (fun i => ts.length - i) 0 (Nat.zero_le _) ?_ zF0 zB0 (by decide +kernel) ?_
 ·exact lek
 ·intro i hi
  have hln := kd0 p (ts.take i) 0
  rw [List.length_take] at hln
  rcases Nat.lt_or_ge i ts.length with hlt | hge
  ·have hg := zE0 (ec := Tm.enc) hlt
   have ht := mh0 p ts i hlt
   have hni := hn i hlt
   generalize ts[i] = u at hg ht hni
   generalize p u = b at ht hni
   generalize jC0 p (ts.take i) 0 = acc at ht hln
   obtain ⟨uk, un, us, ut⟩ := u
   simp only [Tm.enc] at hg
   cases acc with
   | nil =>
    refine pi0 ?_
    refine bs1 hni ?_
    refine ⟨fun h => ⟨by simp, fun _ => ⟨i + 1, hlt, by omega, ?_⟩⟩, fun h => ⟨i + 1, hlt, by omega, ?_⟩⟩
    ·have ht : jC0 p (ts.take (i + 1)) 0 = [(i : Int)] := by simpa [h] using ht
     rw [ht]; exact zM0 (by simp [go_sem]) (by simp [go_sem, zA0, encI])
    ·have ht : jC0 p (ts.take (i + 1)) 0 = [] := by simpa [h] using ht
     rw [ht]; exact lek
   | cons q qs =>
    simp only [List.length_cons] at hln
    refine pi0 ?_
    refine bs1 hni ?_
    refine ⟨fun h => ⟨⟨by simp, by omega, by omega⟩, fun _ => ⟨i + 1, hlt, by omega, ?_⟩⟩, fun h => ⟨i + 1, hlt, by omega, ?_⟩⟩
    ·have ht : jC0 p (ts.take (i + 1)) 0 = q :: (qs ++ [(i : Int)]) := by simpa [h] using ht
     rw [ht]; exact zM0 (by simp [go_sem]) (by simp [go_sem]; exact zo0 (ec := encI) (i : Int))
    ·have ht : jC0 p (ts.take (i + 1)) 0 = q :: qs := by simpa [h] using ht
     rw [ht]; exact lek
  ·have : i = ts.length := by omega
   subst this
   rw [List.take_length, ← hr]
   clear hr
   cases r with
   | nil =>
    simp -implicitDefEqProofs (disch := omega) only [go_sem, Nat.lt_irrefl, List.map_nil]
   | cons q qs =>
    refine pZ1 ?_
    exact wa1 _
theorem xi0 (d : GDefinition) (hw : d.wf) (hs : d.size < 1048577) (x : GSpace) (hl : x.te.length < 1048577) (hx : ∀ t, t ∈ x.te → t.wf ∧ t.size < 30000000) : Sat Tryz.prog 34 [zv0 d.enc, zv0 x.enc] (boolV (x.fu && decide ((jC0 (yP0 d) x.te 0).length ≤ 1))) := by
 have hn := yp0 d hw hs x hl hx
 have hln := kd0 (yP0 d) x.te 0
 generalize jC0 (yP0 d) x.te 0 = r at hn hln ⊢
 rw [spaceEnc] at hn ⊢
 obtain ⟨ts, mo, fu⟩ := x
 simp only at hl hn hln ⊢
 have hde : d.enc = [.sl (d.si.so.map encS), .sl (d.si.op.map GOp.enc), .sl (d.ru.map GRule.enc), .sl (d.st.map GStrict.enc)] := rfl
 rw [hde] at hn ⊢
 have hlm : (r.map encI).length < 2000000 := by rw [List.length_map]; omega
 refine soc zF0 zB0 Tryz.func34 ?_
 refine zY0 ?_
 refine ⟨fun h => CallK.mk hn ?_, fun h => by rw [h]; rfl⟩
 refine qp1 ?_
 rw [h, Bool.true_and]; exact decide_eq_decide.2 (by omega)
theorem xN0 (d : GDefinition) (hw : d.wf) (hs : d.size < 1048577) (x : GSpace) (hl : x.te.length < 1048577) (hx : ∀ t, t ∈ x.te → t.wf ∧ t.size < 30000000) : Sat Tryz.prog 33 [zv0 d.enc, zv0 x.enc] (boolV (x.fu && decide ((jC0 (yP0 d) x.te 0).length ≤ 1))) := by
 have hn := (yN0 d hw hs x hl hx).sat
 have hln := kd0 (yP0 d) x.te 0
 generalize jC0 (yP0 d) x.te 0 = r at hn hln ⊢
 rw [spaceEnc] at hn ⊢
 obtain ⟨ts, mo, fu⟩ := x
 simp only at hl hn hln ⊢
 have hde : d.enc = [.sl (d.si.so.map encS), .sl (d.si.op.map GOp.enc), .sl (d.ru.map GRule.enc), .sl (d.st.map GStrict.enc)] := rfl
 rw [hde] at hn ⊢
 refine soc zF0 zB0 Tryz.func33 ?_
 refine zY0 ?_
 refine ⟨fun h => CallK.mk hn ?_, fun h => by rw [h]; rfl⟩
 refine qp1 ?_
 rw [h, Bool.true_and]; exact decide_eq_decide.2 (by omega)
end Go.Ai
/- Draws: spaces. -/
namespace Go.Ai
open Go.Proofs
set_option maxRecDepth 100000
def cz1 (d : GDefinition) (t : Tm) (x : GSpace) : Prop := x.te = (zw0 d t).te ∧ x.fu = (zw0 d t).fu ∧ x.mo.length ≤ 40000 ∧ ∀ m, m ∈ x.mo → m.re.ps.length < 1000
theorem fs1 (d : GDefinition) (hc : xD1 d) (u : Tm) (hg : jk0 d u) (q : Int × List Int) (hq : q ∈ kn0 d u) : q.2.length < 1000 := (vk0 d hc.2.2.1 u hg q hq).1
theorem kr1 (d : GDefinition) (hw : d.wf) (t : Tm) (htw : t.wf) : cz1 d t (zw0 d t) := by
 refine ⟨rfl, rfl, ?_⟩
 cases hc : yr0 d t with
 | true =>
  have h := yy0 d hw t htw hc
  refine ⟨h.mlen, fun m hm => ?_⟩
  obtain ⟨i, j, q, v, e, h1, h2, _⟩ := h.mv m hm
  rw [e]
  exact fs1 d (fW0 d hw t htw hc) v (h.good v (List.mem_of_getElem? h1)) q h2
 | false =>
  unfold zw0
  rw [if_neg (by rw [hc]; decide)]
  exact ⟨by simp [vg0], fun m hm => by simp [vg0] at hm⟩
theorem cm0 (bs : List Int) (hb : wN0 bs) : ∃ d t x, gD 30000 d ∧ gT 1000 t ∧ cz1 d t x ∧ Sat Tryz.prog 89 [slV (bs.map xJ0)] (.tup [zv0 (GDefinition.enc d), zv0 (GSpace.enc x)]) := by
 obtain ⟨d, t, gd, gt, hd⟩ := qc1 bs hb
 obtain ⟨c, hc, s0⟩ := tp0 bs hb
 have gts := gt.2
 have hds : d.size < 1048577 := by have := gd.2; omega
 have hself := kr1 d gd.1 t gt.1
 obtain ⟨c1, b1, i1, s1⟩ := zP0 bs hb c hc 12 (by omega)
 obtain ⟨c2, v, i2, _, s2⟩ := xb0 bs hb c1 i1 [-1, 1, 9] (by simp) (by decide)
 cases hcf : yr0 d t with
 | false =>
  refine ⟨d, t, zw0 d t, gd, gt, hself, ?_⟩
  have hx := cG0 d hds t (by omega) hcf
  have hX : zw0 d t = vg0 := by unfold zw0; rw [if_neg (by rw [hcf]; decide)]
  rw [hX] at hx ⊢
  obtain ⟨⟨dso, dop⟩, dru, dst⟩ := d
  obtain ⟨tk, tn, tz, ta⟩ := t
  refine svc [(5, ([⟨0, 4, [6], [28, 29]⟩, ⟨1, 4, [26], [28, 29]⟩], [4])), (6, ([⟨1, 2, [6], [2]⟩], []))] zF0 zB0 Tryz.func89 ?_
  refine zY0 ?_
  refine bu1 hd ?_
  refine CallK.mk hx ?_
  simp -implicitDefEqProofs only [go_sem, vg0, spaceEnc, List.map_nil]
  refine CallK.con [] [9105] rfl s0 (by simp [go_sem, xJ0]) ?_
  refine zY0 ?_
  exact ⟨fun h => absurd h (by decide), fun _ => rfl⟩
 | true =>
  have hx := gt0 d gd.1 hds t gt.1 (by omega) hcf
  generalize zw0 d t = X at hx hself
  obtain ⟨te, mo, fu⟩ := X
  cases mo with
  | nil =>
   refine ⟨d, t, ⟨te, [], fu⟩, gd, gt, hself, ?_⟩
   obtain ⟨⟨dso, dop⟩, dru, dst⟩ := d
   obtain ⟨tk, tn, tz, ta⟩ := t
   refine svc [(5, ([⟨0, 4, [6], [28, 29]⟩, ⟨1, 4, [26], [28, 29]⟩], [4])), (6, ([⟨1, 2, [6], [2]⟩], []))] zF0 zB0 Tryz.func89 ?_
   refine zY0 ?_
   refine bu1 hd ?_
   refine CallK.con [] [9101, 9102] rfl hx (by simp [go_sem, GDefinition.enc, GSignature.enc, Tm.enc, encS, encL]) ?_
   refine zY0 ?_
   refine CallK.con [] [9105] rfl s0 (by simp [go_sem, xJ0]) ?_
   refine zY0 ?_
   exact ⟨fun h => absurd h (by decide), fun _ => rfl⟩
  | cons m ms =>
   have h0 : ((((m :: ms).length : Nat) : Int) > 0) := by simp only [List.length_cons]; omega
   cases b1 with
   | false =>
    refine ⟨d, t, ⟨te, m :: ms, fu⟩, gd, gt, hself, ?_⟩
    obtain ⟨⟨dso, dop⟩, dru, dst⟩ := d
    obtain ⟨tk, tn, tz, ta⟩ := t
    refine svc [(5, ([⟨0, 4, [6], [28, 29]⟩, ⟨1, 4, [26], [28, 29]⟩], [4])), (6, ([⟨1, 2, [6], [2]⟩], []))] zF0 zB0 Tryz.func89 ?_
    refine zY0 ?_
    refine bu1 hd ?_
    refine CallK.con [] [9101, 9102] rfl hx (by simp [go_sem, GDefinition.enc, GSignature.enc, Tm.enc, encS, encL]) ?_
    refine zY0 ?_
    refine CallK.con [] [9105] rfl s0 (by simp [go_sem, xJ0]) ?_
    refine zY0 ?_
    refine ⟨fun _ => ?_, fun h => absurd h0 h⟩
    refine LoanK.con [9105] [] s1 rfl (by simp [go_sem, encS, encI]) ?_
    refine zY0 ?_
    rfl
   | true =>
    refine ⟨d, t, ⟨te, { m with fr := v } :: ms, fu⟩, gd, gt, ⟨hself.1, hself.2.1, by simpa using hself.2.2.1, fun n hn => ?_⟩, ?_⟩
    ·rcases List.mem_cons.1 hn with rfl | hn
     ·exact hself.2.2.2 m (List.mem_cons_self)
     ·exact hself.2.2.2 n (List.mem_cons_of_mem _ hn)
    obtain ⟨⟨dso, dop⟩, dru, dst⟩ := d
    obtain ⟨tk, tn, tz, ta⟩ := t
    refine svc [(5, ([⟨0, 4, [6], [28, 29]⟩, ⟨1, 4, [26], [28, 29]⟩], [4])), (6, ([⟨1, 2, [6], [2]⟩], []))] zF0 zB0 Tryz.func89 ?_
    refine zY0 ?_
    refine bu1 hd ?_
    refine CallK.con [] [9101, 9102] rfl hx (by simp [go_sem, GDefinition.enc, GSignature.enc, Tm.enc, encS, encL]) ?_
    refine zY0 ?_
    refine CallK.con [] [9105] rfl s0 (by simp [go_sem, xJ0]) ?_
    refine zY0 ?_
    refine ⟨fun _ => ?_, fun h => absurd h0 h⟩
    refine LoanK.con [9105] [] s1 rfl (by simp [go_sem, encS, encI]) ?_
    obtain ⟨mf, mt, ⟨mr, mp⟩⟩ := m
    refine zY0 ?_
    refine UvC.mk [9105] s2 (by simp [go_sem, encS, encI]) (by simp [go_sem]) ?_
    simp -implicitDefEqProofs only [go_sem, zA0, List.map_cons, GMove.enc, GRedex.enc, encI, encL, List.cons_append, List.nil_append]
    have hc : ∀ cs : List C, (cs.map AC.c).map toC = cs := fun cs => by
     rw [List.map_map]
     exact List.map_id' cs
    refine ⟨by omega, fun _ => ⟨by simp, fun _ => ⟨⟨fun r hr a ha => ?_, fun r hr a ha => ?_⟩, ?_⟩⟩⟩
    ·obtain ⟨x, _, rfl⟩ := List.mem_map.1 hr
     obtain ⟨y, _, rfl⟩ := List.mem_map.1 ha
     rfl
    ·obtain ⟨x, _, rfl⟩ := List.mem_map.1 hr
     simp only [List.mem_cons, List.not_mem_nil, or_false] at ha
     rcases ha with rfl | rfl | rfl | rfl <;> rfl
    ·simp only [List.map_map, Function.comp_def, hc]
     rfl
theorem vT0 (bs : List Int) (hb : wN0 bs) : ∃ d t x, gD 30000 d ∧ gT 1000 t ∧ cz1 d t x ∧ Sat Tryz.prog 31 [slV (bs.map xJ0)] (.tup [zv0 (GDefinition.enc d), zv0 (GSpace.enc x)]) := by
 obtain ⟨d, t, x, gd, gt, gx, h⟩ := cm0 bs hb
 refine ⟨d, t, x, gd, gt, gx, ?_⟩
 obtain ⟨⟨dso, dop⟩, dru, dst⟩ := d
 obtain ⟨te, mo, fu⟩ := x
 refine soc zF0 zB0 Tryz.func31 ?_
 refine zY0 ?_
 refine c3' h ?_
 rfl
theorem dW0 (bs : List Int) (hb : wN0 bs) : ∃ d t x to, gD 30000 d ∧ gT 1000 t ∧ cz1 d t x ∧ Sat Tryz.prog 38 [slV (bs.map xJ0)] (.tup [zv0 (GSpace.enc x), zG0 to]) := by
 obtain ⟨d, t, x, gd, gt, gx, h⟩ := cm0 bs hb
 obtain ⟨c, hc, s0⟩ := fU1 bs hb
 obtain ⟨c1, v, i1, v0, v1, s1⟩ := zS0 bs hb c hc ((x.te.length : Int) + 2) (by omega)
 have hte : x.te.length ≤ 40 := by
  rw [gx.1]
  cases hcf : yr0 d t with
  | true => exact (yy0 d gd.1 t gt.1 hcf).len
  | false => unfold zw0; rw [if_neg (by rw [hcf]; decide)]; simp [vg0]
 refine ⟨d, t, x, v - 1, gd, gt, gx, ?_⟩
 obtain ⟨⟨dso, dop⟩, dru, dst⟩ := d
 obtain ⟨te, mo, fu⟩ := x
 simp only at hte v1 s1
 refine svc [(2, ([⟨0, 7, [5], [13, 17]⟩], [7]))] zF0 zB0 Tryz.func38 ?_
 refine yQ0 ?_
 refine CallK.mk h ?_
 simp -implicitDefEqProofs (disch := omega) only [go_sem, spaceEnc]
 refine CallK.newN s0 rfl rfl ?_
 refine fx0 ?_
 refine UvC.mk [13] s1 (by simp [go_sem, encS, encI]) (by simp [go_sem]) ?_
 refine fx0 ?_
 rfl
end Go.Ai
/- Paths in a space: the parts. -/
namespace Go.Ai
open Go.Proofs
set_option maxRecDepth 100000
theorem xO1 (m : GMove) (to : Int) : Sat Tryz.prog 65 [zv0 m.enc, .one (.ip [.v (.int .i64 to)])] (boolV (m.tg == to)) := by
 obtain ⟨fr, tg, ru, ps⟩ := m
 refine soc zF0 zB0 Tryz.func65 ?_
 simp -implicitDefEqProofs only [go_sem, GMove.enc, GRedex.enc, encI, encL, List.cons_append, List.nil_append]
def fe0 (to : Int) : List GMove → Nat → Int
 | [], _ => -1
 | m :: ms, k => if m.tg == to then (k : Int) else fe0 to ms (k + 1)
theorem gN0 (ms : List GMove) (hl : ms.length < 1000000000) (to : Int) : Sat Tryz.prog 64 [slV (ms.map GMove.enc), .one (.clo 65 [.ip [.v (.int .i64 to)]])] (zG0 (fe0 to ms 0)) := by
 obtain ⟨r, hr⟩ : ∃ r, r = fe0 to ms 0 := ⟨_, rfl⟩
 rw [← hr]
 refine soc zF0 zB0 Tryz.func64 ?_
 refine fx0 ?_
 refine zC0 (ι := Nat) (fun i => mk 19 [(0, slV (ms.map GMove.enc)), (1, .one (.clo 65 [.ip [.v (.int .i64 to)]])), (7, zG0 ms.length), (8, zG0 i)] []) (fun i => i ≤ ms.length ∧ r = fe0 to (ms.drop i) i) (fun i => ms.length - i) 0 ⟨Nat.zero_le _, by simpa using hr⟩ ?_ zF0 zB0 (by decide +kernel) ?_
 ·exact lek
 ·rintro i ⟨hi, hr⟩
  rcases Nat.lt_or_ge i ms.length with hlt | hge
  ·have hg := zE0 (ec := GMove.enc) hlt
   rw [List.drop_eq_getElem_cons hlt] at hr
   simp only [fe0] at hr
   have hs := xO1 ms[i] to
   generalize ms[i] = m at hg hr hs
   obtain ⟨fr, tg, ru, ps⟩ := m
   simp only [GMove.enc, GRedex.enc, encI, encL, List.cons_append, List.nil_append] at hg hs hr
   refine pi0 ?_
   refine SelfK.mk hs rfl ?_
   refine yQ0 ?_
   refine ⟨fun h => ?_, fun h => ⟨i + 1, ⟨hlt, ?_⟩, by omega, lek⟩⟩
   ·rw [hr, if_pos (by simpa using h)]
   ·rw [hr, if_neg (by simpa using h)]
  ·have : i = ms.length := by omega
   subst this
   rw [List.drop_length] at hr
   simp only [fe0] at hr
   refine wy1 ?_
   exact hr.symm
abbrev rR (l : List GRedex) : List (List AC) := zA0 GRedex.enc l
def rv {α : Type} (d : α) (xs : List α) (i : Nat) : List α := (List.range xs.length).map fun j => if j < i ∨ xs.length ≤ j + i then xs.getD (xs.length - 1 - j) d else xs.getD j d
section
variable {α : Type} {d : α}
theorem bQ0 (xs : List α) (i : Nat) : (rv d xs i).length = xs.length := by simp [rv]
theorem bP0 (xs : List α) (i j : Nat) (h : j < (rv d xs i).length) : (rv d xs i)[j] = if j < i ∨ xs.length ≤ j + i then xs.getD (xs.length - 1 - j) d else xs.getD j d := by simp [rv]
theorem bD1 (xs : List α) : rv d xs 0 = xs := by
 refine List.ext_getElem (bQ0 xs 0) (fun j h1 h2 => ?_)
 rw [bP0, if_neg (by omega), List.getD_eq_getElem?_getD, List.getElem?_eq_getElem h2]; rfl
theorem cu1 (xs : List α) (i : Nat) (h : xs.length ≤ i + i + 1) : rv d xs i = xs.reverse := by
 refine List.ext_getElem (by rw [bQ0, List.length_reverse]) (fun j h1 h2 => ?_)
 rw [bQ0] at h1
 rw [bP0, List.getElem_reverse]
 split
 ·rw [List.getD_eq_getElem?_getD, List.getElem?_eq_getElem (by omega)]; rfl
 ·have e : xs.length - 1 - j = j := by omega
  simp only [e]
  rw [List.getD_eq_getElem?_getD, List.getElem?_eq_getElem h1]; rfl
theorem bC1 (xs : List α) (i : Nat) (h : i + i + 1 < xs.length) : ((rv d xs i).set i (xs.getD (xs.length - 1 - i) d)).set (xs.length - 1 - i) (xs.getD i d) = rv d xs (i + 1) := by
 refine List.ext_getElem (by simp [bQ0]) (fun j h1 h2 => ?_)
 rw [bQ0] at h2
 rw [bP0, List.getElem_set]
 split
 ·subst j; rw [if_pos (by omega)]; congr 1; omega
 ·rw [List.getElem_set]
  split
  ·subst i; rw [if_pos (by omega)]
  ·rw [bP0]
   by_cases c : j < i ∨ xs.length ≤ j + i
   ·rw [if_pos c, if_pos (by omega)]
   ·rw [if_neg c, if_neg (by omega)]
end
def zR : GRedex := ⟨0, []⟩
theorem kM1 (xs : List GRedex) (i : Nat) (h : i < xs.length) : (rR xs).getD i [] = [iC xs[i].ru, .c (.sl (xs[i].ps.map encI))] := by
 rw [ke0 h]; simp [GRedex.enc, encI, encL]
theorem cj1 (xs : List GRedex) (i : Nat) (x : GRedex) : (rR xs).set i [iC x.ru, .c (.sl (x.ps.map encI))] = rR (xs.set i x) := by
 simp [zA0, GRedex.enc, encI, encL, List.map_set]
theorem wX1 (xs : List GRedex) (hl : xs.length < 1000000000) : wB0 Tryz.prog 66 [.one (.own 0 xs.length)] [.arr 100 2 (rR xs) false] [.arr 100 2 (rR xs.reverse) false] (.tup []) := by
 refine sxv [] zF0 zB0 Tryz.func66 ?_
 simp -implicitDefEqProofs (disch := omega) only [go_sem, zH0]
 refine qB0 [] (ι := Nat) (fun i => mk 28 [(0, .one (.own 9000 xs.length)), (2, zG0 i), (3, zG0 (xs.length - 1 - i))] [(9000, .arr 100 2 (rR (rv zR xs i)) false)] [.one (.own 9000 xs.length)]) (fun i => i + i ≤ xs.length) (fun i => xs.length - i) 0 (Nat.zero_le _) ?_ zF0 zB0 (by decide +kernel) ?_
 ·have e0 := bD1 (d := zR) xs
  simp only [e0]
  exact lek
 ·intro i hi
  rcases Nat.lt_or_ge (i + i + 1) xs.length with hlt | hge
  ·have e1 : (xs.length : Int) - 1 - i = ((xs.length - 1 - i : Nat) : Int) := by omega
   have hst := bC1 (d := zR) xs i hlt
   have hln := bQ0 (d := zR) xs i
   have hq : i < xs.length - 1 - i := by omega
   have hq2 : xs.length - 1 - i < xs.length := by omega
   have hq3 : i < xs.length := by omega
   have hlo : (rR (rv zR xs i)).getD i [] = [iC (xs.getD i zR).ru, .c (.sl ((xs.getD i zR).ps.map encI))] := by
    rw [kM1 _ _ (by omega), bP0, if_neg (by omega)]
   have hhi : (rR (rv zR xs i)).getD (xs.length - 1 - i) [] = [iC (xs.getD (xs.length - 1 - i) zR).ru, .c (.sl ((xs.getD (xs.length - 1 - i) zR).ps.map encI))] := by
    rw [kM1 _ _ (by omega), bP0, if_neg (by omega)]
   have hhi2 : (rR ((rv zR xs i).set i (xs.getD (xs.length - 1 - i) zR))).getD (xs.length - 1 - i) [] = [iC (xs.getD (xs.length - 1 - i) zR).ru, .c (.sl ((xs.getD (xs.length - 1 - i) zR).ps.map encI))] := by
    rw [kM1 _ _ (by rw [List.length_set]; omega), List.getElem_set_ne (by omega), bP0, if_neg (by omega)]
   rw [e1]
   generalize xs.getD i zR = a at *
   generalize xs.getD (xs.length - 1 - i) zR = b at *
   simp -implicitDefEqProofs (disch := omega) only [go_sem, hlo, hhi, zH0, hln, cj1, List.length_set, hq, hq2, hq3, List.forall_mem_cons, List.not_mem_nil, hhi2, hst]
   refine ⟨i + 1, by omega, by omega, zM0 ?_ ?_⟩
   ·simp [go_sem]; omega
   ·simp [go_sem]
  ·have hno : ¬ ((i : Int) < xs.length - 1 - i) := by omega
   have hend := cu1 (d := zR) xs i (by omega)
   have hln := bQ0 (d := zR) xs i
   simp -implicitDefEqProofs (disch := omega) only [go_sem, zH0, hln, hno, hend, List.length_reverse]
   exact ⟨[], by simp, rfl, trivial⟩
def rM (l : List GRedex) : List (List AC) := l.map fun x => [iC x.ru, .m (.sl (x.ps.map encI))]
theorem ml1 (l : List GRedex) (lb : Lk) (e : TypeId) (sz : Nat) (fz : Bool) : inB lb (.arr e sz (rM l) fz) = True := by
 refine eq_true ?_
 intro r hr a ha
 obtain ⟨q, _, rfl⟩ := List.mem_map.1 hr
 simp only [List.mem_cons, List.not_mem_nil, or_false] at ha
 rcases ha with rfl | rfl <;> trivial
theorem ch1 (l : List GRedex) : (rM l).length = l.length := by simp [rM]
attribute [go_sem ↓] ml1
attribute [go_sem] ch1
theorem cg1 (l : List GRedex) : ∀ r, r ∈ rM l → ∀ x, x ∈ r → isO x = true := by
 intro r hr a ha
 obtain ⟨q, _, rfl⟩ := List.mem_map.1 hr
 simp only [List.mem_cons, List.not_mem_nil, or_false] at ha
 rcases ha with rfl | rfl <;> rfl
theorem ci1 (l : List GRedex) : (rM l).map (fun r => r.map toC) = l.map GRedex.enc := by
 simp [rM, GRedex.enc, encI, encL, toC]
theorem fr1 (l : List GRedex) (x : GRedex) : rM l ++ [[iC x.ru, .m (.sl (x.ps.map encI))]] = rM (l ++ [x]) := by simp [rM]
theorem fU0 (xs : List GRedex) (hl : xs.length < 1000000000) (hw : ∀ x, x ∈ xs → x.ps.length < 100000000) : SatF Tryz.prog 67 [slV (xs.map GRedex.enc)] (slV (xs.map GRedex.enc)) := by
 obtain ⟨r, hr⟩ : ∃ r, r = xs.map GRedex.enc := ⟨_, rfl⟩
 refine sfc [slV (xs.map GRedex.enc)] rfl (fun _ h => by cases h) zF0 zB0 Tryz.func67 ?_
 refine fx0 ?_
 refine zC0 (ι := Nat) (fun i => mk 23 [(3, .one (.own 9000 i)), (6, slV (xs.map GRedex.enc)), (7, zG0 xs.length), (8, zG0 i)] [(9000, .arr 100 2 (rM (xs.take i)) false)]) (fun i => i ≤ xs.length) (fun i => xs.length - i) 0 (Nat.zero_le _) ?_ zF0 zB0 (by decide +kernel) ?_
 ·refine (dV0 (t := 3) 9000 100 2 rfl (by decide) rfl (by decide)).trans ?_
  exact zM0 (by simp [go_sem]) (by simp [go_sem, rM])
 ·intro i hi
  rcases Nat.lt_or_ge i xs.length with hlt | hge
  ·have hg := zE0 (ec := GRedex.enc) hlt
   have hwx := hw _ (List.getElem_mem hlt)
   have htk : xs.take (i + 1) = xs.take i ++ [xs[i]] := by rw [List.take_add_one, List.getElem?_eq_getElem hlt]; rfl
   have hle : (xs.take i).length = i := by rw [List.length_take]; omega
   generalize hx : xs[i] = x at hg hwx htk
   obtain ⟨ru, ps⟩ := x
   simp only [GRedex.enc, encI, encL, List.cons_append, List.nil_append] at hg hwx
   have hcl := xs0 ps (by omega)
   simp -implicitDefEqProofs (disch := omega) only [go_sem, hg, hlt, List.length_map, hle]
   refine CallK.outN hcl rfl rfl ?_
   simp -implicitDefEqProofs (disch := omega) only [go_sem, hle]
   refine ⟨⟨by simp, by omega, by omega⟩, fun _ => ⟨i + 1, hlt, by omega, ?_⟩⟩
   refine (wv1 (l := 9000) (T := 17) (c := 1) rfl rfl rfl (by simp [zH0]) zb0 (kf1 _) (by decide) rowsOf_toC).trans ?_
   simp only [List.set_cons_succ, List.set_cons_zero]
   have e1 : rM (xs.take i) ++ [[iC ru, .m (.sl (ps.map encI))]] = rM (xs.take (i + 1)) := by rw [htk]; exact fr1 _ ⟨ru, ps⟩
   rw [e1]
   exact lek
  ·have : i = xs.length := by omega
   subst this
   simp -implicitDefEqProofs (disch := omega) only [go_sem, Nat.lt_irrefl, List.length_map, List.take_length]
   exact ⟨cg1 xs, ci1 xs⟩
end Go.Ai
/- Paths in a space, in the program and in the reference. -/
namespace Go.Ai
open Go.Proofs
set_option maxRecDepth 100000
def wZ0 (to : Int) : List GMove → Option GMove
 | [] => none
 | m :: ms => if m.tg == to then some m else wZ0 to ms
theorem ci0 (to : Int) : ∀ (ms : List GMove) (k : Nat), wZ0 to ms = none → fe0 to ms k = -1
 | [], _, _ => rfl
 | m :: ms, k, h => by
  simp only [wZ0] at h
  split at h
  ·cases h
  ·rename_i hc
   simp only [fe0, hc]
   exact ci0 to ms (k + 1) h
theorem cj0 (to : Int) : ∀ (ms : List GMove) (k : Nat) (m : GMove), wZ0 to ms = some m → ∃ j, fe0 to ms k = ((k + j : Nat) : Int) ∧ ∃ h : j < ms.length, ms[j] = m
 | [], _, _, h => by cases h
 | a :: ms, k, m, h => by
  simp only [wZ0] at h
  split at h
  ·rename_i hc
   cases h
   exact ⟨0, by simp [fe0, hc], by simp, rfl⟩
  ·rename_i hc
   obtain ⟨j, h1, h2, h3⟩ := cj0 to ms (k + 1) m h
   refine ⟨j + 1, ?_, by simpa using h2, by simpa using h3⟩
   simp only [fe0, hc]
   rw [if_neg (by simp), h1]
   congr 1; omega
theorem mf0 (to : Int) : ∀ (ms : List GMove) (m : GMove), wZ0 to ms = some m → m.tg = to ∧ m ∈ ms
 | [], _, h => by cases h
 | a :: ms, m, h => by
  simp only [wZ0] at h
  split at h
  ·rename_i hc; cases h; exact ⟨by simpa using hc, by simp⟩
  ·obtain ⟨h1, h2⟩ := mf0 to ms m h
   exact ⟨h1, by simp [h2]⟩
def back (ms : List GMove) : Nat → Int → Option (List GRedex)
 | 0, to => if to ≤ 0 then some [] else none
 | n + 1, to => if to ≤ 0 then some [] else match wZ0 to ms with
  | none => none
  | some m => if m.fr < 0 ∨ m.fr ≥ to then none else (back ms n m.fr).map (fun l => m.re :: l)
theorem df0 (ms : List GMove) (n : Nat) (to : Int) (h : to ≤ 0) : back ms n to = some [] := by cases n <;> simp [back, h]
theorem lS0 (ms : List GMove) (n : Nat) (to : Int) (h : 0 < to) (m : GMove) (hm : wZ0 to ms = some m) (hf : ¬ (m.fr < 0 ∨ m.fr ≥ to)) (hn : to.toNat ≤ n) : back ms n to = (back ms (n - 1) m.fr).map (fun l => m.re :: l) := by
 cases n with
 | zero => omega
 | succ n => simp only [back, if_neg (show ¬ to ≤ 0 by omega), hm, if_neg hf, Nat.add_sub_cancel]
theorem vX0 (ms : List GMove) (n : Nat) (to : Int) (h : 0 < to) (hm : ∀ m, wZ0 to ms = some m → m.fr < 0 ∨ m.fr ≥ to) : back ms n to = none := by
 cases n with
 | zero => simp only [back, if_neg (show ¬ to ≤ 0 by omega)]
 | succ n =>
  simp only [back, if_neg (show ¬ to ≤ 0 by omega)]
  cases hq : wZ0 to ms with
  | none => rfl
  | some m => simp only [if_pos (hm m hq)]
theorem fI0 (ms : List GMove) : ∀ (n k : Nat) (to : Int), to.toNat ≤ n → to.toNat ≤ k → back ms n to = back ms k to
 | n, k, to, hn, hk => by
  rcases Int.lt_or_le 0 to with h | h
  ·cases n with
   | zero => omega
   | succ n =>
    cases k with
    | zero => omega
    | succ k =>
     simp only [back, if_neg (show ¬ to ≤ 0 by omega)]
     cases wZ0 to ms with
     | none => rfl
     | some m =>
      simp only
      split
      ·rfl
      ·rw [fI0 ms n k m.fr (by omega) (by omega)]
  ·rw [df0 _ _ _ h, df0 _ _ _ h]
def vH0 (x : GSpace) (to : Int) : Option (List GRedex) := if 0 ≤ to ∧ to < x.te.length then back x.mo to.toNat to else none
def pk0 (acc : List GRedex) (q : Option (List GRedex)) : Option (List GRedex) := q.map fun l => (acc ++ l).reverse
def gW0 (q : Option (List GRedex)) : List GRedex := q.getD []
theorem cA0 (x : GSpace) (hxl : x.te.length < 1000000000) (hml : x.mo.length < 1000000000) (hw : ∀ m, m ∈ x.mo → m.re.ps.length < 100000000) (to : Int) :
  SatF Tryz.prog 15 [zv0 x.enc, zG0 to] (.tup [slV ((gW0 (pk0 [] (vH0 x to))).map GRedex.enc), boolV (pk0 [] (vH0 x to)).isSome]) := by
 obtain ⟨r, hr⟩ : ∃ r, r = pk0 [] (vH0 x to) := ⟨_, rfl⟩
 rw [← hr]
 unfold vH0 at hr
 have hde : x.enc = [.sl (x.te.map Tm.enc), .sl (x.mo.map GMove.enc), .v (.bool x.fu)] := rfl
 refine sfc [slV ((gW0 r).map GRedex.enc), boolV r.isSome] rfl (fun _ h => by cases h; rfl) zF0 zB0 Tryz.func15 ?_
 simp -implicitDefEqProofs only [go_sem, hde, List.length_map]
 have hno : (to < 0 ∨ to ≥ (x.te.length : Int)) → r = none := by
  intro h
  rw [hr, if_neg (by omega)]; rfl
 refine ⟨fun h1 => ⟨fun h2 => ?_, fun h2 => ?_⟩, fun h1 => ?_⟩
 ·rw [hno (.inr h2)]; simp [go_sem, gW0]
 ·rw [if_pos (by omega)] at hr
  clear hno
  refine zC0 (ι := Int × List GRedex) (fun q => mk 63 [(2, .one (.ptr 2 0)), (3, .one (.ptr 3 0)), (6, .one (.own 9000 q.2.length))] [(2, .var [.c (.sl (x.te.map Tm.enc)), .c (.sl (x.mo.map GMove.enc)), .c (.v (.bool x.fu))]), (3, .var [iC q.1]), (9000, .arr 100 2 (rR q.2) false)])
   (fun q => 0 ≤ q.1 ∧ q.2.length + q.1.toNat ≤ to.toNat ∧ r = pk0 q.2 (back x.mo q.1.toNat q.1) ∧ ∀ y, y ∈ q.2 → y.ps.length < 100000000) (fun q => q.1.toNat) (to, []) ⟨by simp only; omega, by simp, hr, fun _ h => by cases h⟩ ?_ zF0 zB0 (by decide +kernel) ?_
  ·refine (dV0 (t := 6) 9000 100 2 rfl (by decide) rfl (by decide)).trans ?_
   exact zM0 (by simp [go_sem]) (by simp [go_sem, zA0])
  ·rintro ⟨t, acc⟩ ⟨ht0, hal, hr, hac⟩
   simp only at ht0 hal hr hac
   have hix := gN0 x.mo hml t
   rcases Int.lt_or_le 0 t with htp | htz
   ·cases hm : wZ0 t x.mo with
    | none =>
     have hrn : r = none := by
      rw [hr, vX0 _ _ _ htp (fun m h => by rw [hm] at h; cases h)]; rfl
     rw [ci0 t x.mo 0 hm] at hix
     simp -implicitDefEqProofs only [go_sem, htp, hde, List.length_map]
     refine CloK.mk hix rfl trivial (by simp [go_sem]) rfl ?_
     simp -implicitDefEqProofs only [go_sem, hde, List.length_map]
     rw [hrn]; simp [go_sem, gW0]
    | some m =>
     obtain ⟨j, e, hj, hm2⟩ := cj0 t x.mo 0 m hm
     rw [e, Nat.zero_add] at hix
     have hg := zE0 (ec := GMove.enc) hj
     have hwm := hw _ (List.getElem_mem hj)
     rw [hm2] at hg hwm
     have hst : ¬ (m.fr < 0 ∨ m.fr ≥ t) → r = pk0 (acc ++ [m.re]) (back x.mo m.fr.toNat m.fr) := by
      intro h
      rw [hr, lS0 _ _ _ htp m hm h (Nat.le_refl _), fI0 x.mo (t.toNat - 1) m.fr.toNat m.fr (by omega) (by omega)]
      cases back x.mo m.fr.toNat m.fr <;> simp [pk0]
     have hrn : (m.fr < 0 ∨ m.fr ≥ t) → r = none := by
      intro h
      rw [hr, vX0 _ _ _ htp (fun m' h' => by rw [hm] at h'; cases h'; exact h)]; rfl
     have hsn : zA0 GRedex.enc acc ++ [m.re.enc.map .c] = rR (acc ++ [m.re]) := zo0 (ec := GRedex.enc) m.re
     obtain ⟨fr, tg, ru, ps⟩ := m
     simp only [GMove.enc, GRedex.enc, encI, encL, List.cons_append, List.nil_append, List.map_cons, List.map_nil] at hg hst hrn hwm hsn
     simp -implicitDefEqProofs only [go_sem, htp, hde, List.length_map]
     refine CloK.mk hix rfl trivial (by simp [go_sem]) rfl ?_
     simp -implicitDefEqProofs only [go_sem, hde, List.length_map, hg, hj]
     refine ⟨fun h3 => ⟨fun h4 => ?_, fun h4 => ⟨⟨by simp, by omega, by omega⟩, fun _ => ⟨(fr, acc ++ [⟨ru, ps⟩]), ⟨by simp only; omega, by simp; omega, hst (by omega), fun y hy => ?_⟩, by simp only; omega, ?_⟩⟩⟩, fun h3 => ?_⟩
     ·rw [hrn (.inr h4)]; simp [go_sem, gW0]
     ·rcases List.mem_append.1 hy with hy | hy
      ·exact hac y hy
      ·rw [List.mem_singleton.1 hy]; exact hwm
     ·rw [hsn]
      exact lek
     ·rw [hrn (.inl h3)]; simp [go_sem, gW0]
   ·have htz' : ¬ (t > 0) := by omega
    rw [df0 _ _ _ htz] at hr
    have hrr : r = some acc.reverse := by rw [hr]; simp [pk0]
    have hrv := wX1 acc (by omega)
    have hcp := fU0 acc.reverse (by simp; omega) (fun y hy => hac y (List.mem_reverse.1 hy))
    simp -implicitDefEqProofs only [go_sem, htz', hde, List.length_map]
    refine CallK.con [9000] [] rfl hrv (by simp [go_sem]) ?_
    simp -implicitDefEqProofs only [go_sem, htz', hde, List.length_map, List.length_reverse]
    refine CallK.own hcp rfl ?_
    simp -implicitDefEqProofs only [go_sem, htz', hde, List.length_map]
    rw [hrr]; simp [go_sem, gW0]
 ·rw [hno (.inl h1)]; simp [go_sem, gW0]
theorem cI0 (x : GSpace) (hxl : x.te.length < 1000000000) (hml : x.mo.length < 1000000000) (hw : ∀ m, m ∈ x.mo → m.re.ps.length < 100000000) (to : Int) :
  Sat Tryz.prog 39 [zv0 x.enc, zG0 to] (.tup [slV ((gW0 (pk0 [] (vH0 x to))).map GRedex.enc), boolV (pk0 [] (vH0 x to)).isSome]) := by
 obtain ⟨r, hr⟩ : ∃ r, r = pk0 [] (vH0 x to) := ⟨_, rfl⟩
 rw [← hr]
 unfold vH0 at hr
 have hin := qw0 to 0 ((x.te.length : Int) - 1)
 have hde : x.enc = [.sl (x.te.map Tm.enc), .sl (x.mo.map GMove.enc), .v (.bool x.fu)] := rfl
 refine nI0 [(11, [⟨0, 7, [8], [63, 66]⟩, ⟨1, 7, [60], [63, 66]⟩, ⟨2, 7, [61], [63, 66]⟩])] zF0 zB0 Tryz.func39 rfl rfl rfl (by decide +kernel) (by decide +kernel) (Nat.le_of_ble_eq_true rfl) ?_
 refine sk1 ?_
 refine CallK.mk hin ?_
 refine sk1 ?_
 refine ⟨fun h => ?_, fun h => ?_⟩
 ·have : r = none := by
   rw [hr, if_neg (by simp at h; omega)]; rfl
  rw [this]; rfl
 ·rw [if_pos (by simp at h; omega)] at hr
  have hto : 0 ≤ to := by simp at h; omega
  have hto2 : to < x.te.length := by simp at h; omega
  refine cq0 [(11, [⟨0, 7, [8], [63, 66]⟩, ⟨1, 7, [60], [63, 66]⟩, ⟨2, 7, [61], [63, 66]⟩])] (ι := Int × List GRedex) (fun q => mk 75 [(1, zG0 q.1), (2, .one (.ptr 2 0)), (6, slV (q.2.reverse.map GRedex.enc))] [(2, .var [.c (.sl (x.te.map Tm.enc)), .c (.sl (x.mo.map GMove.enc)), .c (.v (.bool x.fu))])])
   (fun q => 0 ≤ q.1 ∧ q.2.length + q.1.toNat ≤ to.toNat ∧ r = pk0 q.2 (back x.mo q.1.toNat q.1)) (fun q => q.1.toNat) (to, []) ⟨by simp only; omega, by simp, hr⟩ ?_ zF0 zB0 (by decide +kernel) ?_
  ·refine (xq0 (t := 6) (l := 9) rfl rfl rfl (by decide) (rows' := []) rfl).trans ?_
   exact lek
  ·rintro ⟨t, acc⟩ ⟨ht0, hal, hr⟩
   simp only at ht0 hal hr
   rcases Int.lt_or_le 0 t with htp | htz
   ·simp -implicitDefEqProofs (disch := omega) only [go_sem, htp, hde, List.length_map]
    refine cq0 [(11, [⟨0, 7, [8], [63, 66]⟩, ⟨1, 7, [60], [63, 66]⟩, ⟨2, 7, [61], [63, 66]⟩])] (ι := Nat) (fun i => mk 75 [(1, zG0 t), (2, .one (.ptr 2 0)), (6, slV (acc.reverse.map GRedex.enc)), (7, zG0 i)] [(2, .var [.c (.sl (x.te.map Tm.enc)), .c (.sl (x.mo.map GMove.enc)), .c (.v (.bool x.fu))])])
     (fun i => i ≤ x.mo.length ∧ wZ0 t x.mo = wZ0 t (x.mo.drop i)) (fun i => x.mo.length - i) 0 ⟨Nat.zero_le _, rfl⟩ ?_ zF0 zB0 (by decide +kernel) ?_
    ·exact lek
    ·rintro i ⟨hi, hmv⟩
     rcases Nat.lt_or_ge i x.mo.length with hlt | hge
     ·have hg := zE0 (ec := GMove.enc) hlt
      rw [List.drop_eq_getElem_cons hlt] at hmv
      simp only [wZ0] at hmv
      have hwm := hw _ (List.getElem_mem hlt)
      generalize x.mo[i] = m at hg hmv hwm
      obtain ⟨fr, tg, ru, ps⟩ := m
      simp only [GMove.enc, GRedex.enc, encI, encL, List.cons_append, List.nil_append] at hg hmv hwm
      have hfr := qw0 fr 0 (t - 1)
      refine mc1 ?_
      refine ⟨fun h => ⟨i + 1, ⟨hlt, by rw [hmv, if_neg (by simpa using h)]⟩, by omega, lek⟩, fun h => ⟨fun h2 => CallK.mk hfr ?_, fun h2 => by omega⟩⟩
      have hm : wZ0 t x.mo = some ⟨fr, tg, ru, ps⟩ := by rw [hmv, if_pos (by simpa using h)]
      have hst : ¬ (fr < 0 ∨ fr ≥ t) → r = pk0 (acc ++ [⟨ru, ps⟩]) (back x.mo fr.toNat fr) := by
       intro h
       rw [hr, lS0 _ _ _ htp _ hm h (Nat.le_refl _), fI0 x.mo (t.toNat - 1) fr.toNat fr (by omega) (by omega)]
       cases back x.mo fr.toNat fr <;> simp [pk0]
      have hrn : (fr < 0 ∨ fr ≥ t) → r = none := by
       intro h
       rw [hr, vX0 _ _ _ htp (fun m' h' => by rw [hm] at h'; cases h'; exact h)]; rfl
      refine mc1 ?_
      refine ⟨fun h3 => ?_, fun h3 => ⟨⟨wt0 (fun _ => rfl), by omega, by omega⟩, fun _ => ⟨⟨wt0 GRedex.enc_len, by simp; omega, by simp; omega⟩, fun _ => ⟨(fr, acc ++ [⟨ru, ps⟩]), ⟨?_, ?_, hst ?_⟩, ?_, ?_⟩⟩⟩⟩
      ·have : fr < 0 ∨ fr ≥ t := by simp at h3; omega
       rw [hrn this]; rfl
      ·simp at h3 ⊢; omega
      ·simp at h3 ⊢; omega
      ·simp at h3; omega
      ·simp at h3 ⊢; omega
      ·refine (wM0 (l := 69) (T := 63) (i := 0) (c := 1) (y := ps.map encI) rfl (by simp) rfl rfl (by simp [zH0]) wH0 (by decide)).trans ?_
       simp only [List.set_cons_zero, List.getD_cons_zero, List.set_cons_succ, List.cons_append, List.nil_append]
       have e1 : ([iC ru, .c (.sl (ps.map encI))] :: zA0 GRedex.enc acc.reverse) = zA0 GRedex.enc (⟨ru, ps⟩ :: acc.reverse) := rfl
       rw [e1]
       refine (xq0 (t := 6) (l := 69) (rows' := (⟨ru, ps⟩ :: acc.reverse : List GRedex).map GRedex.enc) rfl rfl (by simp [zH0]; omega) (by decide) wH0).trans ?_
       exact lek
     ·have : i = x.mo.length := by omega
      subst this
      rw [List.drop_length] at hmv
      simp only [wZ0] at hmv
      have hrn : r = none := by
       rw [hr, vX0 _ _ _ htp (fun m h => by rw [hmv] at h; cases h)]; rfl
      simp -implicitDefEqProofs (disch := omega) only [go_sem, Nat.lt_irrefl, List.length_map, hde]
      rw [hrn]; rfl
   ·have htz' : ¬ (t > 0) := by omega
    rw [df0 _ _ _ htz] at hr
    have hrr : r = some acc.reverse := by rw [hr]; simp [pk0]
    simp -implicitDefEqProofs (disch := omega) only [go_sem, htz', hde, List.length_map]
    rw [hrr]; rfl
end Go.Ai
/- FnConfluent. -/
namespace Go.Ai
open Go.Proofs
set_option maxRecDepth 100000
theorem gT0 (p : Tm → Bool) : ∀ (ts : List Tm) (i : Nat) (n : Int), n ∈ jC0 p ts i → (i : Int) ≤ n
 | [], _, _, h => by cases h
 | t :: ts, i, n, h => by
  simp only [jC0] at h
  split at h
  ·rcases List.mem_cons.1 h with rfl | h
   ·exact Int.le_refl _
   ·have := gT0 p ts (i + 1) n h; omega
  ·have := gT0 p ts (i + 1) n h; omega
theorem sN0 (p : Tm → Bool) : ∀ (ts : List Tm) (i : Nat), (jC0 p ts i).Pairwise (· < ·)
 | [], _ => List.Pairwise.nil
 | t :: ts, i => by
  simp only [jC0]
  split
  ·exact List.pairwise_cons.2 ⟨fun n hn => by have := gT0 p ts (i + 1) n hn; omega, sN0 p ts (i + 1)⟩
  ·exact sN0 p ts (i + 1)
theorem mk1 (xs : List Int) (h : xs.Pairwise (· < ·)) (i : Nat) (h0 : 0 < i) (hi : i < xs.length) : xs.getD (i - 1) 0 < xs.getD i 0 := by
 have h1 : i - 1 < xs.length := by omega
 rw [List.getD_eq_getElem?_getD, List.getD_eq_getElem?_getD, List.getElem?_eq_getElem h1, List.getElem?_eq_getElem hi]
 exact List.pairwise_iff_getElem.1 h (i - 1) i h1 hi (by omega)
theorem ty0 (p : Tm → Bool) : ∀ (ts : List Tm) (i j : Nat) (v : Tm), ts[j]? = some v → p v = true → ((i + j : Nat) : Int) ∈ jC0 p ts i
 | [], _, _, _, h, _ => by simp at h
 | t :: ts, i, 0, v, h, hp => by
  simp only [List.getElem?_cons_zero, Option.some.injEq] at h
  subst h
  simp only [jC0, hp, if_true, Nat.add_zero]
  exact List.mem_cons_self
 | t :: ts, i, j + 1, v, h, hp => by
  have := ty0 p ts (i + 1) j v (by simpa using h) hp
  rw [show i + 1 + j = i + (j + 1) by omega] at this
  simp only [jC0]
  split
  ·exact List.mem_cons_of_mem _ this
  ·exact this
theorem vw1 (d : GDefinition) (hw : d.wf) (t : Tm) (x : GSpace) (h : Done d t x) (hf : x.fu = true) (hl : (jC0 (yP0 d) x.te 0).length ≤ 1) (n : Nat) :
  (gj0 d n t 0).1 ≠ 1 ∨ ∃ i : Nat, jC0 (yP0 d) x.te 0 = [(i : Int)] ∧ x.te[i]? = some (gj0 d n t 0).2.1 := by
 by_cases hr : (gj0 d n t 0).1 = 1
 ·right
  obtain ⟨h1, h2⟩ := ct1 d hw t x h hf n t 0 (List.mem_of_getElem? h.first) hr
  obtain ⟨i, hi, e⟩ := List.mem_iff_getElem.1 h1
  have hi2 : x.te[i]? = some (gj0 d n t 0).2.1 := by rw [List.getElem?_eq_getElem hi, e]
  have hm := ty0 (yP0 d) x.te 0 i _ hi2 (by unfold yP0; rw [h.cfg _ h1, h2]; rfl)
  refine ⟨i, ?_, hi2⟩
  rw [Nat.zero_add] at hm
  match hq : jC0 (yP0 d) x.te 0 with
  | [] => rw [hq] at hm; cases hm
  | [a] => rw [hq] at hm; rw [List.mem_singleton.1 hm]
  | a :: b :: l => rw [hq] at hl; simp at hl
 ·exact .inl hr
theorem cQ0 (ms : List GMove) : ∀ (n : Nat) (to : Int) (l : List GRedex), back ms n to = some l → l.length ≤ n ∧ ∀ y, y ∈ l → ∃ m, m ∈ ms ∧ y = m.re
 | 0, to, l, h => by
  simp only [back] at h
  split at h
  ·cases h; exact ⟨Nat.le_refl _, fun _ h => by cases h⟩
  ·cases h
 | n + 1, to, l, h => by
  simp only [back] at h
  split at h
  ·cases h; exact ⟨Nat.zero_le _, fun _ h => by cases h⟩
  ·cases hm : wZ0 to ms with
   | none => rw [hm] at h; cases h
   | some m =>
    rw [hm] at h
    simp only at h
    split at h
    ·cases h
    ·cases hb : back ms n m.fr with
     | none => rw [hb] at h; cases h
     | some l' =>
      rw [hb] at h
      cases h
      obtain ⟨h1, h2⟩ := cQ0 ms n m.fr l' hb
      refine ⟨by simp only [List.length_cons]; omega, fun y hy => ?_⟩
      rcases List.mem_cons.1 hy with rfl | hy
      ·exact ⟨m, (mf0 to ms m hm).2, rfl⟩
      ·exact h2 y hy
theorem qy1 (x : GSpace) (to : Int) : (gW0 (pk0 [] (vH0 x to))).length ≤ x.te.length ∧ ∀ y, y ∈ gW0 (pk0 [] (vH0 x to)) → ∃ m, m ∈ x.mo ∧ y = m.re := by
 unfold vH0
 split
 ·cases hb : back x.mo to.toNat to with
  | none => exact ⟨by simp [pk0, gW0], fun y hy => by simp [pk0, gW0] at hy⟩
  | some l =>
   obtain ⟨h1, h2⟩ := cQ0 x.mo to.toNat to l hb
   simp only [pk0, gW0, Option.map_some, Option.getD_some, List.nil_append, List.length_reverse, List.mem_reverse]
   exact ⟨by omega, h2⟩
 ·exact ⟨by simp [pk0, gW0], fun y hy => by simp [pk0, gW0] at hy⟩
theorem xK1 (d : GDefinition) (t : Tm) (h : jk0 d t) : t.wf ∧ t.size < 30000000 := ⟨h.1.2.2, by have := h.1.1; omega⟩
theorem ph0 (bs : List Int) (hb : ∀ x, x ∈ bs → 0 ≤ x ∧ x ≤ 255) : Sat Tryz.prog 6 [slV (bs.map xJ0)] (boolV true) := by
 have hbig := sE0 bs _ rfl
 refine soc zF0 zB0 Tryz.func6 ?_
 refine zY0 ?_
 refine CallK.mk hbig ?_
 by_cases hl : 1048576 < bs.length
 ·rw [decide_eq_true hl]
  simp -implicitDefEqProofs only [go_sem]
 rw [decide_eq_false hl]
 have hok : wN0 bs := ⟨by omega, hb⟩
 obtain ⟨d, t, x, gd, gt, gx, hd⟩ := vT0 bs hok
 obtain ⟨e, u, y, to, ge, gu, gy, he⟩ := dW0 bs hok
 have gts := gt.2
 have hds : d.size < 1048577 := by have := gd.2; omega
 have hsp : ∀ (d : GDefinition) (t : Tm) (x : GSpace), d.wf → t.wf → cz1 d t x → x.te.length ≤ 40 ∧ ∀ v, v ∈ x.te → v.wf ∧ v.size < 30000000 := fun d t x hw htw h => by
  rw [h.1]
  cases hcf : yr0 d t with
  | true =>
   have hD := yy0 d hw t htw hcf
   exact ⟨hD.len, fun v hv => xK1 d v (hD.good v hv)⟩
  | false => unfold zw0; rw [if_neg (by rw [hcf]; decide)]; exact ⟨by simp [vg0], fun v hv => by simp [vg0] at hv⟩
 obtain ⟨x40, xte⟩ := hsp d t x gd.1 gt.1 gx
 obtain ⟨y40, _⟩ := hsp e u y ge.1 gu.1 gy
 have h1 := (yN0 d gd.1 hds x (by omega) xte).sat
 have h2 := xN0 d gd.1 hds x (by omega) xte
 have h3 := xi0 d gd.1 hds x (by omega) xte
 have h4 := yp0 d gd.1 hds x (by omega) xte
 have hnl := kd0 (yP0 d) x.te 0
 have h5 := xy0 (jC0 (yP0 d) x.te 0) (by omega)
 have h6 := cB0 (jC0 (yP0 d) x.te 0) (by omega) (mk1 _ (sN0 (yP0 d) x.te 0))
 have hyp : ∀ m, m ∈ y.mo → m.re.ps.length < 100000000 := fun m hm => by have := gy.2.2.2 m hm; omega
 have h7 := (cA0 y (by omega) (by have := gy.2.2.1; omega) hyp to).sat
 have h8 := cI0 y (by omega) (by have := gy.2.2.1; omega) hyp to
 have h9 : Sat Tryz.prog 40 [slV ((gW0 (pk0 [] (vH0 y to))).map GRedex.enc), slV ((gW0 (pk0 [] (vH0 y to))).map GRedex.enc)] (boolV true) := by
  obtain ⟨p1, p2⟩ := qy1 y to
  refine vE0 _ (by omega) (fun r hr => ?_)
  obtain ⟨m, hm, e⟩ := p2 r hr
  rw [e]; exact hyp m hm
 generalize gW0 (pk0 [] (vH0 y to)) = P at h7 h8 h9
 generalize (pk0 [] (vH0 y to)).isSome = pb at h7 h8
 have hfin : (x.fu && decide ((jC0 (yP0 d) x.te 0).length ≤ 1)) = true → x.te.length ≠ 0 → ∃ (w : Tm) (R : Int × Tm × Nat), x.te[0]? = some w ∧ w.wf ∧ Sat Tryz.prog 30 [zv0 d.enc, tmV w, zG0 200] (zv0 ([.v (.int .i64 R.1)] ++ R.2.1.enc ++ [.v (.int .i64 (R.2.2 : Nat))])) ∧ (R.1 ≠ 1 ∨ ∃ i : Nat, jC0 (yP0 d) x.te 0 = [(i : Int)] ∧ x.te[i]? = some R.2.1) := fun ho hne => by
  rw [Bool.and_eq_true, decide_eq_true_eq] at ho
  cases hcf : yr0 d t with
  | true =>
   have hD := yy0 d gd.1 t gt.1 hcf
   have hr := bc0 d gd.1 hds t gt.1 (by omega) hcf 200 (by decide)
   refine ⟨t, gj0 d 200 t 0, by rw [gx.1]; exact hD.first, gt.1, hr, ?_⟩
   have := vw1 d gd.1 t (zw0 d t) hD (by rw [← gx.2.1]; exact ho.1) (by rw [← gx.1]; exact ho.2) 200
   rwa [← gx.1] at this
  | false =>
   exfalso
   apply hne
   rw [gx.1]; unfold zw0; rw [if_neg (by rw [hcf]; decide)]; rfl
 clear hsp hnl gx gy hyp
 generalize jC0 (yP0 d) x.te 0 = NF at h1 h2 h3 h4 h5 h6 hfin
 obtain ⟨⟨dso, dop⟩, dru, dst⟩ := d
 obtain ⟨te, mo, fu⟩ := x
 obtain ⟨yte, ymo, yfu⟩ := y
 simp only at hfin h2 h3
 generalize hcb : (fu && decide (NF.length ≤ 1)) = cb at h2 h3 hfin
 refine zY0 ?_
 refine CallK.mk hd ?_
 refine zD2 ?_
 refine c3' h1 ?_
 refine c3' h2 ?_
 refine c3' h3 ?_
 refine c3' h4 ?_
 refine c3' h5 ?_
 refine c3' h6 ?_
 refine CallK.mk he ?_
 simp -implicitDefEqProofs only [go_sem, spaceEnc]
 refine c3' h7 ?_
 refine c3' h8 ?_
 refine CallK.mk h9 ?_
 refine qp1 ?_
 intro hcb1 hte
 have hne : te.length ≠ 0 := by simpa using hte
 have hpos : 0 < te.length := by omega
 obtain ⟨w, ⟨Rs, ⟨Rk, Rn, Rz, Ra⟩, Rc⟩, hw0, hww, hrun, hend⟩ := hfin hcb1 hne
 have hg0 : (te.map Tm.enc).getD 0 [] = w.enc := by
  rw [List.getD_eq_getElem?_getD, List.getElem?_map, hw0]; rfl
 obtain ⟨wk, wn, wz, wa⟩ := w
 rw [hg0]
 refine ⟨⟨by omega, rfl⟩, fun _ => ⟨Nat.le_refl _, fun _ => ?_⟩⟩
 refine CallK.mk hrun ?_
 simp only at hend
 rcases hend with hne1 | ⟨i, rfl, hi⟩
 ·simp -implicitDefEqProofs only [go_sem, Tm.enc, List.length_map]
  intro h
  exact absurd (by simpa using h) hne1
 ·have hil : i < te.length := (List.getElem?_eq_some_iff.1 hi).1
  have hgi : (te.map Tm.enc).getD i [] = (Tm.mk Rk Rn Rz Ra).enc := by
   rw [List.getD_eq_getElem?_getD, List.getElem?_map, hi]; rfl
  have hq := qi0 (.mk Rk Rn Rz Ra) (xte _ (List.mem_of_getElem? hi)).1 (.mk Rk Rn Rz Ra)
  rw [Tm.eqb_refl] at hq
  simp only [Tm.enc] at hgi
  have hil2 : (i : Int) < (te.length : Int) := by omega
  simp -implicitDefEqProofs only [go_sem, Tm.enc, List.length_map, encI, hgi, hil]
  refine fun _ => ⟨fun _ => ⟨by omega, fun _ => CallK.mk hq ?_⟩, fun h => by simp at h⟩
  simp -implicitDefEqProofs only [go_sem]
end Go.Ai
