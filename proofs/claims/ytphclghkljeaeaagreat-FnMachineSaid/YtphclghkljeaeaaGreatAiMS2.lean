/- Runs of machines: they end. -/
import Derived.Test.YtphclghkljeaeaaGreatAiZ9
import Derived.Test.YtphclghkljeaeaaGreatAiRow2
import Derived.Test.YtphclghkljeaeaaGreatAiSP4
import Derived.Test.YtphclghkljeaeaaGreatAiPR3
set_option linter.unusedVariables false
set_option linter.unusedSimpArgs false
namespace Go.Ai
open Go.Proofs
set_option maxRecDepth 100000
def dJ1 (ws : List Nat) : List Int → Nat
 | [] => 0
 | x :: xs => 1 + ws.getD x.toNat 0 + dJ1 ws xs
mutual
def Tm.wrk (st : List GStrict) : Tm → Nat
 | .mk k _ s ts => 1 + dJ1 (Tm.wrks st ts) (if k = 2 then zD0 st s else [])
def Tm.wrks (st : List GStrict) : List Tm → List Nat
 | [] => []
 | a :: ts => a.wrk st :: Tm.wrks st ts
end
theorem tu0 (st : List GStrict) : ∀ (ts : List Tm), Tm.wrks st ts = ts.map (Tm.wrk st)
 | [] => rfl
 | a :: ts => by simp [Tm.wrks, tu0 st ts]
def wkT (st : List GStrict) (nx : Int) : Tm → Nat
 | .mk k _ s ts => 1 + dJ1 (Tm.wrks st ts) ((if k = 2 then zD0 st s else []).drop nx.toNat)
theorem xa1 (st : List GStrict) (t : Tm) : wkT st 0 t = t.wrk st := by
 obtain ⟨k, n, s, ts⟩ := t
 simp [wkT, Tm.wrk]
def wkM (d : GDefinition) : Tm → Int → List GFrame → Nat
 | u, nx, [] => wkT d.st nx u
 | u, nx, f :: fs => wkT d.st nx u + match qH0 d f u with
  | some v => wkM d v (f.nx + 1) fs
  | none => 0
def ma1 (d : GDefinition) (u : Tm) : List GFrame → Nat
 | [] => 0
 | f :: fs => match qH0 d f u with
  | some v => wkM d v (f.nx + 1) fs
  | none => 0
theorem pD1 (d : GDefinition) (u : Tm) (nx : Int) : ∀ (fs : List GFrame), wkM d u nx fs = wkT d.st nx u + ma1 d u fs
 | [] => rfl
 | f :: fs => rfl
def wkG (d : GDefinition) (m : GMachine) : Nat := wkM d m.fo m.nx m.st.reverse
theorem jL1 (d : GDefinition) (m m' : GMachine) (h : zy0 d m = some m') : m'.rw = IntKind.i64.wrap (m.rw + 1) ∨ (m'.rw = m.rw ∧ wkG d m' < wkG d m) := by
 obtain ⟨⟨k, n, s, ts⟩, nx, fs, rw_⟩ := m
 unfold zy0 at h
 by_cases hh : 0 ≤ ze0 d ⟨.mk k n s ts, nx⟩
 ·simp only [if_pos hh] at h
  cases h
  refine .inr ⟨rfl, ?_⟩
  rcases qA0 (if k = 2 then zD0 d.st s else []) nx ts.length with h | ⟨i, j, rfl, hi, hij, hj, h⟩
  ·simp only [ze0] at hh; omega
  have hjj : ze0 d ⟨.mk k n s ts, (i : Int)⟩ = (j : Int) := h
  have e1 : ts.getD j zeroT = ts[j] := by rw [List.getD_eq_getElem?_getD, List.getElem?_eq_getElem hj, Option.getD_some]
  have hfb : qH0 d ⟨.mk k n s ts, (i : Int)⟩ ts[j] = some (.mk k n s ts) := by
   unfold qH0 kD0
   rw [hjj, if_neg (by omega)]
   simp [gS0]
  simp only [wkG, Tm.args, List.reverse_append, List.reverse_cons, List.reverse_nil, List.nil_append, List.singleton_append]
  rw [hjj, Int.toNat_natCast, e1]
  simp only [wkM, hfb]
  rw [pD1, pD1 d (.mk k n s ts) (i : Int), xa1]
  simp only [wkT]
  have ei : ((i : Int) + 1).toNat = i + 1 := by omega
  rw [ei, Int.toNat_natCast, List.drop_eq_getElem_cons hi]
  simp only [dJ1]
  have hxi : (if k = 2 then zD0 d.st s else [])[i] = (j : Int) := by rw [← hij, List.getD_eq_getElem?_getD, List.getElem?_eq_getElem hi, Option.getD_some]
  rw [hxi, Int.toNat_natCast, tu0]
  have : (ts.map (Tm.wrk d.st)).getD j 0 = ts[j].wrk d.st := by simp [List.getD, hj]
  rw [this]
  omega
 ·simp only [if_neg hh] at h
  by_cases hro : 0 ≤ rootF d (.mk k n s ts)
  ·simp only [if_pos hro] at h
   cases h
   exact .inl rfl
  ·simp only [if_neg hro] at h
   rcases List.eq_nil_or_concat fs with rfl | ⟨gs, f, rfl⟩
   ·simp at h
   ·rw [List.concat_eq_append] at h ⊢
    simp only [List.getLast?_append, List.getLast?_singleton, Option.some_or, List.dropLast_concat] at h
    cases hf : qH0 d f (.mk k n s ts) with
    | none => rw [hf] at h; cases h
    | some u =>
     rw [hf] at h
     cases h
     refine .inr ⟨rfl, ?_⟩
     simp only [wkG, List.reverse_append, List.reverse_cons, List.reverse_nil, List.nil_append, List.singleton_append]
     simp only [wkM, hf]
     have : 0 < wkT d.st nx (.mk k n s ts) := by simp only [wkT]; omega
     omega
theorem tP0 (d : GDefinition) : ∀ (fs : List GFrame) (t u : Tm), jC0 d t fs = some u → t.size + fs.length ≤ u.size
 | [], t, u, h => by cases h; simp
 | f :: fs, t, u, h => by
  simp only [jC0] at h
  cases hq : qH0 d f t with
  | none => rw [hq] at h; cases h
  | some v =>
   rw [hq] at h
   have ih := tP0 d fs v u h
   have : t.size < v.size := by
    obtain ⟨⟨k, n, s, ts⟩, nx⟩ := f
    unfold qH0 kD0 at hq
    split at hq
    ·cases hq
    ·rename_i hn
     cases hq
     simp only [ze0] at hn ⊢
     rcases qA0 (if k = 2 then zD0 d.st s else []) nx ts.length with h | ⟨i, j, _, _, _, hj, h⟩
     ·rw [h] at hn; omega
     ·rw [h]
      simp only [gS0, Int.toNat_natCast, Tm.size]
      have := zQ0 (ts.set j t) t (List.mem_set hj t)
      omega
   simp only [List.length_cons]; omega
def pZ0 (d : GDefinition) (m : GMachine) : Prop := m.wf ∧ m.fo.size < 540 ∧ m.st.length < 540 ∧ ∀ f, f ∈ m.st → f.t.size < 540
theorem kR1 {α : Type} (sz : α → Nat) (k : Nat) : ∀ (xs : List α), (∀ x, x ∈ xs → sz x ≤ k) → szL sz xs ≤ (k + 1) * xs.length
 | [], _ => by simp [szL]
 | a :: xs, h => by
  have h1 := h a (by simp)
  have h2 := kR1 sz k xs (fun x hx => h x (by simp [hx]))
  simp only [szL, List.length_cons, Nat.mul_add, Nat.mul_one]; omega
theorem jO0 (d : GDefinition) (m : GMachine) (h : pZ0 d m) : m.size < 1048577 := by
 obtain ⟨_, h1, h2, h3⟩ := h
 have := kR1 GFrame.size 540 m.st (fun f hf => by have := h3 f hf; simp only [GFrame.size, szI]; omega)
 have h4 : (540 + 1) * m.st.length ≤ 541 * 540 := Nat.mul_le_mul_left 541 (by omega)
 simp only [GMachine.size, szI]; omega
theorem cW0 (d : GDefinition) (hw : d.wf) (hs : d.size < 1048577) (m : GMachine) (h : pZ0 d m) (h2 : (za0 d m).2 = true) : pZ0 d (za0 d m).1 ∧ zy0 d m = some (za0 d m).1 := by
 have hok := kO1 d hw hs m h.1 (jO0 d m h)
 unfold za0 at h2 hok ⊢
 split at h2
 case isFalse => cases h2
 rename_i hg
 rw [if_pos hg] at hok ⊢
 cases hm : zy0 d m with
 | none => rw [hm] at h2; cases h2
 | some m' =>
  rw [hm] at h2 hok
  simp only at h2 hok ⊢
  split at h2
  case isFalse => cases h2
  rename_i hv
  rw [if_pos hv] at hok ⊢
  simp only at hok ⊢
  simp only [Bool.and_eq_true] at hv
  obtain ⟨u, hu⟩ := Option.isSome_iff_exists.1 hv.2
  rw [hu] at hv
  have huw := (cM0 d m' hok.2 u hu).2
  have hut := vP0 u hv.1 huw
  have hge := tP0 d m'.st.reverse m'.fo u hu
  rw [List.length_reverse] at hge
  have hu1 := hut.1
  refine ⟨⟨hok.2, by omega, by omega, fun f hf => ?_⟩, by first | rfl | trivial⟩
  have hfr : f ∈ m.st ++ [⟨m.fo, m.nx⟩] := by
   unfold zy0 at hm
   split at hm
   ·cases hm; exact hf
   ·split at hm
    ·cases hm; exact List.mem_append_left _ hf
    ·split at hm
     ·cases hm
     ·rename_i g hg
      cases hq : qH0 d g m.fo with
      | none => rw [hq] at hm; cases hm
      | some v =>
       rw [hq] at hm
       cases hm
       exact List.mem_append_left _ (List.dropLast_subset _ hf)
  rcases List.mem_append.1 hfr with hf | hf
  ·exact h.2.2.2 f hf
  ·rw [List.mem_singleton.1 hf]; exact h.2.1
def jD0 (d : GDefinition) (fuel : Int) (m : GMachine) : Option GMachine := if (za0 d m).2 && decide ((za0 d m).1.rw ≤ fuel) then some (za0 d m).1 else none
theorem xM1 (d : GDefinition) (hw : d.wf) (hs : d.size < 1048577) (fuel : Int) (hf : fuel ≤ 200) : ∀ (a b : Nat) (m : GMachine), pZ0 d m → 0 ≤ m.rw → m.rw ≤ fuel → (fuel - m.rw).toNat = a → wkG d m = b →
  ∃ (ms : Nat → GMachine) (N : Nat), ms 0 = m ∧ (∀ i, i < N → jD0 d fuel (ms i) = some (ms (i + 1))) ∧ jD0 d fuel (ms N) = none ∧ ∀ i, i ≤ N → pZ0 d (ms i) := by
 intro a
 induction a using Nat.strongRecOn with
 | _ a iha =>
  intro b
  induction b using Nat.strongRecOn with
  | _ b ihb =>
   intro m hm h0 h1 ha hb
   cases hn : jD0 d fuel m with
   | none => exact ⟨fun _ => m, 0, rfl, fun i hi => by omega, hn, fun i hi => hm⟩
   | some m' =>
    have hn' := hn
    unfold jD0 at hn'
    split at hn'
    case isFalse => cases hn'
    rename_i hg
    simp only [Bool.and_eq_true, decide_eq_true_eq] at hg
    cases hn'
    obtain ⟨k1, k2⟩ := cW0 d hw hs m hm hg.1
    have hrec : ∃ (ms : Nat → GMachine) (N : Nat), ms 0 = (za0 d m).1 ∧ (∀ i, i < N → jD0 d fuel (ms i) = some (ms (i + 1))) ∧ jD0 d fuel (ms N) = none ∧ ∀ i, i ≤ N → pZ0 d (ms i) := by
     rcases jL1 d m _ k2 with h | ⟨h, h'⟩
     ·rw [IntWalk.i64_in _ (by omega)] at h
      exact iha _ (by omega) _ _ k1 (by omega) hg.2 rfl rfl
     ·exact ihb _ (by omega) _ k1 (by omega) hg.2 (by rw [h]; exact ha) rfl
    obtain ⟨ms, N, j1, j2, j3, j4⟩ := hrec
    refine ⟨fun i => match i with
     | 0 => m
     | i + 1 => ms i, N + 1, rfl, fun i hi => ?_, j3, fun i hi => ?_⟩
    ·cases i with
     | zero => simp only; rw [hn, j1]
     | succ i => exact j2 i (by omega)
    ·cases i with
     | zero => exact hm
     | succ i => exact j4 i (by omega)
def kd0 (t : Tm) : GMachine := ⟨t, 0, [], 0⟩
def zeroM : GMachine := ⟨zeroT, 0, [], 0⟩
theorem gJ0 (t : Tm) (h : t.size < 1048577) : Sat Tryz.prog 84 [tmV t] (zW0 (kd0 t).enc) := by
 have hc := qR0 t h
 obtain ⟨k, n, s, ts⟩ := t
 refine soc zE0 zA0 Tryz.func84 ?_
 refine kJ0 ?_
 refine CallK.mk hc ?_
 simp -implicitDefEqProofs (disch := omega) only [go_sem, Tm.enc, kd0, machEnc, List.map_nil]
 rfl
theorem kr0 (t : Tm) (h : t.size < 1048577) : SatF Tryz.prog 25 [tmV t] (zW0 (kd0 t).enc) := by
 have hc := zz0 t (by omega)
 obtain ⟨k, n, s, ts⟩ := t
 refine sfc [_] rfl (fun _ h => by cases h) zE0 zA0 Tryz.func25 ?_
 refine kJ0 ?_
 refine CallK.own hc rfl ?_
 simp -implicitDefEqProofs (disch := omega) only [go_sem, Tm.enc, kd0, machEnc, List.map_nil]
theorem qM1 (t : Tm) (ht : tmOk t) (d : GDefinition) : pZ0 d (kd0 t) :=
 ⟨⟨ht.2.2, kU0 0 (by omega) (by omega), ⟨Nat.zero_le _, fun _ h => by cases h⟩, kU0 0 (by omega) (by omega)⟩, ht.1, by simp [kd0], fun f hf => by cases hf⟩
end Go.Ai
namespace Go.Ai
open Go.Proofs
set_option maxRecDepth 100000
theorem mB0 (d : GDefinition) (fuel : Int) (m m' : GMachine) (h : jD0 d fuel m = some m') : (za0 d m).1 = m' ∧ (za0 d m).2 = true ∧ m'.rw ≤ fuel := by
 unfold jD0 at h
 split at h
 ·rename_i hg
  simp only [Bool.and_eq_true, decide_eq_true_eq] at hg
  cases h
  exact ⟨rfl, hg.1, hg.2⟩
 ·cases h
theorem fc0 (d : GDefinition) (fuel : Int) (m : GMachine) (h : jD0 d fuel m = none) : (za0 d m).2 = false ∨ fuel < (za0 d m).1.rw := by
 unfold jD0 at h
 split at h
 ·cases h
 ·rename_i hg
  cases hq : (za0 d m).2 with
  | false => exact .inl rfl
  | true =>
   rw [hq] at hg
   simp only [Bool.true_and, decide_eq_true_eq] at hg
   exact .inr (by omega)
theorem vt1 (m : GMachine) : m.enc = [.v (.int .i64 (match m.fo with | .mk k _ _ _ => k)), .v (.int .i64 (match m.fo with | .mk _ n _ _ => n)), .v (.string (match m.fo with | .mk _ _ s _ => s)), .sl (Tm.encs m.fo.args), .v (.int .i64 m.nx), .sl (m.st.map GFrame.enc), .v (.int .i64 m.rw)] := by
 obtain ⟨⟨k, n, s, ts⟩, nx, fs, rw_⟩ := m; rfl
theorem sC0 (d : GDefinition) (hw : d.wf) (hs : d.size < 1048577) (t : Tm) (ht : t.size < 1048577) (fuel : Int) (ms : Nat → GMachine) (N : Nat) (h0 : ms 0 = kd0 t) (h1 : ∀ i, i < N → jD0 d fuel (ms i) = some (ms (i + 1))) (h2 : jD0 d fuel (ms N) = none) (h3 : ∀ i, i ≤ N → pZ0 d (ms i)) (hg : runOk d t fuel = true) : Sat Tryz.prog 28 [zW0 d.enc, tmV t, zG0 fuel] (.tup [zW0 (ms N).enc, boolV true]) := by
 have hgd := specGood_sat d hs t (by omega) fuel
 rw [hg] at hgd
 have hld := gJ0 t ht
 rw [← h0] at hld
 have hst := fun i (hi : i ≤ N) => gL0 d hw hs (ms i) (h3 i hi).1 (jO0 d _ (h3 i hi))
 have hd : ∀ i, i < N → (za0 d (ms i)).1 = ms (i + 1) ∧ (za0 d (ms i)).2 = true ∧ (ms (i + 1)).rw ≤ fuel := fun i hi => mB0 d fuel _ _ (h1 i hi)
 have he := fc0 d fuel _ h2
 obtain ⟨k, n, s, ts⟩ := t
 have hde := dE' d
 refine soc zE0 zA0 Tryz.func28 ?_
 refine cs1 ?_
 refine c0' hgd ?_
 refine CallK.mk hld ?_
 rw [vt1 (ms 0)] at *
 refine qV0 ?_
 refine zB0 (ι := Nat) (fun i => mk 35 [(2, zG0 fuel), (3, .one (.ptr 3 0)), (6, .one (.ptr 6 0)), (8, .one (.ptr 8 0))] [(3, .var [.c (.sl (d.si.so.map encS)), .c (.sl (d.si.op.map GOp.enc)), .c (.sl (d.ru.map GRule.enc)), .c (.sl (d.st.map GStrict.enc))]), (6, .var [iC 0, iC 0, sC ByteArray.empty, .nil, iC 0, .nil, iC 0]), (8, .var ((ms i).enc.map .c))])
  (fun i => i ≤ N) (fun i => N - i) 0 (Nat.zero_le _) ?_ zE0 zA0 (by decide +kernel) ?_
 ·exact le_mk (by simp [go_sem]) (by simp [go_sem, vt1 (ms 0)]; rfl)
 ·intro i hi
  have hsi := hst i hi
  rcases Nat.lt_or_ge i N with hlt | hge
  ·obtain ⟨d1, d2, d3⟩ := hd i hlt
   rw [d1, d2] at hsi
   generalize hm' : ms (i + 1) = m' at hsi d3
   generalize ms i = m at hsi
   obtain ⟨⟨mk_, mn, mss, mt⟩, mx, mf, mr⟩ := m
   obtain ⟨⟨mk', mn', mss', mt'⟩, mx', mf', mr'⟩ := m'
   simp only [machEnc] at hsi d3
   refine ct1 ?_
   refine c0' hsi ?_
   refine ⟨fun h => absurd h (by omega), fun _ => ⟨i + 1, hlt, by omega, ?_⟩⟩
   exact le_mk (by simp [go_sem]) (by simp [go_sem, hm', machEnc])
  ·have : i = N := by omega
   subst this
   generalize (za0 d (ms i)).1 = m' at hsi he
   generalize (za0 d (ms i)).2 = b at hsi he
   generalize ms i = m at hsi
   obtain ⟨⟨mk_, mn, mss, mt⟩, mx, mf, mr⟩ := m
   obtain ⟨⟨mk', mn', mss', mt'⟩, mx', mf', mr'⟩ := m'
   simp only [machEnc] at hsi he
   refine ct1 ?_
   refine c0' hsi ?_
   refine ⟨fun hb => ⟨fun _ => rfl, fun h => ?_⟩, fun _ => rfl⟩
   exfalso
   rcases he with h1 | h1
   ·rw [hb] at h1; cases h1
   ·omega
theorem ld0 (d : GDefinition) (hw : d.wf) (hs : d.size < 1048577) (t : Tm) (ht : t.size < 1048577) (fuel : Int) (h2 : jD0 d fuel (kd0 t) = none) (h3 : pZ0 d (kd0 t)) (hg : runOk d t fuel = true) : SatF Tryz.prog 27 [zW0 d.enc, tmV t, zG0 fuel] (.tup [zW0 (kd0 t).enc, boolV true]) := by
 have hcf := ja0 d hs t (by omega)
 unfold runOk at hg
 simp only [Bool.and_eq_true, decide_eq_true_eq] at hg
 obtain ⟨hg1, hg2, hg3⟩ := hg
 rw [hg1] at hcf
 have hf1 : ¬ fuel < 0 := by omega
 have hf2 : (fuel > 200) = False := eq_false (by omega)
 have hld := kr0 t ht
 have hsi := ks0 d hw hs (kd0 t) h3.1 (jO0 d _ h3)
 have he := fc0 d fuel _ h2
 generalize kd0 t = R at hld hsi he ⊢
 obtain ⟨⟨Rk, Rn, Rs, Rt⟩, Rx, Rf, Rr⟩ := R
 obtain ⟨k, n, s, ts⟩ := t
 have hde := dE' d
 simp only [machEnc] at hld ⊢
 refine sfc [zW0 [.v (.int .i64 Rk), .v (.int .i64 Rn), .v (.string Rs), .sl (Tm.encs Rt), .v (.int .i64 Rx), .sl (Rf.map GFrame.enc), .v (.int .i64 Rr)], boolV true] rfl (fun _ h => by cases h; rfl) zE0 zA0 Tryz.func27 ?_
 simp -implicitDefEqProofs (disch := omega) only [go_sem, Tm.enc, hde, hf1, hf2]
 refine c0' hcf ?_
 refine CallK.own hld rfl ?_
 refine qV0 ?_
 refine zB0 (ι := Unit) (fun _ => mk 42 [(2, zG0 fuel), (3, .one (.ptr 3 0)), (6, .one (.ptr 6 0)), (8, .one (.ptr 8 0))] [(3, .var [.c (.sl (d.si.so.map encS)), .c (.sl (d.si.op.map GOp.enc)), .c (.sl (d.ru.map GRule.enc)), .c (.sl (d.st.map GStrict.enc))]), (6, .var [iC 0, iC 0, sC ByteArray.empty, .nil, iC 0, .nil, iC 0]), (8, .var [iC Rk, iC Rn, sC Rs, .tk 25 3, iC Rx, .tk 25 5, iC Rr]), (25, .tok [some (.v (.int .i64 Rk)), some (.v (.int .i64 Rn)), some (.v (.string Rs)), some (.sl (Tm.encs Rt)), some (.v (.int .i64 Rx)), some (.sl (Rf.map GFrame.enc)), some (.v (.int .i64 Rr))])])
  (fun _ => True) (fun _ => 0) () trivial ?_ zE0 zA0 (by decide +kernel) ?_
 ·exact dF1
 ·intro _ _
  ·generalize (za0 d ⟨.mk Rk Rn Rs Rt, Rx, Rf, Rr⟩).1 = m' at hsi he
   generalize (za0 d ⟨.mk Rk Rn Rs Rt, Rx, Rf, Rr⟩).2 = b at hsi he
   obtain ⟨⟨mk', mn', mss', mt'⟩, mx', mf', mr'⟩ := m'
   simp only [machEnc] at hsi he
   refine qV0 ?_
   refine CallK.own hsi rfl ?_
   refine qV0 ?_
   intro hb h
   exfalso
   rcases he with h1 | h1
   ·rw [hb] at h1; cases h1
   ·omega
theorem le0 (d : GDefinition) (hw : d.wf) (hs : d.size < 1048577) (t : Tm) (ht : t.size < 1048577) (fuel : Int) (ms : Nat → GMachine) (K : Nat) (h0 : ms 0 = kd0 t) (h1 : ∀ i, i < K + 1 → jD0 d fuel (ms i) = some (ms (i + 1))) (h2 : jD0 d fuel (ms (K + 1)) = none) (h3 : ∀ i, i ≤ K + 1 → pZ0 d (ms i)) (hg : runOk d t fuel = true) : SatF Tryz.prog 27 [zW0 d.enc, tmV t, zG0 fuel] (.tup [zW0 (ms (K + 1)).enc, boolV true]) := by
 have hcf := ja0 d hs t (by omega)
 unfold runOk at hg
 simp only [Bool.and_eq_true, decide_eq_true_eq] at hg
 obtain ⟨hg1, hg2, hg3⟩ := hg
 rw [hg1] at hcf
 have hf1 : ¬ fuel < 0 := by omega
 have hf2 : (fuel > 200) = False := eq_false (by omega)
 have hld := (kr0 t ht).sat
 rw [← h0] at hld
 have hst := fun i (hi : i ≤ K + 1) => ks0 d hw hs (ms i) (h3 i hi).1 (jO0 d _ (h3 i hi))
 have hd : ∀ i, i < K + 1 → (za0 d (ms i)).1 = ms (i + 1) ∧ (za0 d (ms i)).2 = true ∧ (ms (i + 1)).rw ≤ fuel := fun i hi => mB0 d fuel _ _ (h1 i hi)
 have he := fc0 d fuel _ h2
 have hsi := hst (K + 1) (Nat.le_refl _)
 obtain ⟨R, hR⟩ : ∃ R, R = ms (K + 1) := ⟨_, rfl⟩
 rw [← hR] at he hsi ⊢
 obtain ⟨⟨Rk, Rn, Rs, Rt⟩, Rx, Rf, Rr⟩ := R
 obtain ⟨k, n, s, ts⟩ := t
 have hde := dE' d
 simp only [machEnc]
 refine sfc [zW0 [.v (.int .i64 Rk), .v (.int .i64 Rn), .v (.string Rs), .sl (Tm.encs Rt), .v (.int .i64 Rx), .sl (Rf.map GFrame.enc), .v (.int .i64 Rr)], boolV true] rfl (fun _ h => by cases h; rfl) zE0 zA0 Tryz.func27 ?_
 simp -implicitDefEqProofs (disch := omega) only [go_sem, Tm.enc, hde, hf1, hf2]
 refine c0' hcf ?_
 refine CallK.mk hld ?_
 rw [vt1 (ms 0)] at *
 refine qV0 ?_
 refine zB0 (ι := Nat) (fun i => if i = K + 1 then mk 42 [(2, zG0 fuel), (3, .one (.ptr 3 0)), (6, .one (.ptr 6 0)), (8, .one (.ptr 8 0))] [(3, .var [.c (.sl (d.si.so.map encS)), .c (.sl (d.si.op.map GOp.enc)), .c (.sl (d.ru.map GRule.enc)), .c (.sl (d.st.map GStrict.enc))]), (6, .var [iC 0, iC 0, sC ByteArray.empty, .nil, iC 0, .nil, iC 0]), (8, .var [iC Rk, iC Rn, sC Rs, .tk 9000 3, iC Rx, .tk 9000 5, iC Rr]), (9000, .tok [some (.v (.int .i64 Rk)), some (.v (.int .i64 Rn)), some (.v (.string Rs)), some (.sl (Tm.encs Rt)), some (.v (.int .i64 Rx)), some (.sl (Rf.map GFrame.enc)), some (.v (.int .i64 Rr)), some (.v (.bool true))])] else mk 42 [(2, zG0 fuel), (3, .one (.ptr 3 0)), (6, .one (.ptr 6 0)), (8, .one (.ptr 8 0))] [(3, .var [.c (.sl (d.si.so.map encS)), .c (.sl (d.si.op.map GOp.enc)), .c (.sl (d.ru.map GRule.enc)), .c (.sl (d.st.map GStrict.enc))]), (6, .var [iC 0, iC 0, sC ByteArray.empty, .nil, iC 0, .nil, iC 0]), (8, .var ((ms i).enc.map .c))])
  (fun i => i ≤ K + 1) (fun i => K + 1 - i) 0 (Nat.zero_le _) ?_ zE0 zA0 (by decide +kernel) ?_
 ·rw [if_neg (by omega)]
  exact le_mk (by simp [go_sem]) (by simp [go_sem, vt1 (ms 0)]; rfl)
 ·intro i hi
  rcases Nat.lt_or_ge i (K + 1) with hlt | hge
  ·rw [if_neg (by omega : ¬ i = K + 1)]
   obtain ⟨d1, d2, d3⟩ := hd i hlt
   have hsi := hst i (by omega)
   rw [d1, d2] at hsi
   rcases Nat.lt_or_ge i K with hlk | hgk
   ·have hsi := hsi.sat
    obtain ⟨m', hm'⟩ : ∃ m', m' = ms (i + 1) := ⟨_, rfl⟩
    rw [← hm'] at hsi d3
    generalize ms i = m at hsi
    obtain ⟨⟨mk_, mn, mss, mt⟩, mx, mf, mr⟩ := m
    obtain ⟨⟨mk', mn', mss', mt'⟩, mx', mf', mr'⟩ := m'
    simp only [machEnc] at hsi d3
    refine ct1 ?_
    refine c0' hsi ?_
    refine ⟨fun h => absurd h (by omega), fun _ => ⟨i + 1, by omega, by omega, ?_⟩⟩
    rw [if_neg (by omega)]
    exact le_mk (by simp [go_sem]) (by simp [go_sem, ← hm', machEnc])
   ·have : i = K := by omega
    subst this
    rw [← hR] at hsi d3
    generalize ms i = m at hsi
    obtain ⟨⟨mk_, mn, mss, mt⟩, mx, mf, mr⟩ := m
    simp only [machEnc] at hsi d3
    refine ct1 ?_
    refine CallK.own hsi rfl ?_
    refine qV0 ?_
    refine ⟨fun h => absurd h (by omega), fun _ => ⟨i + 1, by omega, by omega, ?_⟩⟩
    rw [if_pos rfl]
    refine (kk1 8 29 9000 rfl rfl rfl).trans ?_
    exact le_mk (by simp [go_sem]) (by simp [go_sem, bE1])
  ·have : i = K + 1 := by omega
   rw [if_pos this]
   clear hst
   generalize (za0 d ⟨.mk Rk Rn Rs Rt, Rx, Rf, Rr⟩).1 = m' at hsi he
   generalize (za0 d ⟨.mk Rk Rn Rs Rt, Rx, Rf, Rr⟩).2 = b at hsi he
   obtain ⟨⟨mk', mn', mss', mt'⟩, mx', mf', mr'⟩ := m'
   simp only [machEnc] at hsi he
   refine qV0 ?_
   refine CallK.own hsi rfl ?_
   refine qV0 ?_
   intro hb h
   exfalso
   rcases he with h1 | h1
   ·rw [hb] at h1; cases h1
   ·omega
theorem bk0 (d : GDefinition) (hs : d.size < 1048577) (t : Tm) (ht : t.size < 1048577) (fuel : Int) (hg : runOk d t fuel = false) : Sat Tryz.prog 28 [zW0 d.enc, tmV t, zG0 fuel] (.tup [zW0 zeroM.enc, boolV false]) := by
 have hgd := specGood_sat d hs t (by omega) fuel
 rw [hg] at hgd
 obtain ⟨k, n, s, ts⟩ := t
 have hde := dE' d
 refine soc zE0 zA0 Tryz.func28 ?_
 refine cs1 ?_
 refine c0' hgd ?_
 rfl
theorem be0 (d : GDefinition) (hs : d.size < 1048577) (t : Tm) (ht : t.size < 1048577) (fuel : Int) (hg : runOk d t fuel = false) : SatF Tryz.prog 27 [zW0 d.enc, tmV t, zG0 fuel] (.tup [zW0 zeroM.enc, boolV false]) := by
 have hcf := ja0 d hs t (by omega)
 unfold runOk at hg
 generalize wf0 d t = b at hcf hg
 obtain ⟨k, n, s, ts⟩ := t
 have hde := dE' d
 have hze : zeroM.enc = [.v (.int .i64 0), .v (.int .i64 0), .v (.string ByteArray.empty), .sl [], .v (.int .i64 0), .sl [], .v (.int .i64 0)] := rfl
 rw [hze]
 refine sfc [zW0 [.v (.int .i64 0), .v (.int .i64 0), .v (.string ByteArray.empty), .sl [], .v (.int .i64 0), .sl [], .v (.int .i64 0)], boolV false] rfl (fun _ h => by cases h; rfl) zE0 zA0 Tryz.func27 ?_
 refine cs1 ?_
 refine ⟨fun h1 => ⟨fun h2 => CallK.mk hcf ?_, fun _ => rfl⟩, fun _ => rfl⟩
 have hb : b = false := by
  cases b with
  | false => rfl
  | true => simp at hg; omega
 subst hb
 refine qV0 ?_
 rfl
theorem rj1 (sg : GSignature) (st : List GStrict) (h : ms0 sg st = true) (s : ByteArray) (x : Int) (hx : x ∈ zD0 st s) : 0 ≤ x := by
 obtain ⟨y, hy, rfl⟩ := List.mem_map.1 hx
 obtain ⟨i, hi, rfl⟩ := List.mem_iff_getElem.1 (List.mem_filter.1 hy).1
 have h1 := List.all_eq_true.1 h i (List.mem_range.2 hi)
 simp only [pc0, List.getD_eq_getElem?_getD, List.getElem?_eq_getElem hi, Option.getD_some, Bool.and_eq_true, decide_eq_true_eq] at h1
 exact h1.1.1.2
theorem xM0 (rs : List (Option (Int × List Int))) : ∀ (xs ys : List Int), firstR rs (xs ++ ys) = match firstR rs xs with
  | some q => some q
  | none => firstR rs ys
 | [], ys => rfl
 | x :: xs, ys => by
  simp only [List.cons_append, firstR]
  cases rs.getD x.toNat none with
  | none => exact xM0 rs xs ys
  | some q => rfl
theorem cC0 (rs : List (Option (Int × List Int))) (j : Nat) (o : Option (Int × List Int)) : ∀ (xs : List Int), (∀ x, x ∈ xs → x.toNat ≠ j) → firstR (rs.set j o) xs = firstR rs xs
 | [], _ => rfl
 | x :: xs, h => by
  have h1 := h x List.mem_cons_self
  simp only [firstR, List.getD_eq_getElem?_getD]
  rw [List.getElem?_set_ne (Ne.symm h1), cC0 rs j o xs (fun y hy => h y (List.mem_cons_of_mem _ hy))]
def fE0 (d : GDefinition) (nx : Int) : Tm → Prop
 | .mk k _ s ts => firstR (Tm.nxts d.st (rootF d) ts) ((if k = 2 then zD0 d.st s else []).take nx.toNat) = none
theorem yW1 (d : GDefinition) (hnd : ndS d.st) (hnn : ∀ s x, x ∈ zD0 d.st s → 0 ≤ x) (f : GFrame) (hd : fE0 d f.nx f.t) (u v : Tm) (h : qH0 d f u = some v) :
  ∃ (i j : Nat), f.nx = (i : Int) ∧ atp [(j : Int)] v = some u ∧ (∀ r p, u.nxt d.st (rootF d) = some (r, p) → v.nxt d.st (rootF d) = some (r, (j : Int) :: p)) ∧ (u.nxt d.st (rootF d) = none → fE0 d (f.nx + 1) v) ∧ ∀ w, qH0 d f w = some (xc0 [(j : Int)] v w) := by
 obtain ⟨⟨k, n, s, ts⟩, nx⟩ := f
 unfold qH0 kD0 at h
 split at h
 ·cases h
 rename_i hh
 simp only [ze0] at hh h
 rcases qA0 (if k = 2 then zD0 d.st s else []) nx ts.length with e | ⟨i, j, rfl, hi, hij, hj, e⟩
 ·omega
 rw [e] at h
 simp only [Int.toNat_natCast, gS0, Option.some.injEq] at h
 subst h
 have hnn2 : ∀ x, x ∈ (if k = 2 then zD0 d.st s else []) → 0 ≤ x := fun x hx => by
  split at hx
  ·exact hnn s x hx
  ·cases hx
 have hnd2 : (if k = 2 then zD0 d.st s else []).Nodup := by
  split
  ·exact hnd s
  ·exact List.nodup_nil
 simp only [fE0, Int.toNat_natCast] at hd
 have hN : Tm.nxts d.st (rootF d) (ts.set j u) = (Tm.nxts d.st (rootF d) ts).set j (u.nxt d.st (rootF d)) := by
  rw [vl0, vl0, List.map_set]
 have hx : ∀ (xs : List Int), xs = (if k = 2 then zD0 d.st s else []) → xs.take (i + 1) = xs.take i ++ [(j : Int)] ∧ xs = xs.take i ++ (j : Int) :: xs.drop (i + 1) ∧ ∀ x, x ∈ xs.take i → x.toNat ≠ j := by
  intro xs e
  rw [← e] at hi hij hnn2 hnd2
  have h1 : xs[i] = (j : Int) := by rw [← hij, List.getD_eq_getElem?_getD, List.getElem?_eq_getElem hi, Option.getD_some]
  have h2 : xs = xs.take i ++ (j : Int) :: xs.drop (i + 1) := by rw [← h1, ← List.drop_eq_getElem_cons hi, List.take_append_drop]
  refine ⟨by rw [List.take_succ_eq_append_getElem hi, h1], h2, fun x hx hxj => ?_⟩
  have h3 := hnn2 x (List.mem_of_mem_take hx)
  have h4 : x = (j : Int) := by omega
  rw [h2] at hnd2
  exact (List.nodup_append.1 hnd2).2.2 x hx x (by rw [h4]; exact List.mem_cons_self) rfl
 obtain ⟨X, hX⟩ : ∃ X, X = (if k = 2 then zD0 d.st s else []) := ⟨_, rfl⟩
 obtain ⟨x1, x2, x3⟩ := hx X hX
 rw [← hX] at hd
 have hg : (Tm.nxts d.st (rootF d) (ts.set j u)).getD j none = u.nxt d.st (rootF d) := by
  rw [pm0 d.st (rootF d) _ j (by simpa using hj)]; simp
 have hdn : firstR (Tm.nxts d.st (rootF d) (ts.set j u)) (X.take i) = none := by
  rw [hN, cC0 _ _ _ _ x3]; exact hd
 refine ⟨i, j, rfl, ?_, fun r p hu => ?_, fun hu => ?_, fun w => ?_⟩
 ·simp only [atp]
  rw [if_pos (by simp [hj])]
  simp [hj]
 ·rw [Tm.nxt, ← hX, x2, xM0, hdn]
  simp only [firstR, Int.toNat_natCast, hg, hu]
 ·simp only [fE0]
  have e3 : ((i : Int) + 1).toNat = i + 1 := by omega
  rw [e3, ← hX, x1, xM0, hdn]
  simp only [firstR, Int.toNat_natCast, hg, hu]
 ·unfold qH0 kD0
  simp only [ze0, e]
  rw [if_neg (by omega)]
  simp [gS0, xc0]
theorem tY0 : ∀ (p q : List Int) (t u w : Tm), atp p t = some u → xc0 (p ++ q) t w = xc0 p t (xc0 q u w)
 | [], q, t, u, w, h => by cases h; rfl
 | i :: p, q, .mk k n s ts, u, w, h => by
  simp only [atp] at h
  split at h
  ·simp only [List.cons_append, xc0]
   rw [tY0 p q _ u w h]
  ·cases h
theorem wp1 : ∀ (p q : List Int) (t u : Tm), atp p t = some u → atp (p ++ q) t = atp q u
 | [], q, t, u, h => by cases h; rfl
 | i :: p, q, .mk k n s ts, u, h => by
  simp only [atp] at h
  split at h
  ·rename_i hc
   simp only [List.cons_append, atp]
   rw [if_pos hc]
   exact wp1 p q _ u h
  ·cases h
theorem dl0 (d : GDefinition) (hnd : ndS d.st) (hnn : ∀ s x, x ∈ zD0 d.st s → 0 ≤ x) : ∀ (fs : List GFrame) (u T : Tm), (∀ f, f ∈ fs → fE0 d f.nx f.t) → jC0 d u fs = some T →
  ∃ path, atp path T = some u ∧ (∀ r p, u.nxt d.st (rootF d) = some (r, p) → T.nxt d.st (rootF d) = some (r, path ++ p)) ∧ ∀ w, jC0 d w fs = some (xc0 path T w)
 | [], u, T, _, h => by
  cases h
  exact ⟨[], rfl, fun r p h => h, fun w => rfl⟩
 | f :: fs, u, T, hd, h => by
  simp only [jC0] at h
  cases hf : qH0 d f u with
  | none => rw [hf] at h; cases h
  | some v =>
   rw [hf] at h
   obtain ⟨i, j, e, a1, a2, _, a3⟩ := yW1 d hnd hnn f (hd f List.mem_cons_self) u v hf
   obtain ⟨path, b1, b2, b3⟩ := dl0 d hnd hnn fs v T (fun g hg => hd g (List.mem_cons_of_mem _ hg)) h
   refine ⟨path ++ [(j : Int)], by rw [wp1 _ _ _ _ b1, a1], fun r p hu => ?_, fun w => ?_⟩
   ·rw [b2 r _ (a2 r p hu)]; simp
   ·simp only [jC0, a3 w]
    rw [b3, tY0 _ _ _ _ _ b1]
def pV1 (d : GDefinition) (m : GMachine) : Prop := fE0 d m.nx m.fo ∧ ∀ f, f ∈ m.st → fE0 d f.nx f.t
theorem xL0 (d : GDefinition) (t : Tm) : fE0 d 0 t := by
 obtain ⟨k, n, s, ts⟩ := t
 simp [fE0, firstR]
theorem fI0 (d : GDefinition) (m : GMachine) (hr : rng d.st m.fo) (h0 : 0 ≤ m.nx) (hd : fE0 d m.nx m.fo) (hh : ¬ 0 ≤ ze0 d ⟨m.fo, m.nx⟩) : m.fo.nxt d.st (rootF d) = if rootF d m.fo < 0 then none else some (rootF d m.fo, []) := by
 obtain ⟨⟨k, n, s, ts⟩, nx, fs, rw_⟩ := m
 simp only at hr h0 hd hh ⊢
 have h1 : ze0 d ⟨.mk k n s ts, nx⟩ = -1 := by
  simp only [ze0] at hh ⊢
  rcases qA0 (if k = 2 then zD0 d.st s else []) nx ts.length with h | ⟨i, j, _, _, _, _, h⟩
  ·exact h
  ·rw [h] at hh; omega
 have h2 := vg0 d k n s ts nx hr h0 h1
 rw [Tm.nxt]
 simp only [fE0] at hd
 rw [List.take_of_length_le (by omega)] at hd
 rw [hd]
theorem jM1 (d : GDefinition) (m m' : GMachine) (hm : zy0 d m = some m') :
  (0 ≤ ze0 d ⟨m.fo, m.nx⟩ ∨ rootF d m.fo < 0) ∧ m'.rw = m.rw ∧ zb0 d m' = zb0 d m ∨ ¬ 0 ≤ ze0 d ⟨m.fo, m.nx⟩ ∧ 0 ≤ rootF d m.fo ∧ m' = ⟨fireT (th0 d (rootF d m.fo)) m.fo, 0, m.st, IntKind.i64.wrap (m.rw + 1)⟩ := by
 unfold zb0
 unfold zy0 at hm
 split at hm
 ·rename_i hh
  cases hm
  refine .inl ⟨.inl hh, rfl, ?_⟩
  simp only [List.reverse_append, List.reverse_cons, List.reverse_nil, List.nil_append, List.singleton_append, jC0]
  obtain ⟨⟨k, n, s, ts⟩, nx, fs, rw_⟩ := m
  simp only [ze0] at hh
  rcases qA0 (if k = 2 then zD0 d.st s else []) nx ts.length with h | ⟨i, j, rfl, hi, hij, hj, h⟩
  ·omega
  have hjj : ze0 d ⟨.mk k n s ts, (i : Int)⟩ = (j : Int) := h
  have hfb : qH0 d ⟨.mk k n s ts, (i : Int)⟩ (ts.getD j zeroT) = some (.mk k n s ts) := by
   unfold qH0 kD0
   rw [hjj, if_neg (by omega)]
   simp [gS0, hj]
  simp only [hjj, Int.toNat_natCast, Tm.args, hfb]
 ·rename_i hh
  split at hm
  ·rename_i hro
   cases hm
   exact .inr ⟨hh, hro, rfl⟩
  ·rename_i hro
   split at hm
   ·cases hm
   ·rename_i g hg
    cases hq : qH0 d g m.fo with
    | none => rw [hq] at hm; cases hm
    | some v =>
     rw [hq] at hm
     cases hm
     rcases List.eq_nil_or_concat m.st with e | ⟨gs, f, e⟩
     ·rw [e] at hg; cases hg
     rw [List.concat_eq_append] at e
     have hfg : f = g := by rw [e] at hg; simpa using hg
     subst hfg
     refine .inl ⟨.inr (by omega), rfl, ?_⟩
     rw [e]
     simp only [List.reverse_append, List.reverse_cons, List.reverse_nil, List.nil_append, List.singleton_append, jC0, hq]
     simp
theorem mA0 (d : GDefinition) (hnd : ndS d.st) (hnn : ∀ s x, x ∈ zD0 d.st s → 0 ≤ x) (m m' : GMachine) (T : Tm) (hd : pV1 d m) (hr : rng d.st m.fo) (h0 : 0 ≤ m.nx) (hT : zb0 d m = some T) (hm : zy0 d m = some m') :
  pV1 d m' ∧ ((m'.rw = m.rw ∧ zb0 d m' = some T) ∨ (m'.rw = IntKind.i64.wrap (m.rw + 1) ∧ ∃ q, T.nxt d.st (rootF d) = some q ∧ zb0 d m' = some (doB d T q))) := by
 have hs := jM1 d m m' hm
 refine ⟨?_, ?_⟩
 ·unfold zy0 at hm
  split at hm
  ·cases hm
   refine ⟨xL0 d _, fun f hf => ?_⟩
   rcases List.mem_append.1 hf with hf | hf
   ·exact hd.2 f hf
   ·rw [List.mem_singleton.1 hf]; exact hd.1
  ·rename_i hh
   have hf := fI0 d m hr h0 hd.1 hh
   split at hm
   ·cases hm
    exact ⟨xL0 d _, hd.2⟩
   ·rename_i hro
    rw [if_pos (by omega)] at hf
    split at hm
    ·cases hm
    ·rename_i g hg
     cases hq : qH0 d g m.fo with
     | none => rw [hq] at hm; cases hm
     | some v =>
      rw [hq] at hm
      cases hm
      obtain ⟨i, j, e2, _, _, a3, _⟩ := yW1 d hnd hnn g (hd.2 g (List.mem_of_getLast? hg)) m.fo v hq
      exact ⟨a3 hf, fun y hy => hd.2 y (List.dropLast_subset _ hy)⟩
 ·rcases hs with ⟨_, h1, h2⟩ | ⟨hh, hro, rfl⟩
  ·exact .inl ⟨h1, by rw [h2, hT]⟩
  ·have hf := fI0 d m hr h0 hd.1 hh
   rw [if_neg (by omega)] at hf
   unfold zb0 at hT ⊢
   obtain ⟨path, a1, a2, a3⟩ := dl0 d hnd hnn m.st.reverse m.fo T (fun f hf => hd.2 f (List.mem_reverse.1 hf)) hT
   refine .inr ⟨rfl, _, a2 _ _ hf, ?_⟩
   rw [List.append_nil]
   unfold doB
   simp only [a1, Option.getD_some]
   exact a3 _
structure Along (d : GDefinition) (fuel : Nat) (t : Tm) (m : GMachine) (T : Tm) (c : Nat) : Prop where
 way : pZ0 d m
 don : pV1 d m
 nn : 0 ≤ m.nx
 term : zb0 d m = some T
 good : goodT d T
 cfg : wf0 d T = true
 rw : m.rw = (c : Int)
 le : c ≤ fuel
 run : runF d fuel t 0 = runF d (fuel - c) T c
theorem sT0 (d : GDefinition) (hw : d.wf) (hs : d.size < 1048577) (fuel : Nat) (hfu : fuel ≤ 200) (t : Tm) (m : GMachine) (T : Tm) (c : Nat) (h : Along d fuel t m T c) :
  ndS d.st ∧ (∀ s x, x ∈ zD0 d.st s → 0 ≤ x) ∧ rng d.st m.fo ∧ wf0 d m.fo = true ∧ (∀ x, x ∈ d.ru → ruleOk x ∧ qz0 d.si x = true) ∧ ms0 d.si d.st = true := by
 obtain ⟨hg, hst⟩ := good_cfg d hw T h.good.1.2.2 h.cfg
 have hnd := cfg_nd d T h.cfg
 have hnn := rj1 d.si d.st hst
 have hT := h.term
 unfold zb0 at hT
 obtain ⟨path, a1, _⟩ := dl0 d hnd hnn m.st.reverse m.fo T (fun f hf => h.don.2 f (List.mem_reverse.1 hf)) hT
 have hcf := cfg_at d T h.cfg path m.fo a1
 exact ⟨hnd, hnn, cfg_rng d m.fo hcf, hcf, fun x hx => ⟨(cfg_ok d hw T h.good.1.2.2 h.cfg).1 x hx, (cfg_ok d hw T h.good.1.2.2 h.cfg).2.2 x hx⟩, hst⟩
theorem py1 (d : GDefinition) (m m' : GMachine) (h : zy0 d m = some m') (hd : ∀ f, f ∈ m.st → 0 ≤ f.nx) : 0 ≤ m'.nx := by
 unfold zy0 at h
 split at h
 ·cases h; exact Int.le_refl _
 ·split at h
  ·cases h; exact Int.le_refl _
  ·split at h
   ·cases h
   ·rename_i g hg
    cases hq : qH0 d g m.fo with
    | none => rw [hq] at h; cases h
    | some v =>
     rw [hq] at h
     cases h
     have := hd g (List.mem_of_getLast? hg)
     simp only; omega
theorem zJ1 (d : GDefinition) (hw : d.wf) (hs : d.size < 1048577) (fuel : Nat) (hfu : fuel ≤ 200) (t : Tm) (m m' : GMachine) (T : Tm) (c : Nat) (h : Along d fuel t m T c) (hn : jD0 d fuel m = some m') : ∃ T' c', Along d fuel t m' T' c' := by
 obtain ⟨hnd, hnn, hrg, hcf, hok, hst⟩ := sT0 d hw hs fuel hfu t m T c h
 unfold jD0 at hn
 split at hn
 case isFalse => cases hn
 rename_i hc
 cases hn
 simp only [Bool.and_eq_true, decide_eq_true_eq] at hc
 obtain ⟨hway, hmv⟩ := cW0 d hw hs m h.way hc.1
 obtain ⟨hdm, hcase⟩ := mA0 d hnd hnn m _ T h.don hrg h.nn h.term hmv
 have hval : ((zb0 d (za0 d m).1).getD zeroT).valid = true := by
  have h2 := hc.1
  unfold za0 at h2 ⊢
  split at h2
  case isFalse => cases h2
  rename_i hg
  rw [if_pos hg, hmv] at ⊢
  rw [hmv] at h2
  simp only at h2 ⊢
  split at h2
  case isFalse => cases h2
  rename_i hv
  rw [if_pos hv]
  simp only [Bool.and_eq_true] at hv
  exact hv.1
 have hnx : 0 ≤ (za0 d m).1.nx := by
  have h2 := hc.1
  unfold za0 at h2
  split at h2
  case isFalse => cases h2
  rename_i hg
  simp only [Bool.and_eq_true] at hg
  refine py1 d m _ hmv (fun f hf => ?_)
  have hT := h.term
  unfold zb0 at hT
  have key : ∀ (fs : List GFrame) (u v : Tm), jC0 d u fs = some v → ∀ f, f ∈ fs → 0 ≤ f.nx := by
   intro fs
   induction fs with
   | nil => intro u v _ f hf; cases hf
   | cons g fs ih =>
    intro u v hm f hf
    simp only [jC0] at hm
    cases hq : qH0 d g u with
    | none => rw [hq] at hm; cases hm
    | some w =>
     rw [hq] at hm
     rcases List.mem_cons.1 hf with rfl | hf
     ·obtain ⟨⟨k, n, s, ts⟩, nx⟩ := f
      unfold qH0 kD0 at hq
      split at hq
      ·cases hq
      ·rename_i hh
       simp only [ze0] at hh
       rcases qA0 (if k = 2 then zD0 d.st s else []) nx ts.length with h | ⟨i, j, rfl, _⟩
       ·omega
       ·simp only; omega
     ·exact ih w v hm f hf
  exact key _ _ _ hT f (List.mem_reverse.2 hf)
 rcases hcase with ⟨h1, h2⟩ | ⟨h1, q, h2, h3⟩
 ·exact ⟨T, c, ⟨hway, hdm, hnx, h2, h.good, h.cfg, by rw [h1, h.rw], h.le, h.run⟩⟩
 ·have hfl := h.le
  have hr1 : (za0 d m).1.rw = ((c + 1 : Nat) : Int) := by
   rw [h1, h.rw, IntWalk.i64_in _ (by omega)]; omega
  rw [h3, Option.getD_some] at hval
  have hred := good_red d hst T h.good q (next_mem d T (good_rng d hst T h.good) q h2)
  have hgo := good_do d hok T h.good q hred hval
  have hlt : c + 1 ≤ fuel := by have := hc.2; rw [hr1] at this; omega
  refine ⟨doB d T q, c + 1, ⟨hway, hdm, hnx, h3, hgo, cfg_of_good d (cfg_def d T h.cfg) _ hval hgo, hr1, hlt, ?_⟩⟩
  rw [h.run]
  obtain ⟨e, he⟩ : ∃ e, fuel - c = e + 1 := ⟨fuel - c - 1, by omega⟩
  rw [he, show fuel - (c + 1) = e by omega]
  conv => lhs; unfold runF
  rw [h2]
  simp only [hval, if_true]
theorem kC1 (d : GDefinition) (n : Nat) (T : Tm) (c : Nat) (h : T.nxt d.st (rootF d) = none) : runF d n T c = (1, T, c) := by
 unfold runF; rw [h]
theorem wj1 (d : GDefinition) (hw : d.wf) (hs : d.size < 1048577) (fuel : Nat) (hfu : fuel ≤ 200) (t : Tm) (m : GMachine) (T : Tm) (c : Nat) (h : Along d fuel t m T c) (hn : jD0 d fuel m = none) : (runF d fuel t 0).2 = (T, c) := by
 obtain ⟨hnd, hnn, hrg, hcf, hok, hst⟩ := sT0 d hw hs fuel hfu t m T c h
 rw [h.run]
 have hfl := h.le
 have hrw := h.rw
 cases hmv : zy0 d m with
 | none =>
  have hno : T.nxt d.st (rootF d) = none := by
   have hT := h.term
   unfold zb0 at hT
   unfold zy0 at hmv
   split at hmv
   ·cases hmv
   ·rename_i hh
    have hf := fI0 d m hrg h.nn h.don.1 hh
    split at hmv
    ·cases hmv
    ·rename_i hro
     rw [if_pos (by omega)] at hf
     rcases List.eq_nil_or_concat m.st with e | ⟨gs, f, e⟩
     ·rw [e] at hT; cases hT; exact hf
     rw [List.concat_eq_append] at e
     rw [e] at hT hmv
     simp only [List.reverse_append, List.reverse_cons, List.reverse_nil, List.nil_append, List.singleton_append, jC0] at hT
     simp only [List.getLast?_append, List.getLast?_singleton, Option.some_or] at hmv
     cases hq : qH0 d f m.fo with
     | none => rw [hq] at hT; cases hT
     | some v => rw [hq] at hmv; cases hmv
  rw [kC1 d _ T c hno]
 | some m' =>
  obtain ⟨hdm, hcase⟩ := mA0 d hnd hnn m m' T h.don hrg h.nn h.term hmv
  have hval : T.valid = true := by
   have h1 := h.cfg
   simp only [wf0, Bool.and_eq_true] at h1
   exact h1.1.1.2
  have hstep : ∀ b, (((zb0 d m').getD zeroT).valid && (zb0 d m').isSome) = b → (za0 d m).2 = b ∧ (b = true → (za0 d m).1 = m') := by
   intro b hb
   unfold za0
   rw [if_pos (by rw [h.term, hcf, decide_eq_true h.nn]; rfl), hmv]
   simp only [hb]
   cases b with
   | false => exact ⟨rfl, fun h => by cases h⟩
   | true => exact ⟨rfl, fun _ => rfl⟩
  rcases hcase with ⟨h1, h2⟩ | ⟨h1, q, h2, h3⟩
  ·exfalso
   obtain ⟨g1, g2⟩ := hstep true (by rw [h2, Option.getD_some, hval]; rfl)
   unfold jD0 at hn
   rw [g1, g2 rfl, h1, hrw, if_pos (by simp; omega)] at hn
   cases hn
  ·unfold runF
   rw [h2]
   simp only
   cases hfc : fuel - c with
   | zero => rfl
   | succ e =>
    simp only
    split
    ·rename_i hv
     exfalso
     obtain ⟨g1, g2⟩ := hstep true (by rw [h3, Option.getD_some, hv]; rfl)
     unfold jD0 at hn
     rw [g1, g2 rfl, h1, hrw, IntWalk.i64_in _ (by omega), if_pos (by simp; omega)] at hn
     cases hn
    ·rfl
theorem nZ0 (d : GDefinition) (hw : d.wf) (t : Tm) (htw : t.wf) (hc : wf0 d t = true) (fuel : Nat) (m : GMachine) (hm : m = ⟨t, 0, [], 0⟩) (hway : pZ0 d m) : Along d fuel t m t 0 := by
 subst hm
 obtain ⟨hg, hst⟩ := good_cfg d hw t htw hc
 exact ⟨hway, ⟨xL0 d t, fun f hf => by cases hf⟩, Int.le_refl _, rfl, hg, hc, rfl, Nat.zero_le _, by rw [Nat.sub_zero]⟩
end Go.Ai
namespace Go.Ai
open Go.Proofs
set_option maxRecDepth 100000
theorem gj0 (d : GDefinition) (hw : d.wf) (hs : d.size < 1048577) (fuel : Nat) (hfu : fuel ≤ 200) (t : Tm) (ms : Nat → GMachine) (N : Nat) (h0 : ∃ T c, Along d fuel t (ms 0) T c) (h1 : ∀ i, i < N → jD0 d fuel (ms i) = some (ms (i + 1))) : ∀ i, i ≤ N → ∃ T c, Along d fuel t (ms i) T c
 | 0, _ => h0
 | i + 1, hi => by
  obtain ⟨T, c, h⟩ := gj0 d hw hs fuel hfu t ms N h0 h1 i (by omega)
  exact zJ1 d hw hs fuel hfu t _ _ T c h (h1 i (by omega))
theorem fZ1 (d : GDefinition) (hw : d.wf) (hs : d.size < 1048577) (t : Tm) (htw : t.wf) (ht : t.size < 1048577) (fuel : Nat) (hfu : fuel ≤ 200) (hcf : wf0 d t = true) : ∃ (R : GMachine) (T : Tm) (c : Nat), Sat Tryz.prog 28 [zW0 d.enc, tmV t, zG0 fuel] (.tup [zW0 R.enc, boolV true]) ∧ SatF Tryz.prog 27 [zW0 d.enc, tmV t, zG0 fuel] (.tup [zW0 R.enc, boolV true]) ∧ R.wf ∧ R.size < 1048577 ∧ zb0 d R = some T ∧ T.wf ∧ R.rw = (c : Int) ∧ (runF d fuel t 0).2 = (T, c) := by
 have hg : runOk d t fuel = true := by
  unfold runOk
  rw [hcf, decide_eq_true (by omega : (0 : Int) ≤ fuel), decide_eq_true (by omega : (fuel : Int) ≤ 200)]; rfl
 have hto := (cfg_ok d hw t htw hcf).2.1
 have hon := qM1 t hto d
 obtain ⟨ms, N, h0, h1, h2, h3⟩ := xM1 d hw hs fuel (by omega) _ _ (kd0 t) hon (by simp [kd0]) (by simp only [kd0]; omega) rfl rfl
 have hN := h3 N (Nat.le_refl _)
 obtain ⟨T, c, ha⟩ := gj0 d hw hs fuel hfu t ms N ⟨t, 0, by rw [h0]; exact nZ0 d hw t htw hcf fuel _ rfl hon⟩ h1 N (Nat.le_refl _)
 refine ⟨ms N, T, c, sC0 d hw hs t ht fuel ms N h0 h1 h2 h3 hg, ?_, hN.1, jO0 d _ hN, ha.term, ha.good.1.2.2, ha.rw, wj1 d hw hs fuel hfu t _ T c ha h2⟩
 cases N with
 | zero =>
  rw [h0] at h2 hN ⊢
  exact ld0 d hw hs t ht fuel h2 hN hg
 | succ K => exact le0 d hw hs t ht fuel ms K h0 h1 h2 h3 hg
theorem vq0 (d : GDefinition) (hs : d.size < 1048577) (t : Tm) (ht : t.size < 1048577) (fuel : Int) (hg : runOk d t fuel = false) :
  Sat Tryz.prog 30 [zW0 d.enc, tmV t, zG0 fuel] (zW0 ([.v (.int .i64 0)] ++ zeroT.enc ++ [.v (.int .i64 0)])) := by
 have hgd := specGood_sat d hs t (by omega) fuel
 rw [hg] at hgd
 obtain ⟨⟨so, op⟩, ru, st⟩ := d
 obtain ⟨tk, tn, tz, ta⟩ := t
 refine soc zE0 zA0 Tryz.func30 ?_
 refine cn1 ?_
 refine CallK.mk hgd ?_
 simp -implicitDefEqProofs (disch := omega) only [go_sem, zeroT, Tm.enc, Tm.encs, List.cons_append, List.nil_append]
 rfl
end Go.Ai
