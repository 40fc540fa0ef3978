/- Matching. -/
import Derived.Test.YtkaplmbflkoliaaGreatAiP1
import Derived.Test.YtkaplmbflkoliaaGreatAiU2
import Derived.Test.YtkaplmbflkoliaaGreatAiU4
namespace Go.Ai
set_option linter.unusedVariables false
set_option linter.unusedSimpArgs false
open Go.Proofs
set_option maxRecDepth 100000

def nodeE : Tm → Tm → Bool
  | .mk k n s ts, .mk k2 n2 s2 ts2 => k == k2 && n == n2 && eqS s s2 && ts.length == ts2.length
mutual
def Tm.mat : Tm → Tm → List GBind → Option (List GBind)
  | .mk k n s ts, y, bs =>
    if k == 1 then (match bnd bs s with | some x => if x.eqb y then some bs else none | none => some (bs ++ [⟨s, y⟩]))
    else if nodeE (.mk k n s ts) y then Tm.mats ts y.args bs else none
def Tm.mats : List Tm → List Tm → List GBind → Option (List GBind)
  | [], _, bs => some bs
  | a :: ts, ys, bs => match a.mat (ys.headD zeroT) bs with
    | some bs' => Tm.mats ts ys.tail bs'
    | none => none
end
theorem mats_drop (ts ys : List Tm) (bs : List GBind) (i : Nat) (h : i < ts.length) (h2 : i < ys.length) : Tm.mats (ts.drop i) (ys.drop i) bs = match ts[i].mat ys[i] bs with
    | some bs' => Tm.mats (ts.drop (i + 1)) (ys.drop (i + 1)) bs'
    | none => none := by
  rw [List.drop_eq_getElem_cons h, Tm.mats, List.tail_drop, List.drop_eq_getElem_cons h2]
  rfl
mutual
theorem mat_len : ∀ (t y : Tm) (bs r : List GBind), t.mat y bs = some r → r.length ≤ bs.length + t.cnt
  | .mk k n s ts, y, bs, r => by
    simp only [Tm.mat, Tm.cnt]
    split
    · split
      · split
        · intro h; cases h; omega
        · intro h; cases h
      · intro h; cases h; simp
    · split
      · intro h
        have := mats_len ts y.args bs r h
        omega
      · intro h; cases h
theorem mats_len : ∀ (ts ys : List Tm) (bs r : List GBind), Tm.mats ts ys bs = some r → r.length ≤ bs.length + Tm.cnts ts
  | [], _, bs, r => by
    simp only [Tm.mats, Tm.cnts]
    intro h; cases h; omega
  | a :: ts, ys, bs, r => by
    simp only [Tm.mats, Tm.cnts]
    split
    · rename_i bs' h1
      intro h
      have := mat_len a _ bs bs' h1
      have := mats_len ts _ bs' r h
      omega
    · intro h; cases h
end
mutual
/-- What matching binds are terms of the subject. -/
theorem mat_all (p : Tm → Prop) (hp : ∀ k n s ts, p (.mk k n s ts) → ∀ t, t ∈ ts → p t) : ∀ (t y : Tm) (bs r : List GBind), t.mat y bs = some r → p y → (∀ b, b ∈ bs → p b.t) → ∀ b, b ∈ r → p b.t
  | .mk k n s ts, y, bs, r => by
    simp only [Tm.mat]
    split
    · split
      · split
        · intro h; cases h; intro _ hb; exact hb
        · intro h; cases h
      · intro h; cases h
        intro hy hb b hm
        rcases List.mem_append.1 hm with hm | hm
        · exact hb b hm
        · simp only [List.mem_singleton] at hm; subst hm; exact hy
    · split
      · rename_i hn
        obtain ⟨k2, n2, s2, ts2⟩ := y
        simp only [nodeE, Bool.and_eq_true, beq_iff_eq] at hn
        intro h hy
        exact mats_all p hp ts ts2 bs r (by omega) h (fun t ht => hp _ _ _ _ hy t ht)
      · intro h; cases h
theorem mats_all (p : Tm → Prop) (hp : ∀ k n s ts, p (.mk k n s ts) → ∀ t, t ∈ ts → p t) : ∀ (ts ys : List Tm) (bs r : List GBind), ts.length ≤ ys.length → Tm.mats ts ys bs = some r → (∀ y, y ∈ ys → p y) → (∀ b, b ∈ bs → p b.t) → ∀ b, b ∈ r → p b.t
  | [], _, bs, r => by
    simp only [Tm.mats]
    intro _ h _ hb; cases h; exact hb
  | a :: ts, [], bs, r => by intro h; simp at h
  | a :: ts, y :: ys, bs, r => by
    simp only [Tm.mats, List.headD_cons, List.tail_cons]
    intro hl
    split
    · rename_i bs' h1
      intro h hy hb
      exact mats_all p hp ts ys bs' r (by simpa using hl) h (fun t ht => hy t (by simp [ht])) (mat_all p hp a y bs bs' h1 (hy y (by simp)) hb)
    · intro h; cases h
end
theorem bindP_sub : ∀ k n s ts, ((Tm.mk k n s ts).size < 1048577 ∧ (Tm.mk k n s ts).wf) → ∀ t, t ∈ ts → (t.size < 1048577 ∧ t.wf) :=
  fun k n s ts h t ht => ⟨by have := size_mem ts t ht; have := h.1; simp only [Tm.size] at this; omega, (wfs_iff ts).1 h.2.2.2.2.2 t ht⟩
abbrev matSat (f : FuncId) (t : Tm) : Prop := ∀ (y : Tm) (bs : List GBind), y.size < 1048577 → y.wf → (∀ b, b ∈ bs → b.t.size < 1048577 ∧ b.t.wf) → bs.length + t.cnt < 90000000 → SatT Tryz.prog f [tmV t, tmV y] [] 159 5 (rowsOf GBind.enc bs) ((t.mat y bs).map (rowsOf GBind.enc))
theorem implMatch_1 (k n : Int) (s : ByteArray) (ts : List Tm) (hl : s.size + Tm.sizes ts < 80000000) (ih : ∀ t, t ∈ ts → matSat 87 t) : matSat 87 (.mk k n s ts) := by
  intro y bs hy hyw hb hbl
  have hts := len_sizes ts
  simp only [Tm.cnt] at hbl
  have hbo := boundV_sat bs s (by omega)
  obtain ⟨r, hr⟩ : ∃ r, r = (Tm.mk k n s ts).mat y bs := ⟨_, rfl⟩
  rw [← hr]
  simp only [Tm.mat] at hr
  obtain ⟨k2, n2, s2, ts2⟩ := y
  refine satT_of_code tbOk mixed Tryz.func87 rfl rfl rfl (by decide +kernel) (by decide +kernel) (Nat.le_of_ble_eq_true rfl) (by decide) rowsOf_cl rowsOf_noD (fun rows' h => by cases r <;> simp at h; subst h; exact ⟨rowsOf_cl, rowsOf_noD⟩) ?_
  simp -implicitDefEqProofs (disch := omega) only [go_sem, Tm.enc]
  refine ⟨fun h1 => ?_, fun h1 => ?_⟩
  · have hr : r = match bnd bs s with
      | some x => if x.eqb (.mk k2 n2 s2 ts2) then some bs else none
      | none => some (bs ++ [⟨s, .mk k2 n2 s2 ts2⟩]) := by rw [hr, h1]; rfl
    cases hq : bnd bs s with
    | none =>
      rw [hq] at hr hbo
      refine CallK.shown 0 rfl hbo ⟨by simp [go_sem], rfl, by rw [rowsOf_len], rfl⟩ ?_
      simp -implicitDefEqProofs (disch := omega) only [go_sem, Option.getD_none, Option.isSome_none, zeroT, Tm.enc, Tm.encs]
      have hr : r = some (bs ++ [⟨s, .mk k2 n2 s2 ts2⟩]) := hr
      subst hr
      exact ⟨⟨by simp, by omega, by omega⟩, fun _ => ⟨rfl, by simp [rowsOf_len], by simp [go_sem]; rw [← rowsOf_app]; rfl⟩⟩
    | some x =>
      rw [hq] at hr hbo
      simp only at hr
      have hbx : x.size < 1048577 ∧ x.wf := by
        obtain ⟨b, hb1, rfl⟩ := bnd_mem bs s x hq
        exact hb b hb1
      have heq := implEqualTerm_sat x hbx.2 (.mk k2 n2 s2 ts2)
      generalize x.eqb (.mk k2 n2 s2 ts2) = q at hr heq
      obtain ⟨xk, xn, xs, xt⟩ := x
      refine CallK.shown 0 rfl hbo ⟨by simp [go_sem], rfl, by rw [rowsOf_len], rfl⟩ ?_
      simp -implicitDefEqProofs (disch := omega) only [go_sem, Option.getD_some, Option.isSome_some, Tm.enc]
      refine CallK.mk heq ?_
      simp -implicitDefEqProofs (disch := omega) only [go_sem]
      cases q
      · have hr : r = none := hr
        subst hr
        rfl
      · have hr : r = some bs := hr
        subst hr
        exact ⟨rfl, by rw [rowsOf_len], rfl⟩
  · have hr : r = if nodeE (.mk k n s ts) (.mk k2 n2 s2 ts2) then Tm.mats ts ts2 bs else none := by rw [hr, h1]; rfl
    refine ⟨fun e1 => ⟨fun e2 => ⟨fun e3 => ⟨fun e4 => ?_, fun e4 => ?_⟩, fun e3 => ?_⟩, fun e2 => ?_⟩, fun e1 => ?_⟩
    rotate_left
    · have hn : nodeE (.mk k n s ts) (.mk k2 n2 s2 ts2) = true := by
        have q1 : (k == k2) = true := by simpa using e1
        have q2 : (n == n2) = true := by simpa using e2
        have q3 : eqS s s2 = true := by simp [eqS, e3]
        have q4 : (ts.length == ts2.length) = true := by
          have : ((ts.length : Int) != (ts2.length : Int)) = false := e4
          simp only [bne_eq_false_iff_eq] at this
          simp only [beq_iff_eq]; omega
        simp only [nodeE, q1, q2, q3, q4, Bool.and_self]
      rw [hn, if_pos rfl] at hr
      have hll : ts.length = ts2.length := by
        have : ((ts.length : Int) != (ts2.length : Int)) = false := e4
        simp only [bne_eq_false_iff_eq] at this
        omega
      refine loopA_rule (ι := Nat × List GBind) (fun i => mk 87 [(2, .one (.own 9001 i.2.length)), (3, .one (.ptr 3 0)), (4, .one (.ptr 4 0)), (64, intV ts.length), (65, intV i.1)] [(3, .var [iC k, iC n, sC s, tC ts]), (4, .var [iC k2, iC n2, sC s2, tC ts2]), (9001, .arr 159 5 (rowsOf GBind.enc i.2) false)])
        (fun i => i.1 ≤ ts.length ∧ Tm.mats (ts.drop i.1) (ts2.drop i.1) i.2 = r ∧ i.2.length + Tm.cnts (ts.drop i.1) < 90000000 ∧ ∀ b, b ∈ i.2 → b.t.size < 1048577 ∧ b.t.wf) (fun i => ts.length - i.1) (0, bs) ⟨Nat.zero_le _, by simp [hr], by simp; omega, hb⟩ ?_ tbOk mixed (by decide +kernel) ?_
      · exact le_mk (by simp [go_sem]) (by simp [go_sem])
      · rintro ⟨i, vi⟩ ⟨hi, he, hbl', hvi⟩
        simp only at hi he hbl' hvi
        rcases Nat.lt_or_ge i ts.length with hlt | hge
        · have hlt2 : i < ts2.length := by omega
          have hg := encs_getD ts i hlt
          have hg2 := encs_getD ts2 i hlt2
          rw [mats_drop ts ts2 vi i hlt hlt2] at he
          rw [cnts_drop ts i hlt] at hbl'
          have ha2 : ts2[i].size < 1048577 ∧ ts2[i].wf := ⟨by have := size_mem ts2 ts2[i] (List.getElem_mem hlt2); simp only [Tm.size] at hy; omega, (wfs_iff ts2).1 hyw.2.2.2.2 _ (List.getElem_mem hlt2)⟩
          have hih := ih _ (List.getElem_mem hlt) ts2[i] vi ha2.1 ha2.2 hvi (by omega)
          have hal := mat_len ts[i] ts2[i] vi
          have hall := fun (r : List GBind) (hr : ts[i].mat ts2[i] vi = some r) => mat_all (fun t => t.size < 1048577 ∧ t.wf) bindP_sub ts[i] ts2[i] vi r hr ha2 hvi
          generalize ts[i] = a at hg hih he hbl' hal hall
          generalize ts2[i] = a2 at hg2 hih he hal hall ha2
          generalize a.mat a2 vi = q at he hih hal hall
          simp -implicitDefEqProofs (disch := omega) only [go_sem, hg, hg2, hlt, hlt2, enc_len]
          cases q with
          | none =>
            have hih : SatL Tryz.prog 87 [tmV a, tmV a2] [] 159 5 (rowsOf GBind.enc vi) [boolV false] := hih
            refine CallK.lost 2 (by decide +kernel) hih ⟨by simp [go_sem], rfl, by rw [rowsOf_len], rfl⟩ ?_
            simp -implicitDefEqProofs (disch := omega) only [go_sem, List.getElem?_cons_succ, List.getElem?_cons_zero]
            have he : none = r := he
            subst he
            rfl
          | some bs' =>
            have hih : SatA Tryz.prog 87 [tmV a, tmV a2] [] 159 5 (rowsOf GBind.enc vi) (rowsOf GBind.enc bs') [boolV true] := hih
            refine CallK.accD 2 (by decide +kernel) hih ⟨by simp [go_sem], rfl, by rw [rowsOf_len], rfl⟩ rfl ?_
            simp -implicitDefEqProofs (disch := omega) only [go_sem, List.getElem?_cons_succ, List.getElem?_cons_zero]
            refine ⟨(i + 1, bs'), ⟨by simp only; omega, he, by simp only; have := hal bs' rfl; omega, hall bs' rfl⟩, by simp only; omega, ?_⟩
            refine (le_mk (L' := [(2, .one (.own 80 (rowsOf GBind.enc bs').length)), (3, .one (.ptr 3 0)), (4, .one (.ptr 4 0)), (64, intV ts.length), (65, intV (i + 1 : Nat))]) (B' := [(3, .var [iC k, iC n, sC s, tC ts]), (4, .var [iC k2, iC n2, sC s2, tC ts2]), (80, .arr 159 5 (rowsOf GBind.enc bs') false)]) (by simp [go_sem]) (by simp [go_sem])).trans ?_
            refine (wk_rename (t := 2) (l := 80) (k := (rowsOf GBind.enc bs').length) 9001 rfl rfl rfl (by decide) rfl rowsOf_cl rowsOf_noD).trans ?_
            exact le_mk (by simp [go_sem]) (by simp [go_sem])
        · have e1 : ts.drop i = [] := List.drop_of_length_le hge
          rw [e1] at he
          have he : some vi = r := he
          subst he
          simp -implicitDefEqProofs (disch := omega) only [go_sem, Nat.not_lt.2 hge]
          exact ⟨rfl, by rw [rowsOf_len], rfl⟩
    all_goals
      have hn : nodeE (.mk k n s ts) (.mk k2 n2 s2 ts2) = false := by
        first
        | (have q : ¬ ts.length = ts2.length := fun q => e4 (by rw [q])
           simp [nodeE, q])
        | simp [nodeE, eqS, e3]
        | simp [nodeE, e2]
        | simp [nodeE, e1]
      rw [hn, if_neg (by simp)] at hr
      subst hr
      rfl
theorem implMatch_sat : ∀ (t : Tm), t.size < 80000000 → matSat 87 t := by
  refine Tm.ind (fun k n s ts ih h => implMatch_1 k n s ts (by simp only [Tm.size] at h; omega) (fun t ht => ih t ht ?_))
  have := size_mem ts t ht; simp only [Tm.size] at h; omega
end Go.Ai
