/- Stores, appends, new rows: what the model runs gives what the abstract machine says. -/
import Derived.Test.YtdjleacnjijbjaaAiMem
namespace Go.Ai
set_option linter.unusedVariables false
set_option linter.unusedSimpArgs false
open Go.RowKit

variable {P : Program} {tab : Tab} {w0 : World} {M0 : Ms} {F0 F : Fz} {g : Gh} {s : St} {a : Act} {w w' : World} {lb : Lk}

theorem RepACs.ones {as : List AC} {us : List Value} (h : RepACs w F lb g as us) : ∀ u, u ∈ us → u.oneCell' = true := by
  intro u hu
  obtain ⟨h1, h2⟩ := (RepACs.iff _ _).1 h
  obtain ⟨i, hi⟩ := List.getElem?_of_mem hu
  have hlt := (List.getElem?_eq_some_iff.1 hi).1
  exact (h2 i as[i] u (List.getElem?_eq_getElem (by omega)) hi).one

theorem run_storeVar {t : TypeId} {ti : TI} {info : TypeInfo} {z : Value} {d : TypeDesc} (ok : TI.Ok P t ti info z d) (b o : Nat) (u : Value) (hsz : u.cells.size = ti.size) {cs : Array Value} {e : TypeId} (hh : w.heap[b]? = some (.cells cs e (0, 0)))
    (fit : o + u.cells.size ≤ cs.size) (h1 : ∀ v, v ∈ u.cells.toList → v.oneCell' = true) :
    (Instr.storeAt t (.pointer (some ⟨b, o, none⟩)) u).run P w = .ok () (w.setRow b (cs.toList.take o ++ (u.cells.toList ++ cs.toList.drop (o + u.cells.toList.length))).toArray) := by
  have hst := run_storeCells_at P b o e u.cells.toList 0 cs w hh (by simpa using fit) h1
  simp only [Nat.add_zero, List.append_assoc] at hst
  simp [Instr.storeAt, Instr.sureAddr, storeVar, sizeOf, typeInfo, ok.inf, ok.size, hsz, hst]

theorem setRow_stays {b : Nat} (hb : ∀ o, ¬ F b o) (cs : Array Value) : Stays w (w.setRow b cs) F F :=
  ⟨fun _ _ hf => hf, fun k o hf => cell_of_heap (setRow_other w b k cs (fun e => hb o (e ▸ hf))) o⟩

theorem RepCells.append_inv : ∀ (as : List AC) (bs : List AC) (us : List Value) (S : List Nat), RepCells w F lb g (as ++ bs) us S → ∃ u1 u2 S1 S2, us = u1 ++ u2 ∧ S = S1 ++ S2 ∧ RepCells w F lb g as u1 S1 ∧ RepCells w F lb g bs u2 S2
  | [], bs, us, S, h => ⟨[], us, [], S, rfl, rfl, ⟨rfl, rfl⟩, h⟩
  | x :: as, bs, us, S, h => by
    simp only [List.cons_append, RepCells] at h
    obtain ⟨u, us', S1, S2, rfl, rfl, h3, h4⟩ := h
    obtain ⟨u1, u2, T1, T2, rfl, rfl, k1, k2⟩ := RepCells.append_inv as bs us' S2 h4
    exact ⟨u :: u1, u2, S1 ++ T1, T2, rfl, by simp, ⟨u, u1, S1, T1, rfl, rfl, h3, k1⟩, k2⟩

theorem RepCells.plain : ∀ (as : List AC) (us : List Value) (S : List Nat), (∀ x, x ∈ as → Ai.unD x = x) → RepCells w F lb g as us S → S = [] ∧ RepACs w F lb g as us
  | [], _, _, _, h => by simp only [RepCells] at h; simp [RepACs, h]
  | x :: as, us, S, hx, h => by
    simp only [RepCells] at h
    obtain ⟨u, us', S1, S2, rfl, rfl, h3, h4⟩ := h
    obtain ⟨k1, k2⟩ := RepCells.plain as us' S2 (fun y hy => hx y (by simp [hy])) h4
    have hxx := hx x (by simp)
    have : S1 = [] ∧ RepAC w F lb g x u := by
      cases x
      case d x => simp [Ai.unD] at hxx
      case m x => simp [Ai.unD] at hxx
      all_goals exact ⟨h3.2, h3.1⟩
    exact ⟨by simp [this.1, k1], u, us', rfl, this.2, k2⟩

theorem flatten_set {α : Type} : ∀ (rows : List (List α)) (i : Nat) (r : List α), i < rows.length → rows.flatten = (rows.take i).flatten ++ (rows.getD i [] ++ (rows.drop (i + 1)).flatten) ∧ (rows.set i r).flatten = (rows.take i).flatten ++ (r ++ (rows.drop (i + 1)).flatten)
  | [], _, _, h => by simp at h
  | q :: rows, 0, r, _ => by simp
  | q :: rows, i + 1, r, h => by
    obtain ⟨h1, h2⟩ := flatten_set rows i r (by simpa using h)
    simp only [List.flatten_cons, List.take_succ_cons, List.drop_succ_cons, List.set_cons_succ, List.append_assoc, h2]
    refine ⟨?_, trivial⟩
    rw [h1]; simp

theorem flatten_len {α : Type} {sz : Nat} : ∀ (rows : List (List α)), (∀ r, r ∈ rows → r.length = sz) → rows.flatten.length = rows.length * sz
  | [], _ => by simp
  | r :: rs, h => by rw [List.flatten_cons, List.length_append, flatten_len rs (fun q hq => h q (by simp [hq])), h r (by simp)]; simp [Nat.add_mul]; omega

theorem unD_isD {x : AC} (h : Ai.unD x = x) : isD x = false := by cases x <;> simp_all [Ai.unD, isD]
theorem noD_set {rows : List (List AC)} {i off : Nat} {xs : List AC} (hi : i < rows.length) (hp : ∀ a, a ∈ ((rows.getD i []).drop off).take xs.length → Ai.unD a = a) (h : noD (rows.set i (splice (rows.getD i []) off xs)) = true) : noD rows = true := by
  simp only [noD, List.all_eq_true, Bool.not_eq_true'] at h ⊢
  intro r hr x hx
  obtain ⟨j, hj, rfl⟩ := List.getElem_of_mem hr
  by_cases e : j = i
  · subst e
    have hg : rows.getD j [] = rows[j] := by rw [List.getD_eq_getElem?_getD, List.getElem?_eq_getElem hj]; rfl
    rw [hg] at hp h
    have hs := h (splice rows[j] off xs) (List.mem_of_getElem? (i := j) (by rw [List.getElem?_set_self (by simpa using hj)]))
    have hsp : rows[j] = rows[j].take off ++ ((rows[j].drop off).take xs.length ++ rows[j].drop (off + xs.length)) := by
      rw [← List.drop_drop, List.take_append_drop, List.take_append_drop]
    rw [hsp] at hx
    rcases List.mem_append.1 hx with hx | hx
    · exact hs x (by unfold splice; exact List.mem_append_left _ hx)
    · rcases List.mem_append.1 hx with hx | hx
      · exact unD_isD (hp x hx)
      · exact hs x (by unfold splice; exact List.mem_append_right _ (List.mem_append_right _ hx))
  · exact h rows[j] (List.mem_of_getElem? (i := j) (by rw [List.getElem?_set_ne (Ne.symm e), List.getElem?_eq_getElem hj])) x hx

theorem storeA_sound (hT : TabOk P tab) (h : Sim w0 M0 F0 F g s a w) {o : Oper} {t : TypeId} {p x : Operand} (hop : o.op = .store t p x) {pr : Prop} {e : Eff} (ho : storeA tab s.lb t (opv s p) (opv s x) = some (pr, e)) (hp : pr) (hk : e.ok o.dst s) :
    Goes P w0 M0 F0 F (e.app o.dst s) a w o := by
  have E := opv_sound h
  have Ep := E p
  have Ex := E x
  have put : ∀ {l : Nat} {B : LB} {wn : World}, Sim w0 M0 F0 F g (s.put l B) a wn → (∀ t, o.dst = some t → t < s.n) → (Instr.storeAt t (a.eval p) (a.eval x)).run P w = .ok () wn → Goes P w0 M0 F0 F ((s.put l B).set o.dst .any) a w o := by
    intro l B wn hs hd hr
    exact ⟨undef, wn, g, hs.set? hd (by simp [RepAV]), .inr ⟨rfl, by simp [execOp, hop, hr]⟩⟩
  unfold storeA at ho
  split at ho
  · rename_i ti l off xs ht hpv hxs
    obtain ⟨info, z, d, ok⟩ := hT _ _ ht
    split at ho
    · rename_i cells hl
      split at ho
      · rename_i hfit
        obtain ⟨rfl, rfl⟩ := Prod.mk.inj (Option.some.inj ho)
        rw [hpv] at Ep
        simp only [RepAV, RepAC] at Ep
        obtain ⟨_, B, hB, hq⟩ := Ep
        rw [hl] at hB
        obtain rfl := Option.some.inj hB
        simp only [okPtrB] at hq
        obtain ⟨cs, ee, hh, hr, hds⟩ := h.lb l _ hl
        have hxr := Ex.cs hxs
        have hlx := RepACs.len _ _ hxr
        have hlc := RepACs.len _ _ hr
        simp only [Array.length_toList] at hlx
        have hsoft := h.so l _ hl
        simp only [SoftOk] at hsoft
        have hrun := run_storeVar (P := P) (w := w) ok (g.bl l) off (a.eval x) (by omega) hh (by simp; omega) hxr.ones
        rw [← hq] at hrun
        have hst := setRow_stays (w := w) hsoft (cs.take off ++ ((a.eval x).cells.toList ++ cs.drop (off + (a.eval x).cells.toList.length))).toArray
        refine put (wn := w.setRow (g.bl l) (cs.take off ++ ((a.eval x).cells.toList ++ cs.drop (off + (a.eval x).cells.toList.length))).toArray) ?_ hk hrun
        refine h.turn hl ⟨fun _ _ h => h, fun _ _ h => h, fun _ _ _ _ h => h, fun _ _ h => h⟩ hst (fun k hk' => setRow_other w _ k _ (fun e => hk' (by rw [hds]; simp [e]))) (by simp) rfl rfl rfl ?_ (by simpa [SoftOk] using hsoft)
        intro K
        exact ⟨_, ee, setRow_heap w (g.bl l) cs.toArray _ ee (0, 0) hh, RepACs.mono hst K _ _ (hr.splice hxr off), hds⟩
      · cases ho
    · cases ho
  · rename_i ti l n i off xs ht hpv hxs
    obtain ⟨info, z, d, ok⟩ := hT _ _ ht
    split at ho
    · rename_i ee sz rows hl
      split at ho
      · rename_i hfit
        obtain ⟨hx1, hx2, hn⟩ := hfit
        obtain ⟨rfl, rfl⟩ := Prod.mk.inj (Option.some.inj ho)
        rw [hpv] at Ep
        simp only [RepAV, RepAC] at Ep
        obtain ⟨_, B, hB, hq⟩ := Ep
        rw [hl] at hB
        obtain rfl := Option.some.inj hB
        simp only [okEpB] at hq
        obtain ⟨hi, b, cap, hhd, hpe⟩ := hq.2 hn
        obtain ⟨hsz, hrl, us, S, hown, hcells, hds⟩ := h.lb l _ hl
        have hxr := Ex.cs hxs
        have hlx := RepACs.len _ _ hxr
        simp only [Array.length_toList] at hlx
        have hsoft := h.so l _ hl
        simp only [SoftOk] at hsoft
        have hsoftb : ∀ q, ¬ F b q := fun q => hsoft.1 b (by rw [hhd]; simp [blkOf, Value.ownBlock]) q (by simp)
        obtain ⟨hul, hrow⟩ := hown
        rcases hrow with ⟨k1, k2⟩ | ⟨g1, cap1, cur, k1, _, hh, hle, hcm, hcs, htk⟩
        · omega
        rw [hhd] at k1
        simp only [Value.slice.injEq, Option.some.injEq, Addr.mk.injEq] at k1
        obtain ⟨⟨rfl, _⟩, _, rfl⟩ := k1
        obtain ⟨f1, f2⟩ := flatten_set rows i (splice (rows.getD i []) off xs) (by omega)
        obtain ⟨_, hrlen, hbd⟩ := flatten_row rows i hrl (by omega)
        have hfl := flatten_len rows hrl
        have hislt : i * sz + sz ≤ rows.length * sz := by rw [← Nat.succ_mul]; exact Nat.mul_le_mul_right _ (by omega)
        have hcapsz : rows.length * sz ≤ cap * sz := Nat.mul_le_mul_right _ hle
        rw [f1] at hcells
        obtain ⟨uA, uR, SA, SR, rfl, rfl, cA, cR⟩ := RepCells.append_inv _ _ _ _ hcells
        obtain ⟨uM, uB, SM, SB, rfl, rfl, cM, cB⟩ := RepCells.append_inv _ _ _ _ cR
        have lA : uA.length = i * sz := by
          rw [← RepCells.len _ _ _ cA, flatten_len (rows.take i) (fun r hr => hrl r (List.mem_of_mem_take hr))]
          rw [List.length_take, Nat.min_eq_left (by omega)]
        have lM : uM.length = sz := by rw [← RepCells.len _ _ _ cM, hrlen]
        have hsp : rows.getD i [] = (rows.getD i []).take off ++ (((rows.getD i []).drop off).take xs.length ++ (rows.getD i []).drop (off + xs.length)) := by
          rw [← List.drop_drop, List.take_append_drop, List.take_append_drop]
        have cM' := cM
        rw [hsp] at cM'
        obtain ⟨v1, v23, T1, T23, hv1, rfl, c1, c23⟩ := RepCells.append_inv _ _ _ _ cM'
        obtain ⟨v2, v3, T2, T3, rfl, rfl, c2, c3⟩ := RepCells.append_inv _ _ _ _ c23
        obtain ⟨rfl, rM⟩ := RepCells.plain _ _ _ hp c2
        have l1 : v1.length = off := by rw [← RepCells.len _ _ _ c1, List.length_take, hrlen]; omega
        have l2 : v2.length = xs.length := by rw [← RepCells.len _ _ _ c2, List.length_take, List.length_drop, hrlen]; omega
        have hlx' : (a.eval x).cells.toList.length = xs.length := by simpa using hlx.symm
        have hm1 : uM.take off = v1 := by rw [hv1]; exact List.take_left' l1
        have hm2 : uM.drop (off + (a.eval x).cells.toList.length) = v3 := by
          rw [hv1, ← List.append_assoc]; exact List.drop_left' (by rw [List.length_append, l1, l2, hlx'])
        have hrun := run_storeVar (P := P) (w := w) ok b (i * sz + off) (a.eval x) (by omega) hh (by rw [hcs]; omega) hxr.ones
        rw [← hpe] at hrun
        have hst := setRow_stays (w := w) hsoftb (cur.toList.take (i * sz + off) ++ ((a.eval x).cells.toList ++ cur.toList.drop (i * sz + off + (a.eval x).cells.toList.length))).toArray
        refine put (wn := w.setRow b (cur.toList.take (i * sz + off) ++ ((a.eval x).cells.toList ++ cur.toList.drop (i * sz + off + (a.eval x).cells.toList.length))).toArray) ?_ hk hrun
        have hbl : blkOf (g.hd l) = [b] := by rw [hhd]; simp [blkOf, Value.ownBlock]
        refine h.turn hl ⟨fun n u hq => by simpa [okOwnB] using hq, fun _ _ h => h, fun n i off u hq => by simpa [okEpB] using hq, fun _ _ h => h⟩ hst (fun k hk' => setRow_other w _ k _ (fun e => hk' (by rw [hds, hbl]; simp [e]))) (by simp) rfl rfl rfl ?_
          ⟨by simpa using hsoft.1, fun _ hn => hsoft.2 trivial (noD_set (by omega) hp hn)⟩
        intro K
        have hSown : ∀ k, k ∈ SA ++ ((T1 ++ T3) ++ SB) → k ≠ b := by
          intro k hk' e
          have hnd := h.nd l _ hl
          rw [hds, hbl] at hnd
          simp only [List.nil_append, List.singleton_append, List.nodup_cons] at hnd
          refine hnd.1 (e ▸ ?_)
          simp only [List.mem_append, List.nil_append] at hk' ⊢
          rcases hk' with hk' | (hk' | hk') | hk' <;> simp [hk']
        refine ⟨hsz, fun r hr => ?_, uA ++ ((uM.take off ++ ((a.eval x).cells.toList ++ uM.drop (off + (a.eval x).cells.toList.length))) ++ uB), SA ++ ((T1 ++ T3) ++ SB), ?_, ?_, by simpa using hds⟩
        · rcases List.mem_or_eq_of_mem_set hr with hr | rfl
          · exact hrl r hr
          · unfold splice; simp only [List.length_append, List.length_take, List.length_drop, hrlen]; omega
        · refine ⟨?_, .inr ⟨b, cap, _, by rw [hhd]; simp [hn], Nat.zero_le _, setRow_heap w b cur _ ee (0, 0) hh, by simpa using hle, hcm, ?_, ?_⟩⟩
          · simp only [List.length_append, List.length_take, List.length_drop, List.length_set, lA, lM, Array.length_toList] at hul ⊢
            omega
          · simp only [List.size_toArray, List.length_append, List.length_take, List.length_drop, Array.length_toList]
            omega
          · have hcl : cur.toList = (uA ++ (uM ++ uB)) ++ cur.toList.drop (rows.length * sz) := by rw [← htk, List.take_append_drop]
            generalize cur.toList.drop (rows.length * sz) = D at hcl
            simp only [List.length_set]
            rw [hcl]
            have e1 : (uA ++ (uM ++ uB) ++ D).take (i * sz + off) = uA ++ uM.take off := by
              rw [List.append_assoc, List.take_append, lA, List.take_of_length_le (by omega), show i * sz + off - i * sz = off by omega, List.append_assoc, List.take_append_of_le_length (by omega)]
            have e2 : (uA ++ (uM ++ uB) ++ D).drop (i * sz + off + (a.eval x).cells.toList.length) = uM.drop (off + (a.eval x).cells.toList.length) ++ (uB ++ D) := by
              rw [List.append_assoc, List.drop_append, lA, List.drop_eq_nil_of_le (by omega), List.nil_append, show i * sz + off + (a.eval x).cells.toList.length - i * sz = off + (a.eval x).cells.toList.length by omega, List.append_assoc, List.drop_append_of_le_length (by simp; omega)]
            rw [e1, e2]
            have lU : (uA ++ (uM ++ uB)).length = rows.length * sz := hul
            simp only [List.length_append] at lU
            have : (uA ++ uM.take off ++ ((a.eval x).cells.toList ++ (uM.drop (off + (a.eval x).cells.toList.length) ++ (uB ++ D)))) =
                (uA ++ ((uM.take off ++ ((a.eval x).cells.toList ++ uM.drop (off + (a.eval x).cells.toList.length))) ++ uB)) ++ D := by simp
            rw [this]
            refine List.take_left' ?_
            simp only [List.length_append, List.length_take, List.length_drop, Array.length_toList]
            omega
        · rw [f2]
          have keep : ∀ k, k ∈ SA ++ ((T1 ++ T3) ++ SB) → (w.setRow b (cur.toList.take (i * sz + off) ++ ((a.eval x).cells.toList ++ cur.toList.drop (i * sz + off + (a.eval x).cells.toList.length))).toArray).heap[k]? = w.heap[k]? := fun k hk' => setRow_other w b k _ (hSown k hk')
          refine RepCells.append _ _ _ _ _ _ (RepCells.mono hst K _ _ _ (fun k hk' => keep k (by simp [hk'])) cA) ?_
          refine RepCells.append _ _ _ _ _ _ ?_ (RepCells.mono hst K _ _ _ (fun k hk' => keep k (by simp [hk'])) cB)
          rw [hm1, hm2]
          unfold splice
          refine RepCells.append _ _ _ _ _ _ (RepCells.mono hst K _ _ _ (fun k hk' => keep k (by simp [hk'])) c1) ?_
          have := RepCells.append _ _ _ _ _ _ (RepACs.cells _ _ (RepACs.mono hst K _ _ hxr)) (RepCells.mono hst K _ _ _ (fun k hk' => keep k (by simp [hk'])) c3)
          simpa [splice] using this
      · cases ho
    · cases ho
  · cases ho

end Go.Ai
