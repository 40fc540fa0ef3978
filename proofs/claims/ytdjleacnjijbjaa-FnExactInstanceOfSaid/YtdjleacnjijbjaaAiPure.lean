/- The operations that leave memory as it is: what the model runs gives what the abstract machine says. -/
import Derived.Test.YtdjleacnjijbjaaAiOps
namespace Go.Ai
set_option linter.unusedVariables false
set_option linter.unusedSimpArgs false
open Go.RowKit

variable {P : Program} {tab : Tab} {w0 : World} {M0 : Ms} {F0 F : Fz} {g : Gh} {s : St} {a : Act} {w : World} {lb : Lk}

theorem RepACs.iff : ∀ (as : List AC) (us : List Value), RepACs w F lb g as us ↔ as.length = us.length ∧ ∀ (i : Nat) x u, as[i]? = some x → us[i]? = some u → RepAC w F lb g x u
  | [], us => by simp only [RepACs]; constructor
                 · rintro rfl; simp
                 · intro h; exact List.eq_nil_of_length_eq_zero (by simpa using h.1.symm)
  | x :: as, us => by
    simp only [RepACs]
    constructor
    · rintro ⟨u, us', rfl, h1, h2⟩
      obtain ⟨h3, h4⟩ := (RepACs.iff as us').1 h2
      refine ⟨by simp [h3], fun i y v hy hv => ?_⟩
      cases i with
      | zero => simp at hy hv; subst hy hv; exact h1
      | succ i => exact h4 i y v (by simpa using hy) (by simpa using hv)
    · rintro ⟨h1, h2⟩
      cases us with
      | nil => simp at h1
      | cons u us' => exact ⟨u, us', rfl, h2 0 x u (by simp) (by simp), (RepACs.iff as us').2 ⟨by simpa using h1, fun i y v hy hv => h2 (i + 1) y v (by simpa using hy) (by simpa using hv)⟩⟩

theorem RepACs.take {as : List AC} {us : List Value} (h : RepACs w F lb g as us) (n : Nat) : RepACs w F lb g (as.take n) (us.take n) := by
  obtain ⟨h1, h2⟩ := (RepACs.iff _ _).1 h
  refine (RepACs.iff _ _).2 ⟨by simp [h1], fun i x u hx hu => ?_⟩
  rw [List.getElem?_take] at hx hu
  split at hx
  · rename_i hi; simp only [hi, if_true] at hu; exact h2 i x u hx hu
  · cases hx
theorem RepACs.drop {as : List AC} {us : List Value} (h : RepACs w F lb g as us) (n : Nat) : RepACs w F lb g (as.drop n) (us.drop n) := by
  obtain ⟨h1, h2⟩ := (RepACs.iff _ _).1 h
  refine (RepACs.iff _ _).2 ⟨by simp [h1], fun i x u hx hu => ?_⟩
  rw [List.getElem?_drop] at hx hu
  exact h2 _ x u hx hu
theorem RepACs.append {as bs : List AC} {us vs : List Value} (h : RepACs w F lb g as us) (k : RepACs w F lb g bs vs) : RepACs w F lb g (as ++ bs) (us ++ vs) := by
  induction as generalizing us with
  | nil => simp only [RepACs] at h; subst h; simpa using k
  | cons x as ih =>
    simp only [RepACs] at h
    obtain ⟨u, us', rfl, h1, h2⟩ := h
    exact ⟨u, us' ++ vs, rfl, h1, ih h2⟩
theorem RepACs.splice {as xs : List AC} {us vs : List Value} (h : RepACs w F lb g as us) (k : RepACs w F lb g xs vs) (off : Nat) :
    RepACs w F lb g (splice as off xs) (us.take off ++ (vs ++ us.drop (off + vs.length))) := by
  unfold Ai.splice
  rw [RepACs.len _ _ k]
  exact (h.take off).append (k.append (h.drop _))

theorem RdCells.cell {b : Nat} : ∀ (cs : List C) (o : Nat), RdCells w F b o cs → ∃ us, RepACs w F lb g (cs.map .c) us ∧ ∀ i u, us[i]? = some u → w.cell? ⟨b, o + i, none⟩ = some u
  | [], _, _ => ⟨[], by simp [RepACs], fun i u h => by simp at h⟩
  | c :: cs, o, h => by
    simp only [RdCells] at h
    obtain ⟨_, ⟨u, hu, hc⟩, h3⟩ := h
    obtain ⟨us, h4, h5⟩ := RdCells.cell cs (o + 1) h3
    refine ⟨u :: us, ⟨u, us, rfl, by simpa only [RepAC] using hc, h4⟩, fun i v hv => ?_⟩
    cases i with
    | zero => simp at hv; subst hv; exact hu
    | succ i => have := h5 i v (by simpa using hv); rwa [show o + 1 + i = o + (i + 1) by omega] at this

theorem RdCells.drop {b : Nat} : ∀ (n : Nat) (cs : List C) (o : Nat), RdCells w F b o cs → RdCells w F b (o + n) (cs.drop n) ∨ cs.length < n
  | 0, cs, o, h => .inl (by simpa using h)
  | n + 1, [], o, h => .inr (by simp)
  | n + 1, c :: cs, o, h => by
    simp only [RdCells] at h
    rcases RdCells.drop n cs (o + 1) h.2.2 with k | k
    · exact .inl (by rw [show o + (n + 1) = o + 1 + n by omega]; simpa using k)
    · exact .inr (by simp; omega)

theorem RdRows.get {b sz : Nat} : ∀ (rows : List (List C)) (o i : Nat), RdRows w F b sz o rows → i < rows.length → RdCells w F b (o + i * sz) (rows.getD i []) ∧ (rows.getD i []).length = sz
  | [], _, _, _, hi => by simp at hi
  | r :: rs, o, i, h, hi => by
    simp only [RdRows] at h
    cases i with
    | zero => simpa using ⟨h.2.1, h.1⟩
    | succ i =>
      have := RdRows.get rs (o + sz) i h.2.2 (by simpa using hi)
      rw [Nat.add_mul, Nat.one_mul, show o + (i * sz + sz) = o + sz + i * sz by omega]
      simpa using this

theorem addr_add (b o n : Nat) : (⟨b, o, none⟩ : Addr).add n = ⟨b, o + n, none⟩ := by unfold Addr.add; split <;> simp_all

/-- A variable is read: its cells in a row. -/
theorem run_loadVar {t : TypeId} {ti : TI} {info : TypeInfo} {z : Value} {d : TypeDesc} (ok : TI.Ok P t ti info z d) (b o : Nat) (us : List Value) (hl : us.length = ti.size) (hc : ∀ i u, us[i]? = some u → w.cell? ⟨b, o + i, none⟩ = some u) :
    (ti.d.agg = true → (loadVar t ⟨b, o, none⟩).run P w = .ok (.agg us.toArray) w) ∧ (ti.d.agg = false → ∀ u, us = [u] → (loadVar t ⟨b, o, none⟩).run P w = .ok u w) := by
  have hd := ok.desc
  have hu := run_underlying ok.und w
  have hlc := run_loadCells_list (P := P) w ⟨b, o, none⟩ us (fun j v hv => by rw [addr_add]; exact hc j v hv)
  constructor
  · intro hagg
    have : (isAgg t).run P w = .ok true w := by
      unfold isAgg
      rw [Sem.run_bind, hu]
      cases htd : ti.d <;> rw [htd] at hagg hd <;> simp [TyD.agg] at hagg
      cases d <;> simp [tyMatch] at hd
      rfl
    simp [loadVar, this, sizeOf, typeInfo, ok.inf, ok.size, ← hl, hlc]
  · intro hagg u hus
    have : (isAgg t).run P w = .ok false w := by
      unfold isAgg
      rw [Sem.run_bind, hu]
      cases htd : ti.d <;> rw [htd] at hagg hd <;> simp [TyD.agg] at hagg
      all_goals (cases d <;> simp [tyMatch] at hd <;> rfl)
    have h0 := hc 0 u (by simp [hus])
    simp only [Nat.add_zero] at h0
    simp [loadVar, this, h0]

theorem opv_sound (h : Sim w0 M0 F0 F g s a w) (x : Operand) : RepAV w F s.lb g (opv s x) (a.eval x) := by
  cases x with
  | tmp t => exact h.sl t
  | const v =>
    simp only [opv, Act.eval]
    cases v <;> simp only [constAV, RepAV, RepAC, Rd, okv, and_self]
    rename_i A n c
    cases A with
    | none => cases n with
      | zero => cases c <;> simp [RepAV, RepAC]
      | succ n => simp [RepAV]
    | some A => simp [RepAV]
  | global gg => simp [opv, RepAV]
  | func f => simp [opv, RepAV, RepAC, Act.eval, Rd, okv]

theorem RepAV.cs {v : AV} {u : Value} {xs : List AC} (h : RepAV w F lb g v u) (hx : v.cs = some xs) : RepACs w F lb g xs u.cells.toList := by
  cases v <;> simp only [AV.cs] at hx
  case one x =>
    obtain rfl := Option.some.inj hx
    simp only [RepAV] at h
    have h1 := h.one
    refine ⟨u, [], ?_, h, by simp [RepACs]⟩
    cases u <;> simp_all [Value.cells, Value.oneCell']
  case agg as =>
    obtain rfl := Option.some.inj hx
    simp only [RepAV] at h
    obtain ⟨us, rfl, h2⟩ := h
    simpa [Value.cells] using h2
  all_goals cases hx

/-- The values that a load gives stand for the cells. -/
theorem load_cells {t : TypeId} {ti : TI} {info : TypeInfo} {z : Value} {d : TypeDesc} (ok : TI.Ok P t ti info z d) (b o : Nat) (as : List AC) (us : List Value) (hr : RepACs w F lb g as us) (hl : as.length = ti.size)
    (hc : ∀ i u, us[i]? = some u → w.cell? ⟨b, o + i, none⟩ = some u) {v : AV} (hv : mkAV ti.d.agg as = some v) : ∃ u, (loadVar t ⟨b, o, none⟩).run P w = .ok u w ∧ RepAV w F lb g v u := by
  have hlen := RepACs.len _ _ hr
  obtain ⟨h1, h2⟩ := run_loadVar (P := P) ok b o us (by omega) hc
  unfold mkAV at hv
  cases hagg : ti.d.agg with
  | true =>
    simp only [hagg, if_true] at hv
    obtain rfl := Option.some.inj hv
    exact ⟨_, h1 hagg, us, rfl, hr⟩
  | false =>
    simp only [hagg] at hv
    match as, hv, hr with
    | [x], hv, hr =>
      simp at hv
      subst hv
      simp only [RepACs] at hr
      obtain ⟨u, us', rfl, h3, rfl⟩ := hr
      exact ⟨u, h2 hagg u rfl, by simpa only [RepAV] using h3⟩

theorem unD_rep {x : AC} {u : Value} {S : List Nat} (h : RepCell w F lb g x u S) : RepAC w F lb g (unD x) u := by
  cases x
  case d x => simpa only [unD, RepAC] using h.2
  case m x => simpa only [unD, RepAC] using Own.one h
  all_goals exact h.1

theorem RepCells.unD : ∀ {as : List AC} {us : List Value} {S : List Nat}, RepCells w F lb g as us S → RepACs w F lb g (as.map unD) us
  | [], _, _, h => by simp only [RepCells] at h; simp [RepACs, h]
  | x :: as, us, S, h => by
    simp only [RepCells] at h
    obtain ⟨u, us', S1, S2, rfl, rfl, h3, h4⟩ := h
    exact ⟨u, us', rfl, unD_rep h3, RepCells.unD h4⟩

theorem flatten_row {α : Type} {sz : Nat} : ∀ (rows : List (List α)) (i : Nat), (∀ r, r ∈ rows → r.length = sz) → i < rows.length → (rows.flatten.drop (i * sz)).take sz = rows.getD i [] ∧ (rows.getD i []).length = sz ∧ i * sz + sz ≤ rows.flatten.length
  | [], _, _, hi => by simp at hi
  | r :: rs, i, h, hi => by
    have hr := h r (by simp)
    cases i with
    | zero => simp [← hr]
    | succ i =>
      obtain ⟨h1, h2, h3⟩ := flatten_row rs i (fun q hq => h q (by simp [hq])) (by simpa using hi)
      refine ⟨?_, by simpa using h2, by rw [List.flatten_cons, List.length_append, hr, Nat.add_mul]; omega⟩
      rw [List.flatten_cons, List.drop_append, Nat.add_mul, Nat.one_mul, hr]
      rw [List.drop_eq_nil_of_le (by omega), List.nil_append, Nat.add_sub_cancel]
      simpa using h1

theorem tab_ok {t : TypeId} {ti : TI} (hT : TabOk P tab) (h : tab t = some ti) : ∃ info z d, TI.Ok P t ti info z d := hT t ti h

theorem RepCells.get {as : List AC} {us : List Value} {S : List Nat} (h : RepCells w F lb g as us S) : as.length = us.length := RepCells.len _ _ _ h

theorem loadA_sound (hT : TabOk P tab) (h : Sim w0 M0 F0 F g s a w) {t : TypeId} {p : AV} {u : Value} (hu : RepAV w F s.lb g p u) {pr : Prop} {v : AV} (ho : loadA tab s.lb t p = some (pr, v)) (hp : pr) :
    ∃ x, (Instr.loadAt t u).run P w = .ok x w ∧ RepAV w F s.lb g v x := by
  unfold loadA at ho
  split at ho
  · rename_i ti l off ht
    obtain ⟨info, z, d, ok⟩ := hT t ti ht
    split at ho
    · rename_i cells hl
      split at ho
      · rename_i hfit
        simp only [RepAV, RepAC] at hu
        obtain ⟨_, B, hB, hq⟩ := hu
        rw [hl] at hB
        obtain rfl := Option.some.inj hB
        simp only [okPtrB] at hq
        subst hq
        obtain ⟨cs, e, hh, hr, _⟩ := h.lb l _ hl
        cases hm : mkAV ti.d.agg ((cells.drop off).take ti.size) with
        | none => rw [hm] at ho; cases ho
        | some v' =>
          rw [hm] at ho
          simp at ho
          obtain ⟨_, rfl⟩ := ho
          obtain ⟨x, hx, hv⟩ := load_cells ok (g.bl l) off _ _ ((hr.drop off).take ti.size) (by simp; omega) (fun i y hy => by
            rw [List.getElem?_take] at hy
            split at hy
            · rw [List.getElem?_drop] at hy
              rw [cell_of_row w (g.bl l) (off + i) cs.toArray e (0, 0) hh]
              simpa using hy
            · cases hy) hm
          exact ⟨x, by simpa [Instr.loadAt, Instr.sureAddr] using hx, hv⟩
      · cases ho
    · cases ho
  · rename_i ti l n i off ht
    obtain ⟨info, z, d, ok⟩ := hT t ti ht
    split at ho
    · rename_i e sz rows fz hl
      split at ho
      · rename_i hfit
        obtain ⟨hn, hfit⟩ := hfit
        simp only [RepAV, RepAC] at hu
        obtain ⟨_, B, hB, hq⟩ := hu
        rw [hl] at hB
        obtain rfl := Option.some.inj hB
        simp only [okEpB] at hq
        obtain ⟨hi, b, cap, hhd, rfl⟩ := hq.2 hn
        obtain ⟨hsz, hrl, xs, S, hown, hcells, hds⟩ := h.lb l _ hl
        obtain ⟨hf1, hf2, hf3⟩ := flatten_row rows i hrl (by omega)
        have hun := RepCells.unD hcells
        have hrow : RepACs w F s.lb g ((((rows.getD i []).drop off).take ti.size).map unD) ((xs.drop (i * sz + off)).take ti.size) := by
          have := (((hun.drop (i * sz)).take sz).drop off).take ti.size
          rw [← List.map_drop, ← List.map_take, ← List.map_drop, ← List.map_take, hf1] at this
          rw [List.drop_take, List.take_take, List.drop_drop, Nat.min_eq_left (by omega)] at this
          exact this
        have hcellx : ∀ j y, ((xs.drop (i * sz + off)).take ti.size)[j]? = some y → w.cell? ⟨b, i * sz + off + j, none⟩ = some y := by
          intro j y hy
          rw [List.getElem?_take] at hy
          split at hy
          · rw [List.getElem?_drop] at hy
            have := hown.cells (g := b) (by rw [hhd]; rfl) (i * sz + off + j) y hy
            rw [addr_add, Nat.zero_add] at this
            exact this
          · cases hy
        have hlen : ((((rows.getD i []).drop off).take ti.size).map unD).length = ti.size := by simp only [List.length_map, List.length_take, List.length_drop, hf2]; omega
        have fin : ∀ v, mkAV ti.d.agg ((((rows.getD i []).drop off).take ti.size).map unD) = some v → ∃ x, (Instr.loadAt t (.pointer (some ⟨b, i * sz + off, none⟩))).run P w = .ok x w ∧ RepAV w F s.lb g v x := by
          intro v hv
          obtain ⟨x, hx, hv⟩ := load_cells ok b (i * sz + off) _ _ hrow hlen hcellx hv
          exact ⟨x, by simpa [Instr.loadAt, Instr.sureAddr] using hx, hv⟩
        split at ho
        · rename_i hagg
          obtain ⟨rfl, rfl⟩ := Prod.mk.inj (Option.some.inj ho)
          exact fin _ (by simp [mkAV, hagg])
        · rename_i hagg
          split at ho
          · rename_i h1
            obtain ⟨rfl, rfl⟩ := Prod.mk.inj (Option.some.inj ho)
            refine fin _ ?_
            have hofflt : off < (rows.getD i []).length := by rw [hf2]; omega
            rw [h1]
            have : ((rows.getD i []).drop off).take 1 = [(rows.getD i []).getD off .any] := by
              rw [List.drop_eq_getElem_cons hofflt, List.take_succ_cons, List.take_zero, List.getD_eq_getElem?_getD (l := rows.getD i []), List.getElem?_eq_getElem hofflt]
              rfl
            rw [this]
            simp [mkAV, hagg]
          · cases ho
      · cases ho
    · cases ho
  · rename_i ti cs ht
    obtain ⟨info, z, d, ok⟩ := hT t ti ht
    simp only [RepAV, RepAC] at hu
    obtain ⟨b, o, rfl, hc⟩ := hu
    obtain ⟨us, h1, h2⟩ := RdCells.cell (lb := s.lb) (g := g) cs o hc
    have fin : ti.size ≤ cs.length → ∀ v, mkAV ti.d.agg ((cs.take ti.size).map .c) = some v → ∃ x, (Instr.loadAt t (.pointer (some ⟨b, o, none⟩))).run P w = .ok x w ∧ RepAV w F s.lb g v x := by
      intro hle v hv
      obtain ⟨x, hx, hv⟩ := load_cells ok b o ((cs.take ti.size).map .c) (us.take ti.size) (by rw [List.map_take]; exact h1.take _) (by simp; omega) (fun i y hy => by
        rw [List.getElem?_take] at hy
        split at hy
        · exact h2 i y hy
        · cases hy) hv
      exact ⟨x, by simpa [Instr.loadAt, Instr.sureAddr] using hx, hv⟩
    split at ho
    · rename_i hagg
      obtain ⟨rfl, rfl⟩ := Prod.mk.inj (Option.some.inj ho)
      exact fin hp _ (by simp [mkAV, hagg])
    · rename_i hagg
      split at ho
      · rename_i hs1
        obtain ⟨rfl, rfl⟩ := Prod.mk.inj (Option.some.inj ho)
        refine fin (by omega) _ ?_
        rw [hs1]
        cases cs with
        | nil => simp at hp
        | cons c cs => simp [mkAV, hagg]
      · cases ho
  · cases ho

end Go.Ai
