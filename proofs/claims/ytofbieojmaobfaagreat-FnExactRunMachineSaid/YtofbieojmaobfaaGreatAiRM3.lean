/- Runs of machines: they end. -/
import Derived.Test.YtofbieojmaobfaaGreatAiZ9
import Derived.Test.YtofbieojmaobfaaGreatAiRow2
import Derived.Test.YtofbieojmaobfaaGreatAiZ2
import Derived.Test.YtofbieojmaobfaaGreatAiN1
import Derived.Test.YtofbieojmaobfaaGreatAiI5
namespace Go.Ai
set_option linter.unusedVariables false
set_option linter.unusedSimpArgs false
open Go.Proofs
set_option maxRecDepth 100000

def wkOf (ws : List Nat) : List Int → Nat
  | [] => 0
  | x :: xs => 1 + ws.getD x.toNat 0 + wkOf ws xs
mutual
def Tm.wrk (st : List GStrict) : Tm → Nat
  | .mk k _ s ts => 1 + wkOf (Tm.wrks st ts) (if k = 2 then strictOf st s else [])
def Tm.wrks (st : List GStrict) : List Tm → List Nat
  | [] => []
  | a :: ts => a.wrk st :: Tm.wrks st ts
end
theorem wrks_map (st : List GStrict) : ∀ (ts : List Tm), Tm.wrks st ts = ts.map (Tm.wrk st)
  | [] => rfl
  | a :: ts => by simp [Tm.wrks, wrks_map st ts]
def wkT (st : List GStrict) (nx : Int) : Tm → Nat
  | .mk k _ s ts => 1 + wkOf (Tm.wrks st ts) ((if k = 2 then strictOf st s else []).drop nx.toNat)
theorem wkT_zero (st : List GStrict) (t : Tm) : wkT st 0 t = t.wrk st := by
  obtain ⟨k, n, s, ts⟩ := t
  simp [wkT, Tm.wrk]
/-- What is left to be done, up the stack. -/
def wkM (d : GDefinition) : Tm → Int → List GFrame → Nat
  | u, nx, [] => wkT d.st nx u
  | u, nx, f :: fs => wkT d.st nx u + match fillB d f u with
    | some v => wkM d v (f.nx + 1) fs
    | none => 0
def restM (d : GDefinition) (u : Tm) : List GFrame → Nat
  | [] => 0
  | f :: fs => match fillB d f u with
    | some v => wkM d v (f.nx + 1) fs
    | none => 0
theorem wkM_eq (d : GDefinition) (u : Tm) (nx : Int) : ∀ (fs : List GFrame), wkM d u nx fs = wkT d.st nx u + restM d u fs
  | [] => rfl
  | f :: fs => rfl
def wkG (d : GDefinition) (m : GMachine) : Nat := wkM d m.fo m.nx m.st.reverse
/-- A step rewrites, or less is left to be done. -/
theorem move_less (d : GDefinition) (m m' : GMachine) (h : moveM d m = some m') : m'.rw = IntKind.i64.wrap (m.rw + 1) ∨ (m'.rw = m.rw ∧ wkG d m' < wkG d m) := by
  obtain ⟨⟨k, n, s, ts⟩, nx, fs, rw_⟩ := m
  unfold moveM at h
  by_cases hh : 0 ≤ holeB d ⟨.mk k n s ts, nx⟩
  · simp only [if_pos hh] at h
    cases h
    refine .inr ⟨rfl, ?_⟩
    rcases holeX_in (if k = 2 then strictOf d.st s else []) nx ts.length with h | ⟨i, j, rfl, hi, hij, hj, h⟩
    · simp only [holeB] at hh; omega
    have hjj : holeB d ⟨.mk k n s ts, (i : Int)⟩ = (j : Int) := h
    have e1 : ts.getD j zeroT = ts[j] := by rw [List.getD_eq_getElem?_getD, List.getElem?_eq_getElem hj, Option.getD_some]
    have hfb : fillB d ⟨.mk k n s ts, (i : Int)⟩ ts[j] = some (.mk k n s ts) := by
      unfold fillB fillH
      rw [hjj, if_neg (by omega)]
      simp [withA]
    simp only [wkG, Tm.args, List.reverse_append, List.reverse_cons, List.reverse_nil, List.nil_append, List.singleton_append]
    rw [hjj, Int.toNat_natCast, e1]
    simp only [wkM, hfb]
    rw [wkM_eq, wkM_eq d (.mk k n s ts) (i : Int), wkT_zero]
    simp only [wkT]
    have ei : ((i : Int) + 1).toNat = i + 1 := by omega
    rw [ei, Int.toNat_natCast, List.drop_eq_getElem_cons hi]
    simp only [wkOf]
    have hxi : (if k = 2 then strictOf d.st s else [])[i] = (j : Int) := by rw [← hij, List.getD_eq_getElem?_getD, List.getElem?_eq_getElem hi, Option.getD_some]
    rw [hxi, Int.toNat_natCast, wrks_map]
    have : (ts.map (Tm.wrk d.st)).getD j 0 = ts[j].wrk d.st := by simp [List.getD, hj]
    rw [this]
    omega
  · simp only [if_neg hh] at h
    by_cases hro : 0 ≤ rootF d (.mk k n s ts)
    · simp only [if_pos hro] at h
      cases h
      exact .inl rfl
    · simp only [if_neg hro] at h
      rcases List.eq_nil_or_concat fs with rfl | ⟨gs, f, rfl⟩
      · simp at h
      · rw [List.concat_eq_append] at h ⊢
        simp only [List.getLast?_append, List.getLast?_singleton, Option.some_or, List.dropLast_concat] at h
        cases hf : fillB d f (.mk k n s ts) with
        | none => rw [hf] at h; cases h
        | some u =>
          rw [hf] at h
          cases h
          refine .inr ⟨rfl, ?_⟩
          simp only [wkG, List.reverse_append, List.reverse_cons, List.reverse_nil, List.nil_append, List.singleton_append]
          simp only [wkM, hf]
          have : 0 < wkT d.st nx (.mk k n s ts) := by simp only [wkT]; omega
          omega
theorem mterm_ge (d : GDefinition) : ∀ (fs : List GFrame) (t u : Tm), mterm d t fs = some u → t.size + fs.length ≤ u.size
  | [], t, u, h => by cases h; simp
  | f :: fs, t, u, h => by
    simp only [mterm] at h
    cases hq : fillB d f t with
    | none => rw [hq] at h; cases h
    | some v =>
      rw [hq] at h
      have ih := mterm_ge d fs v u h
      have : t.size < v.size := by
        obtain ⟨⟨k, n, s, ts⟩, nx⟩ := f
        unfold fillB fillH at hq
        split at hq
        · cases hq
        · rename_i hn
          cases hq
          simp only [holeB] at hn ⊢
          rcases holeX_in (if k = 2 then strictOf d.st s else []) nx ts.length with h | ⟨i, j, _, _, _, hj, h⟩
          · rw [h] at hn; omega
          · rw [h]
            simp only [withA, Int.toNat_natCast, Tm.size]
            have := size_mem (ts.set j t) t (List.mem_set hj t)
            omega
      simp only [List.length_cons]; omega
/-- What holds of a machine on its way. -/
def onWay (d : GDefinition) (m : GMachine) : Prop := m.wf ∧ m.fo.size < 540 ∧ m.st.length < 540 ∧ ∀ f, f ∈ m.st → f.t.size < 540
theorem szL_le {α : Type} (sz : α → Nat) (k : Nat) : ∀ (xs : List α), (∀ x, x ∈ xs → sz x ≤ k) → szL sz xs ≤ (k + 1) * xs.length
  | [], _ => by simp [szL]
  | a :: xs, h => by
    have h1 := h a (by simp)
    have h2 := szL_le sz k xs (fun x hx => h x (by simp [hx]))
    simp only [szL, List.length_cons, Nat.mul_add, Nat.mul_one]; omega
theorem onWay_size (d : GDefinition) (m : GMachine) (h : onWay d m) : m.size < 1048577 := by
  obtain ⟨_, h1, h2, h3⟩ := h
  have := szL_le GFrame.size 540 m.st (fun f hf => by have := h3 f hf; simp only [GFrame.size, szI]; omega)
  have h4 : (540 + 1) * m.st.length ≤ 541 * 540 := Nat.mul_le_mul_left 541 (by omega)
  simp only [GMachine.size, szI]; omega
theorem onWay_next (d : GDefinition) (hw : d.wf) (hs : d.size < 1048577) (m : GMachine) (h : onWay d m) (h2 : (stepMB d m).2 = true) : onWay d (stepMB d m).1 ∧ moveM d m = some (stepMB d m).1 := by
  have hok := stepMB_ok d hw hs m h.1 (onWay_size d m h)
  unfold stepMB at h2 hok ⊢
  split at h2
  case isFalse => cases h2
  rename_i hg
  rw [if_pos hg] at hok ⊢
  cases hm : moveM d m with
  | none => rw [hm] at h2; cases h2
  | some m' =>
    rw [hm] at h2 hok
    simp only at h2 hok ⊢
    split at h2
    case isFalse => cases h2
    rename_i hv
    rw [if_pos hv] at hok ⊢
    simp only at hok ⊢
    simp only [Bool.and_eq_true] at hv
    obtain ⟨u, hu⟩ := Option.isSome_iff_exists.1 hv.2
    rw [hu] at hv
    have huw := (machB_some d m' hok.2 u hu).2
    have hut := tmOk_of u hv.1 huw
    have hge := mterm_ge d m'.st.reverse m'.fo u hu
    rw [List.length_reverse] at hge
    have hu1 := hut.1
    refine ⟨⟨hok.2, by omega, by omega, fun f hf => ?_⟩, by first | rfl | trivial⟩
    have hfr : f ∈ m.st ++ [⟨m.fo, m.nx⟩] := by
      unfold moveM at hm
      split at hm
      · cases hm; exact hf
      · split at hm
        · cases hm; exact List.mem_append_left _ hf
        · split at hm
          · cases hm
          · rename_i g hg
            cases hq : fillB d g m.fo with
            | none => rw [hq] at hm; cases hm
            | some v =>
              rw [hq] at hm
              cases hm
              exact List.mem_append_left _ (List.dropLast_subset _ hf)
    rcases List.mem_append.1 hfr with hf | hf
    · exact h.2.2.2 f hf
    · rw [List.mem_singleton.1 hf]; exact h.2.1
/-- The next machine of a run. -/
def nextM (d : GDefinition) (fuel : Int) (m : GMachine) : Option GMachine := if (stepMB d m).2 && decide ((stepMB d m).1.rw ≤ fuel) then some (stepMB d m).1 else none
theorem run_ends (d : GDefinition) (hw : d.wf) (hs : d.size < 1048577) (fuel : Int) (hf : fuel ≤ 200) : ∀ (a b : Nat) (m : GMachine), onWay d m → 0 ≤ m.rw → m.rw ≤ fuel → (fuel - m.rw).toNat = a → wkG d m = b →
    ∃ (ms : Nat → GMachine) (N : Nat), ms 0 = m ∧ (∀ i, i < N → nextM d fuel (ms i) = some (ms (i + 1))) ∧ nextM d fuel (ms N) = none ∧ ∀ i, i ≤ N → onWay d (ms i) := by
  intro a
  induction a using Nat.strongRecOn with
  | _ a iha =>
    intro b
    induction b using Nat.strongRecOn with
    | _ b ihb =>
      intro m hm h0 h1 ha hb
      cases hn : nextM d fuel m with
      | none => exact ⟨fun _ => m, 0, rfl, fun i hi => by omega, hn, fun i hi => hm⟩
      | some m' =>
        have hn' := hn
        unfold nextM at hn'
        split at hn'
        case isFalse => cases hn'
        rename_i hg
        simp only [Bool.and_eq_true, decide_eq_true_eq] at hg
        cases hn'
        obtain ⟨k1, k2⟩ := onWay_next d hw hs m hm hg.1
        have hrec : ∃ (ms : Nat → GMachine) (N : Nat), ms 0 = (stepMB d m).1 ∧ (∀ i, i < N → nextM d fuel (ms i) = some (ms (i + 1))) ∧ nextM d fuel (ms N) = none ∧ ∀ i, i ≤ N → onWay d (ms i) := by
          rcases move_less d m _ k2 with h | ⟨h, h'⟩
          · rw [IntWalk.i64_in _ (by omega)] at h
            exact iha _ (by omega) _ _ k1 (by omega) hg.2 rfl rfl
          · exact ihb _ (by omega) _ k1 (by omega) hg.2 (by rw [h]; exact ha) rfl
        obtain ⟨ms, N, j1, j2, j3, j4⟩ := hrec
        refine ⟨fun i => match i with
          | 0 => m
          | i + 1 => ms i, N + 1, rfl, fun i hi => ?_, j3, fun i hi => ?_⟩
        · cases i with
          | zero => simp only; rw [hn, j1]
          | succ i => exact j2 i (by omega)
        · cases i with
          | zero => exact hm
          | succ i => exact j4 i (by omega)
end Go.Ai
/- An owned value goes on under another number; one variable's cells are told so. -/
namespace Go.Ai
set_option linter.unusedVariables false
set_option linter.unusedSimpArgs false
open Go.RowKit

theorem Sim.renTok {w0 : World} {M0 : Ms} {F0 F : Fz} {g : Gh} {s : St} {a : Act} {w : World} (h : Sim w0 M0 F0 F g s a w) {l T : Nat} {xs : List (Option C)} (hl : s.lb l = some (.tok xs)) (hT : s.lb T = none) :
    ∃ g', Sim w0 M0 F0 F g' ((s.put l .dead).put T (.tok xs)) a w ∧ (∀ i u, RepAC w F s.lb g (.tk l i) u → RepAC w F ((s.put l .dead).put T (.tok xs)).lb g' (.tk T i) u) ∧ ∀ k, k ≠ l → k ≠ T → g'.bl k = g.bl k := by
  have hne : l ≠ T := fun e => by rw [← e, hl] at hT; cases hT
  have hun : ∀ b, b ∈ g.ds l → ∀ o, ¬ F b o := h.so l _ hl
  have hrep := h.lb l _ hl
  have K : Keeps s.lb g ((s.put l .dead).put T (.tok xs)).lb ((g.upd l (g.bl l) (g.hd l) []).upd T (g.bl T) (g.hd l) (g.ds l)) := by
    constructor
    intro k Bk hB
    by_cases e1 : k = T
    · subst e1; rw [hT] at hB; cases hB
    · by_cases e2 : k = l
      · subst e2
        refine ⟨.dead, by simp only [St.put_lb, if_neg e1, if_true], ?_⟩
        exact ⟨fun _ _ _ => trivial, fun _ _ _ => trivial, fun _ _ _ _ _ => trivial, fun _ _ _ => trivial⟩
      · refine ⟨Bk, by simp [St.put_lb, e1, e2, hB], ?_⟩
        simp only [Gh.upd, if_neg e1, if_neg e2]
        exact ⟨fun _ _ h => h, fun _ _ h => h, fun _ _ _ _ h => h, fun _ _ h => h⟩
  refine ⟨_, h.two hne (vT := g.hd l) (Sl := []) (ST := g.ds l) hl (fun b => b ∈ g.ds l) (fun b hb => .inl hb) (fun b hb => by cases hb) (fun b hb => hb) (by simp) (h.nd l _ hl) (fun b hb => by cases hb) (Stays.refl _ _) (fun b o hb => .inl hb) K trivial ?_ trivial ?_, ?_, ?_⟩
  · simpa [RepLB, Gh.upd] using hrep
  · simp only [SoftOk, Gh.upd, if_true]
    exact hun
  · intro i u hu
    simp only [RepAC] at hu ⊢
    obtain ⟨k1, B, hB, hq⟩ := hu
    rw [hl] at hB
    obtain rfl := Option.some.inj hB
    refine ⟨k1, .tok xs, by simp only [St.put_lb, if_true], ?_⟩
    simpa [okTkB, Gh.upd] using hq
  · intro k e1 e2
    simp [Gh.upd, e1, e2]
def renT (l T : Nat) : AC → AC
  | .tk k i => if k = l then .tk T i else .tk k i
  | a => a
theorem renT_cells {w : World} {F : Fz} {lb lb' : Lk} {g g' : Gh} {l T : Nat} (hu : ∀ i u, RepAC w F lb g (.tk l i) u → RepAC w F lb' g' (.tk T i) u) : ∀ (cells : List AC) (us : List Value), RepACs w F lb g cells us → RepACs w F lb' g' cells us → RepACs w F lb' g' (cells.map (renT l T)) us
  | [], us, h, _ => by simpa only [List.map_nil, RepACs] using h
  | a :: ys, us, h, h' => by
    simp only [RepACs, List.map_cons] at h h' ⊢
    obtain ⟨u, us', rfl, h1, h2⟩ := h
    obtain ⟨u2, us2, e, k1, k2⟩ := h'
    obtain ⟨rfl, rfl⟩ := List.cons.inj e
    refine ⟨u, us', rfl, ?_, renT_cells hu ys us' h2 k2⟩
    unfold renT
    split
    · split
      · rename_i k i e; subst e; exact hu i u h1
      · exact k1
    · exact k1
section
variable {n : Nat} {L : List (Nat × AV)} {B : List (Nat × LB)} {G : List AV} {xs : List (Option C)}
theorem wk_renTok {cells : List AC} (v l T : Nat) (hv : lookB B v = some (.var cells)) (hl : lookB B l = some (.tok xs)) (hT : lookB B T = none) :
    Wk (mk n L B G) (mk n L ((v, .var (cells.map (renT l T))) :: (T, .tok xs) :: (l, .dead) :: B) G) :=
  fun _ _ _ a w ⟨F, g, h⟩ => by
    obtain ⟨g', h', hu, hbl⟩ := h.renTok (T := T) (by rw [mk_lb]; exact hl) (by rw [mk_lb]; exact hT)
    have hvl : v ≠ l := fun e => by rw [e, hl] at hv; cases hv
    have hvT : v ≠ T := fun e => by rw [e, hT] at hv; cases hv
    have hv0 : (mk n L B G).lb v = some (.var cells) := by rw [mk_lb]; exact hv
    have hv' : (((mk n L B G).put l .dead).put T (.tok xs)).lb v = some (.var cells) := by simp only [St.put_lb, if_neg hvT, if_neg hvl]; exact hv0
    obtain ⟨cs0, e0, i1, i2, i3⟩ := h.lb v _ hv0
    obtain ⟨cs, e, h1, h2, h3⟩ := h'.lb v _ hv'
    rw [hbl v hvl hvT, i1] at h1
    obtain ⟨hcs, _⟩ := Obj.cells.inj (Option.some.inj h1)
    obtain rfl : cs0 = cs := by simpa using hcs
    have hc := renT_cells hu cells cs0 i2 h2
    have K : Keeps (((mk n L B G).put l .dead).put T (.tok xs)).lb g' ((((mk n L B G).put l .dead).put T (.tok xs)).put v (.var (cells.map (renT l T)))).lb (g'.upd v (g'.bl v) (g'.hd v) (g'.ds v)) := Keeps.upd (fun B0 hB => by
      rw [hv'] at hB
      obtain rfl := Option.some.inj hB
      exact ⟨fun _ _ _ => trivial, fun _ _ h => h, fun _ _ _ _ _ => trivial, fun _ _ _ => trivial⟩)
    have := h'.putLB (l := v) (b := g'.bl v) (v := g'.hd v) (S := g'.ds v) (B' := .var (cells.map (renT l T))) (fun B0 hB => by
      rw [hv'] at hB
      obtain rfl := Option.some.inj hB
      exact ⟨fun _ _ _ => trivial, fun _ _ h => h, fun _ _ _ _ _ => trivial, fun _ _ _ => trivial⟩)
      ⟨cs0, e0, by rw [show (g'.upd v (g'.bl v) (g'.hd v) (g'.ds v)).bl v = g'.bl v by simp [Gh.upd], hbl v hvl hvT]; exact i1, RepACs.mono (Stays.refl _ _) K _ _ hc, by simpa [Gh.upd] using h3⟩
      (by have := h'.so v _ hv'; simpa [SoftOk, Gh.upd] using this) (h'.nd v _ hv') (fun l' B0 hne hB k hk hk' => h'.dj v l' _ B0 (Ne.symm hne) hv' hB k hk hk') (fun k hk => h'.nw v _ hv' k hk)
    exact ⟨F, _, this⟩
end
end Go.Ai
/- RunMachine on both sides. -/
namespace Go.Ai
set_option linter.unusedVariables false
set_option linter.unusedSimpArgs false
open Go.Proofs
set_option maxRecDepth 100000

def loadM (t : Tm) : GMachine := ⟨t, 0, [], 0⟩
def zeroM : GMachine := ⟨zeroT, 0, [], 0⟩
def runOk (d : GDefinition) (t : Tm) (fuel : Int) : Bool := cfgB d t && (decide (0 ≤ fuel) && decide (fuel ≤ 200))
theorem specLoadM_sat (t : Tm) (h : t.size < 1048577) : Sat Tryz.prog 89 [tmV t] (aggV (loadM t).enc) := by
  have hc := l3Copy_sat t h
  obtain ⟨k, n, s, ts⟩ := t
  refine sat_of_code tbOk mixed Tryz.func89 rfl rfl rfl (by decide +kernel) (by decide +kernel) (Nat.le_of_ble_eq_true rfl) ?_
  simp -implicitDefEqProofs (disch := omega) only [go_sem, Tm.enc]
  refine CallK.mk hc ?_
  simp -implicitDefEqProofs (disch := omega) only [go_sem, Tm.enc, loadM, machEnc, List.map_nil]
  rfl
theorem implLoadMF_sat (t : Tm) (h : t.size < 1048577) : SatF Tryz.prog 90 [tmV t] (aggV (loadM t).enc) := by
  have hc := copyTermF_sat t (by omega)
  obtain ⟨k, n, s, ts⟩ := t
  refine satF_of_code [_] rfl (fun _ h => by cases h) tbOk mixed Tryz.func90 rfl rfl rfl (by decide +kernel) (by decide +kernel) (Nat.le_of_ble_eq_true rfl) ?_
  simp -implicitDefEqProofs (disch := omega) only [go_sem, Tm.enc]
  refine CallK.own hc rfl ?_
  simp -implicitDefEqProofs (disch := omega) only [go_sem, Tm.enc, loadM, machEnc, List.map_nil]
theorem specGood_sat (d : GDefinition) (hs : d.size < 1048577) (t : Tm) (ht : t.size < 30000000) (fuel : Int) : Sat Tryz.prog 88 [aggV d.enc, tmV t, intV fuel] (boolV (runOk d t fuel)) := by
  have hc := specCfg_sat d hs t ht
  have hin := l1In_sat fuel 0 200
  unfold runOk
  generalize (decide (0 ≤ fuel) && decide (fuel ≤ 200)) = b2 at hin ⊢
  generalize cfgB d t = b at hc ⊢
  obtain ⟨k, n, s, ts⟩ := t
  have hde : d.enc = [.sl (d.si.so.map encS), .sl (d.si.op.map GOp.enc), .sl (d.ru.map GRule.enc), .sl (d.st.map GStrict.enc)] := rfl
  refine sat_of_code tbOk mixed Tryz.func88 rfl rfl rfl (by decide +kernel) (by decide +kernel) (Nat.le_of_ble_eq_true rfl) ?_
  simp -implicitDefEqProofs (disch := omega) only [go_sem, Tm.enc, hde]
  refine CallK.mk hc ?_
  simp -implicitDefEqProofs (disch := omega) only [go_sem]
  refine ⟨fun h => ?_, fun h => by rw [h]; rfl⟩
  refine CallK.mk hin ?_
  simp -implicitDefEqProofs (disch := omega) only [go_sem]
  rw [h, Bool.true_and]
theorem onWay_load (t : Tm) (ht : tmOk t) (d : GDefinition) : onWay d (loadM t) :=
  ⟨⟨ht.2.2, wfI_of 0 (by omega) (by omega), ⟨Nat.zero_le _, fun _ h => by cases h⟩, wfI_of 0 (by omega) (by omega)⟩, ht.1, by simp [loadM], fun f hf => by cases hf⟩
theorem next_some (d : GDefinition) (fuel : Int) (m m' : GMachine) (h : nextM d fuel m = some m') : (stepMB d m).1 = m' ∧ (stepMB d m).2 = true ∧ m'.rw ≤ fuel := by
  unfold nextM at h
  split at h
  · rename_i hg
    simp only [Bool.and_eq_true, decide_eq_true_eq] at hg
    cases h
    exact ⟨rfl, hg.1, hg.2⟩
  · cases h
theorem next_none (d : GDefinition) (fuel : Int) (m : GMachine) (h : nextM d fuel m = none) : (stepMB d m).2 = false ∨ fuel < (stepMB d m).1.rw := by
  unfold nextM at h
  split at h
  · cases h
  · rename_i hg
    cases hq : (stepMB d m).2 with
    | false => exact .inl rfl
    | true =>
      rw [hq] at hg
      simp only [Bool.true_and, decide_eq_true_eq] at hg
      exact .inr (by omega)
theorem machE (m : GMachine) : m.enc = [.v (.int .i64 (match m.fo with | .mk k _ _ _ => k)), .v (.int .i64 (match m.fo with | .mk _ n _ _ => n)), .v (.string (match m.fo with | .mk _ _ s _ => s)), .sl (Tm.encs m.fo.args), .v (.int .i64 m.nx), .sl (m.st.map GFrame.enc), .v (.int .i64 m.rw)] := by
  obtain ⟨⟨k, n, s, ts⟩, nx, fs, rw_⟩ := m; rfl
theorem specRun_sat (d : GDefinition) (hw : d.wf) (hs : d.size < 1048577) (t : Tm) (ht : t.size < 1048577) (fuel : Int) (ms : Nat → GMachine) (N : Nat) (h0 : ms 0 = loadM t) (h1 : ∀ i, i < N → nextM d fuel (ms i) = some (ms (i + 1))) (h2 : nextM d fuel (ms N) = none) (h3 : ∀ i, i ≤ N → onWay d (ms i)) (hg : runOk d t fuel = true) : Sat Tryz.prog 38 [aggV d.enc, tmV t, intV fuel] (.tup [aggV (ms N).enc, boolV true]) := by
  have hgd := specGood_sat d hs t (by omega) fuel
  rw [hg] at hgd
  have hld := specLoadM_sat t ht
  rw [← h0] at hld
  have hst := fun i (hi : i ≤ N) => specStepM_sat d hw hs (ms i) (h3 i hi).1 (onWay_size d _ (h3 i hi))
  have hd : ∀ i, i < N → (stepMB d (ms i)).1 = ms (i + 1) ∧ (stepMB d (ms i)).2 = true ∧ (ms (i + 1)).rw ≤ fuel := fun i hi => next_some d fuel _ _ (h1 i hi)
  have he := next_none d fuel _ h2
  obtain ⟨k, n, s, ts⟩ := t
  have hde : d.enc = [.sl (d.si.so.map encS), .sl (d.si.op.map GOp.enc), .sl (d.ru.map GRule.enc), .sl (d.st.map GStrict.enc)] := rfl
  refine sat_of_code tbOk mixed Tryz.func38 rfl rfl rfl (by decide +kernel) (by decide +kernel) (Nat.le_of_ble_eq_true rfl) ?_
  simp -implicitDefEqProofs (disch := omega) only [go_sem, Tm.enc, hde]
  refine CallK.mk hgd ?_
  simp -implicitDefEqProofs (disch := omega) only [go_sem]
  refine CallK.mk hld ?_
  rw [machE (ms 0)] at *
  simp -implicitDefEqProofs (disch := omega) only [go_sem]
  refine loopA_rule (ι := Nat) (fun i => mk 35 [(2, intV fuel), (3, .one (.ptr 3 0)), (6, .one (.ptr 6 0)), (8, .one (.ptr 8 0))] [(3, .var [.c (.sl (d.si.so.map encS)), .c (.sl (d.si.op.map GOp.enc)), .c (.sl (d.ru.map GRule.enc)), .c (.sl (d.st.map GStrict.enc))]), (6, .var [iC 0, iC 0, sC ByteArray.empty, .nil, iC 0, .nil, iC 0]), (8, .var ((ms i).enc.map .c))])
    (fun i => i ≤ N) (fun i => N - i) 0 (Nat.zero_le _) ?_ tbOk mixed (by decide +kernel) ?_
  · exact le_mk (by simp [go_sem]) (by simp [go_sem, machE (ms 0)]; rfl)
  · intro i hi
    have hsi := hst i hi
    rcases Nat.lt_or_ge i N with hlt | hge
    · obtain ⟨d1, d2, d3⟩ := hd i hlt
      rw [d1, d2] at hsi
      generalize hm' : ms (i + 1) = m' at hsi d3
      generalize ms i = m at hsi
      obtain ⟨⟨mk_, mn, mss, mt⟩, mx, mf, mr⟩ := m
      obtain ⟨⟨mk', mn', mss', mt'⟩, mx', mf', mr'⟩ := m'
      simp only [machEnc] at hsi d3
      simp -implicitDefEqProofs (disch := omega) only [go_sem, machEnc, List.map_cons, List.map_nil]
      refine CallK.mk hsi ?_
      simp -implicitDefEqProofs (disch := omega) only [go_sem]
      refine ⟨fun h => absurd h (by omega), fun _ => ⟨i + 1, hlt, by omega, ?_⟩⟩
      exact le_mk (by simp [go_sem]) (by simp [go_sem, hm', machEnc])
    · have : i = N := by omega
      subst this
      generalize (stepMB d (ms i)).1 = m' at hsi he
      generalize (stepMB d (ms i)).2 = b at hsi he
      generalize ms i = m at hsi
      obtain ⟨⟨mk_, mn, mss, mt⟩, mx, mf, mr⟩ := m
      obtain ⟨⟨mk', mn', mss', mt'⟩, mx', mf', mr'⟩ := m'
      simp only [machEnc] at hsi he
      simp -implicitDefEqProofs (disch := omega) only [go_sem, machEnc, List.map_cons, List.map_nil]
      refine CallK.mk hsi ?_
      simp -implicitDefEqProofs (disch := omega) only [go_sem]
      refine ⟨fun hb => ⟨fun _ => rfl, fun h => ?_⟩, fun _ => rfl⟩
      exfalso
      rcases he with h1 | h1
      · rw [hb] at h1; cases h1
      · omega
theorem implRun0_sat (d : GDefinition) (hw : d.wf) (hs : d.size < 1048577) (t : Tm) (ht : t.size < 1048577) (fuel : Int) (h2 : nextM d fuel (loadM t) = none) (h3 : onWay d (loadM t)) (hg : runOk d t fuel = true) : SatF Tryz.prog 39 [aggV d.enc, tmV t, intV fuel] (.tup [aggV (loadM t).enc, boolV true]) := by
  have hcf := implCfg_sat d hs t (by omega)
  unfold runOk at hg
  simp only [Bool.and_eq_true, decide_eq_true_eq] at hg
  obtain ⟨hg1, hg2, hg3⟩ := hg
  rw [hg1] at hcf
  have hf1 : ¬ fuel < 0 := by omega
  have hf2 : (fuel > 200) = False := eq_false (by omega)
  have hld := implLoadMF_sat t ht
  have hsi := implStepMF_sat d hw hs (loadM t) h3.1 (onWay_size d _ h3)
  have he := next_none d fuel _ h2
  generalize loadM t = R at hld hsi he ⊢
  obtain ⟨⟨Rk, Rn, Rs, Rt⟩, Rx, Rf, Rr⟩ := R
  obtain ⟨k, n, s, ts⟩ := t
  have hde : d.enc = [.sl (d.si.so.map encS), .sl (d.si.op.map GOp.enc), .sl (d.ru.map GRule.enc), .sl (d.st.map GStrict.enc)] := rfl
  simp only [machEnc] at hld ⊢
  refine satF_of_code [aggV [.v (.int .i64 Rk), .v (.int .i64 Rn), .v (.string Rs), .sl (Tm.encs Rt), .v (.int .i64 Rx), .sl (Rf.map GFrame.enc), .v (.int .i64 Rr)], boolV true] rfl (fun _ h => by cases h; rfl) tbOk mixed Tryz.func39 rfl rfl rfl (by decide +kernel) (by decide +kernel) (Nat.le_of_ble_eq_true rfl) ?_
  simp -implicitDefEqProofs (disch := omega) only [go_sem, Tm.enc, hde, hf1, hf2]
  refine CallK.mk hcf ?_
  simp -implicitDefEqProofs (disch := omega) only [go_sem]
  refine CallK.own hld rfl ?_
  simp -implicitDefEqProofs (disch := omega) only [go_sem]
  refine loopA_rule (ι := Unit) (fun _ => mk 42 [(2, intV fuel), (3, .one (.ptr 3 0)), (6, .one (.ptr 6 0)), (8, .one (.ptr 8 0))] [(3, .var [.c (.sl (d.si.so.map encS)), .c (.sl (d.si.op.map GOp.enc)), .c (.sl (d.ru.map GRule.enc)), .c (.sl (d.st.map GStrict.enc))]), (6, .var [iC 0, iC 0, sC ByteArray.empty, .nil, iC 0, .nil, iC 0]), (8, .var [iC Rk, iC Rn, sC Rs, .tk 25 3, iC Rx, .tk 25 5, iC Rr]), (25, .tok [some (.v (.int .i64 Rk)), some (.v (.int .i64 Rn)), some (.v (.string Rs)), some (.sl (Tm.encs Rt)), some (.v (.int .i64 Rx)), some (.sl (Rf.map GFrame.enc)), some (.v (.int .i64 Rr))])])
    (fun _ => True) (fun _ => 0) () trivial ?_ tbOk mixed (by decide +kernel) ?_
  · exact le_mk (by simp [go_sem]) (by simp [go_sem]; rfl)
  · intro _ _
    · generalize (stepMB d ⟨.mk Rk Rn Rs Rt, Rx, Rf, Rr⟩).1 = m' at hsi he
      generalize (stepMB d ⟨.mk Rk Rn Rs Rt, Rx, Rf, Rr⟩).2 = b at hsi he
      obtain ⟨⟨mk', mn', mss', mt'⟩, mx', mf', mr'⟩ := m'
      simp only [machEnc] at hsi he
      simp -implicitDefEqProofs (disch := omega) only [go_sem]
      refine CallK.own hsi rfl ?_
      simp -implicitDefEqProofs (disch := omega) only [go_sem]
      intro hb h
      exfalso
      rcases he with h1 | h1
      · rw [hb] at h1; cases h1
      · omega
theorem implRunS_sat (d : GDefinition) (hw : d.wf) (hs : d.size < 1048577) (t : Tm) (ht : t.size < 1048577) (fuel : Int) (ms : Nat → GMachine) (K : Nat) (h0 : ms 0 = loadM t) (h1 : ∀ i, i < K + 1 → nextM d fuel (ms i) = some (ms (i + 1))) (h2 : nextM d fuel (ms (K + 1)) = none) (h3 : ∀ i, i ≤ K + 1 → onWay d (ms i)) (hg : runOk d t fuel = true) : SatF Tryz.prog 39 [aggV d.enc, tmV t, intV fuel] (.tup [aggV (ms (K + 1)).enc, boolV true]) := by
  have hcf := implCfg_sat d hs t (by omega)
  unfold runOk at hg
  simp only [Bool.and_eq_true, decide_eq_true_eq] at hg
  obtain ⟨hg1, hg2, hg3⟩ := hg
  rw [hg1] at hcf
  have hf1 : ¬ fuel < 0 := by omega
  have hf2 : (fuel > 200) = False := eq_false (by omega)
  have hld := (implLoadMF_sat t ht).sat
  rw [← h0] at hld
  have hst := fun i (hi : i ≤ K + 1) => implStepMF_sat d hw hs (ms i) (h3 i hi).1 (onWay_size d _ (h3 i hi))
  have hd : ∀ i, i < K + 1 → (stepMB d (ms i)).1 = ms (i + 1) ∧ (stepMB d (ms i)).2 = true ∧ (ms (i + 1)).rw ≤ fuel := fun i hi => next_some d fuel _ _ (h1 i hi)
  have he := next_none d fuel _ h2
  have hsi := hst (K + 1) (Nat.le_refl _)
  obtain ⟨R, hR⟩ : ∃ R, R = ms (K + 1) := ⟨_, rfl⟩
  rw [← hR] at he hsi ⊢
  obtain ⟨⟨Rk, Rn, Rs, Rt⟩, Rx, Rf, Rr⟩ := R
  obtain ⟨k, n, s, ts⟩ := t
  have hde : d.enc = [.sl (d.si.so.map encS), .sl (d.si.op.map GOp.enc), .sl (d.ru.map GRule.enc), .sl (d.st.map GStrict.enc)] := rfl
  simp only [machEnc]
  refine satF_of_code [aggV [.v (.int .i64 Rk), .v (.int .i64 Rn), .v (.string Rs), .sl (Tm.encs Rt), .v (.int .i64 Rx), .sl (Rf.map GFrame.enc), .v (.int .i64 Rr)], boolV true] rfl (fun _ h => by cases h; rfl) tbOk mixed Tryz.func39 rfl rfl rfl (by decide +kernel) (by decide +kernel) (Nat.le_of_ble_eq_true rfl) ?_
  simp -implicitDefEqProofs (disch := omega) only [go_sem, Tm.enc, hde, hf1, hf2]
  refine CallK.mk hcf ?_
  simp -implicitDefEqProofs (disch := omega) only [go_sem]
  refine CallK.mk hld ?_
  rw [machE (ms 0)] at *
  simp -implicitDefEqProofs (disch := omega) only [go_sem]
  refine loopA_rule (ι := Nat) (fun i => if i = K + 1 then mk 42 [(2, intV fuel), (3, .one (.ptr 3 0)), (6, .one (.ptr 6 0)), (8, .one (.ptr 8 0))] [(3, .var [.c (.sl (d.si.so.map encS)), .c (.sl (d.si.op.map GOp.enc)), .c (.sl (d.ru.map GRule.enc)), .c (.sl (d.st.map GStrict.enc))]), (6, .var [iC 0, iC 0, sC ByteArray.empty, .nil, iC 0, .nil, iC 0]), (8, .var [iC Rk, iC Rn, sC Rs, .tk 9000 3, iC Rx, .tk 9000 5, iC Rr]), (9000, .tok [some (.v (.int .i64 Rk)), some (.v (.int .i64 Rn)), some (.v (.string Rs)), some (.sl (Tm.encs Rt)), some (.v (.int .i64 Rx)), some (.sl (Rf.map GFrame.enc)), some (.v (.int .i64 Rr)), some (.v (.bool true))])] else mk 42 [(2, intV fuel), (3, .one (.ptr 3 0)), (6, .one (.ptr 6 0)), (8, .one (.ptr 8 0))] [(3, .var [.c (.sl (d.si.so.map encS)), .c (.sl (d.si.op.map GOp.enc)), .c (.sl (d.ru.map GRule.enc)), .c (.sl (d.st.map GStrict.enc))]), (6, .var [iC 0, iC 0, sC ByteArray.empty, .nil, iC 0, .nil, iC 0]), (8, .var ((ms i).enc.map .c))])
    (fun i => i ≤ K + 1) (fun i => K + 1 - i) 0 (Nat.zero_le _) ?_ tbOk mixed (by decide +kernel) ?_
  · rw [if_neg (by omega)]
    exact le_mk (by simp [go_sem]) (by simp [go_sem, machE (ms 0)]; rfl)
  · intro i hi
    rcases Nat.lt_or_ge i (K + 1) with hlt | hge
    · rw [if_neg (by omega : ¬ i = K + 1)]
      obtain ⟨d1, d2, d3⟩ := hd i hlt
      have hsi := hst i (by omega)
      rw [d1, d2] at hsi
      rcases Nat.lt_or_ge i K with hlk | hgk
      · have hsi := hsi.sat
        obtain ⟨m', hm'⟩ : ∃ m', m' = ms (i + 1) := ⟨_, rfl⟩
        rw [← hm'] at hsi d3
        generalize ms i = m at hsi
        obtain ⟨⟨mk_, mn, mss, mt⟩, mx, mf, mr⟩ := m
        obtain ⟨⟨mk', mn', mss', mt'⟩, mx', mf', mr'⟩ := m'
        simp only [machEnc] at hsi d3
        simp -implicitDefEqProofs (disch := omega) only [go_sem, machEnc, List.map_cons, List.map_nil]
        refine CallK.mk hsi ?_
        simp -implicitDefEqProofs (disch := omega) only [go_sem]
        refine ⟨fun h => absurd h (by omega), fun _ => ⟨i + 1, by omega, by omega, ?_⟩⟩
        rw [if_neg (by omega)]
        exact le_mk (by simp [go_sem]) (by simp [go_sem, ← hm', machEnc])
      · have : i = K := by omega
        subst this
        rw [← hR] at hsi d3
        generalize ms i = m at hsi
        obtain ⟨⟨mk_, mn, mss, mt⟩, mx, mf, mr⟩ := m
        simp only [machEnc] at hsi d3
        simp -implicitDefEqProofs (disch := omega) only [go_sem, machEnc, List.map_cons, List.map_nil]
        refine CallK.own hsi rfl ?_
        simp -implicitDefEqProofs (disch := omega) only [go_sem]
        refine ⟨fun h => absurd h (by omega), fun _ => ⟨i + 1, by omega, by omega, ?_⟩⟩
        rw [if_pos rfl]
        refine (wk_renTok 8 29 9000 rfl rfl rfl).trans ?_
        exact le_mk (by simp [go_sem]) (by simp [go_sem, renT])
    · have : i = K + 1 := by omega
      rw [if_pos this]
      clear hst
      generalize (stepMB d ⟨.mk Rk Rn Rs Rt, Rx, Rf, Rr⟩).1 = m' at hsi he
      generalize (stepMB d ⟨.mk Rk Rn Rs Rt, Rx, Rf, Rr⟩).2 = b at hsi he
      obtain ⟨⟨mk', mn', mss', mt'⟩, mx', mf', mr'⟩ := m'
      simp only [machEnc] at hsi he
      simp -implicitDefEqProofs (disch := omega) only [go_sem]
      refine CallK.own hsi rfl ?_
      simp -implicitDefEqProofs (disch := omega) only [go_sem]
      intro hb h
      exfalso
      rcases he with h1 | h1
      · rw [hb] at h1; cases h1
      · omega
theorem specRunBad_sat (d : GDefinition) (hs : d.size < 1048577) (t : Tm) (ht : t.size < 1048577) (fuel : Int) (hg : runOk d t fuel = false) : Sat Tryz.prog 38 [aggV d.enc, tmV t, intV fuel] (.tup [aggV zeroM.enc, boolV false]) := by
  have hgd := specGood_sat d hs t (by omega) fuel
  rw [hg] at hgd
  obtain ⟨k, n, s, ts⟩ := t
  have hde : d.enc = [.sl (d.si.so.map encS), .sl (d.si.op.map GOp.enc), .sl (d.ru.map GRule.enc), .sl (d.st.map GStrict.enc)] := rfl
  refine sat_of_code tbOk mixed Tryz.func38 rfl rfl rfl (by decide +kernel) (by decide +kernel) (Nat.le_of_ble_eq_true rfl) ?_
  simp -implicitDefEqProofs (disch := omega) only [go_sem, Tm.enc, hde]
  refine CallK.mk hgd ?_
  simp -implicitDefEqProofs (disch := omega) only [go_sem]
  rfl
theorem implRunBad_sat (d : GDefinition) (hs : d.size < 1048577) (t : Tm) (ht : t.size < 1048577) (fuel : Int) (hg : runOk d t fuel = false) : SatF Tryz.prog 39 [aggV d.enc, tmV t, intV fuel] (.tup [aggV zeroM.enc, boolV false]) := by
  have hcf := implCfg_sat d hs t (by omega)
  unfold runOk at hg
  generalize cfgB d t = b at hcf hg
  obtain ⟨k, n, s, ts⟩ := t
  have hde : d.enc = [.sl (d.si.so.map encS), .sl (d.si.op.map GOp.enc), .sl (d.ru.map GRule.enc), .sl (d.st.map GStrict.enc)] := rfl
  have hze : zeroM.enc = [.v (.int .i64 0), .v (.int .i64 0), .v (.string ByteArray.empty), .sl [], .v (.int .i64 0), .sl [], .v (.int .i64 0)] := rfl
  rw [hze]
  refine satF_of_code [aggV [.v (.int .i64 0), .v (.int .i64 0), .v (.string ByteArray.empty), .sl [], .v (.int .i64 0), .sl [], .v (.int .i64 0)], boolV false] rfl (fun _ h => by cases h; rfl) tbOk mixed Tryz.func39 rfl rfl rfl (by decide +kernel) (by decide +kernel) (Nat.le_of_ble_eq_true rfl) ?_
  simp -implicitDefEqProofs (disch := omega) only [go_sem, Tm.enc, hde]
  refine ⟨fun h1 => ⟨fun h2 => CallK.mk hcf ?_, fun _ => rfl⟩, fun _ => rfl⟩
  have hb : b = false := by
    cases b with
    | false => rfl
    | true => simp at hg; omega
  subst hb
  simp -implicitDefEqProofs (disch := omega) only [go_sem]
  rfl
theorem run_both (d : GDefinition) (hw : d.wf) (hs : d.size < 1048577) (t : Tm) (htw : t.wf) (ht : t.size < 1048577) (fuel : Int) : ∃ (R : GMachine) (b : Bool), Sat Tryz.prog 38 [aggV d.enc, tmV t, intV fuel] (.tup [aggV R.enc, boolV b]) ∧ SatF Tryz.prog 39 [aggV d.enc, tmV t, intV fuel] (.tup [aggV R.enc, boolV b]) ∧ R.wf ∧ R.size ≤ 1500000 := by
  cases hg : runOk d t fuel with
  | false =>
    refine ⟨zeroM, false, specRunBad_sat d hs t ht fuel hg, implRunBad_sat d hs t ht fuel hg, ⟨zeroT_wf, wfI_of 0 (by omega) (by omega), ⟨Nat.zero_le _, fun _ h => by cases h⟩, wfI_of 0 (by omega) (by omega)⟩, ?_⟩
    simp [zeroM, GMachine.size, zeroT, Tm.size, Tm.sizes, szI, szL]
  | true =>
    have hg' := hg
    unfold runOk at hg'
    simp only [Bool.and_eq_true, decide_eq_true_eq] at hg'
    have hto := (cfg_ok d hw t htw hg'.1).2.1
    have hon := onWay_load t hto d
    obtain ⟨ms, N, h0, h1, h2, h3⟩ := run_ends d hw hs fuel hg'.2.2 _ _ (loadM t) hon (by simp [loadM]) (by simp only [loadM]; omega) rfl rfl
    have hN := h3 N (Nat.le_refl _)
    refine ⟨ms N, true, specRun_sat d hw hs t ht fuel ms N h0 h1 h2 h3 hg, ?_, hN.1, by have := onWay_size d _ hN; omega⟩
    cases N with
    | zero =>
      rw [h0] at h2 hN ⊢
      exact implRun0_sat d hw hs t ht fuel h2 hN hg
    | succ K => exact implRunS_sat d hw hs t ht fuel ms K h0 h1 h2 h3 hg
end Go.Ai
/- The law on RunMachine. Written by mk31.py. -/
namespace Go.Ai
set_option linter.unusedVariables false
set_option linter.unusedSimpArgs false
open Go.Proofs Go.RowKit
set_option maxRecDepth 100000

theorem heldFrameS_sat (xs : List GFrame) (hw : wfL GFrame.wf xs) (k : Int) (h0 : 0 ≤ k) (h1 : (mkRows (xs.map GFrame.enc) k).2 ≤ 100000000) : Sat Tryz.prog 93 [slV (mkRows (xs.map GFrame.enc) k).1, intV k] (intV (mkRows (xs.map GFrame.enc) k).2) := by
  have hl := hw.1
  simp only [maxLen] at hl
  obtain ⟨rows, hrows⟩ : ∃ rows, rows = xs.map GFrame.enc := ⟨_, rfl⟩
  have lr : rows.length = xs.length := by rw [hrows]; simp
  rw [← hrows] at h1 ⊢
  have lM := mkRows_len rows k
  obtain ⟨M, hM⟩ : ∃ M, M = (mkRows rows k).1 := ⟨_, rfl⟩
  rw [← hM] at lM ⊢
  refine sat_of_code tbOk mixed Tryz.func93 rfl rfl rfl (by decide +kernel) (by decide +kernel) (Nat.le_of_ble_eq_true rfl) ?_
  simp -implicitDefEqProofs (disch := omega) only [go_sem]
  refine loopA_rule (ι := Nat) (fun i => mk 63 [(0, slV M), (1, intV (kAt rows k i)), (5, intV i)] []) (fun i => i ≤ rows.length) (fun i => rows.length - i) 0 (Nat.zero_le _) ?_ tbOk mixed (by decide +kernel) ?_
  · exact le_mk (by simp [go_sem, kAt_zero]) (by simp [go_sem])
  · intro i hi
    rcases Nat.lt_or_ge i rows.length with hlt | hge
    · obtain ⟨hm, eM, eK⟩ := mkRows_at rows k i hlt
      have hb1 := kAt_cnt rows k i
      have hb2 := cntRows_get rows i hlt
      have hb3 := mkRows_cnt rows k
      have hb4 := mkCells_cnt rows[i] (kAt rows k i)
      have ex : rows[i] = GFrame.enc (xs[i]'(by omega)) := by simp [hrows]
      have hw' := hw.2 _ (List.getElem_mem (show i < xs.length by omega))
      generalize xs[i]'(by omega) = x at ex hw'
      obtain ⟨⟨xtk, xtn, xts, xtt⟩, xnx⟩ := x
      simp only [GFrame.wf] at hw'
      rw [ex] at eM eK hb2 hb4
      simp only [GFrame.enc, Tm.enc, encB, encI, encL, encS, List.cons_append, List.nil_append, List.append_nil, mkCells, mkC] at eM eK hb2 hb4
      generalize hK : kAt rows k i = K at eM eK hb1 hb4
      have hKn : 0 ≤ K := by omega
      have hc3 := mkRows_cnt (Tm.encs xtt) (((K + 1) + 1) + 1)
      have hg : M.getD i [] = [.v (.int .i64 K), .v (.int .i64 (K + 1)), .v (.string (mtext ((K + 1) + 1))), .sl (mkRows (Tm.encs xtt) (((K + 1) + 1) + 1)).1, .v (.int .i64 (mkRows (Tm.encs xtt) (((K + 1) + 1) + 1)).2)] := by
        rw [hM, List.getD_eq_getElem?_getD, List.getElem?_eq_getElem hm, eM]; rfl
      have hlt2 : i < M.length := by omega
      simp -implicitDefEqProofs (disch := omega) only [go_sem, hg, hlt, lM, hlt2]
      refine CallK.bor (markText_sat ((K + 1) + 1) (by omega)) rfl ?_
      simp -implicitDefEqProofs (disch := omega) only [go_sem, hg, hlt, lM, hlt2]
      refine CallK.bor (heldTermS_tm (.mk xtk xtn xts xtt) hw'.1 (((K + 1) + 1) + 1) (by omega) (by simp only [Tm.args]; omega)) rfl ?_
      simp -implicitDefEqProofs (disch := omega) only [go_sem, hg, hlt, lM, hlt2, Tm.args]
      refine ⟨fun h => by omega, fun _ => ?_⟩
      exact ⟨i + 1, hlt, by omega, le_mk (by simp [go_sem, eK]) (by simp [go_sem])⟩
    · have : i = rows.length := by omega
      subst this
      simp -implicitDefEqProofs (disch := omega) only [go_sem, lM, Nat.lt_irrefl, kAt_all]

theorem heldMachine_sat (xfok : Int) (xfon : Int) (xfos : ByteArray) (xfot : List Tm) (xnx : Int) (xst : List GFrame) (xrw : Int) (hw : (⟨⟨xfok, xfon, xfos, xfot⟩, xnx, xst, xrw⟩ : GMachine).wf) (k : Int) (h0 : 0 ≤ k) (h1 : (mkRows (xst.map GFrame.enc) (mkRows (Tm.encs xfot) k).2).2 ≤ 100000000) : Sat Tryz.prog 42 [.agg [iC xfok, iC xfon, sC xfos, .c (.sl (mkRows (Tm.encs xfot) k).1), iC xnx, .c (.sl (mkRows (xst.map GFrame.enc) (mkRows (Tm.encs xfot) k).2).1), iC xrw], intV k] (intV (mkRows (xst.map GFrame.enc) (mkRows (Tm.encs xfot) k).2).2) := by
  simp only [GMachine.wf] at hw
  have hc3 := mkRows_cnt (Tm.encs xfot) k
  have hc5 := mkRows_cnt (xst.map GFrame.enc) (mkRows (Tm.encs xfot) k).2
  refine sat_of_code tbOk mixed Tryz.func42 rfl rfl rfl (by decide +kernel) (by decide +kernel) (Nat.le_of_ble_eq_true rfl) ?_
  simp -implicitDefEqProofs (disch := omega) only [go_sem]
  refine CallK.bor (heldTerm_sat xfok xfon xfos xfot hw.1 k (by omega) (by omega)) rfl ?_
  simp -implicitDefEqProofs (disch := omega) only [go_sem, Tm.args]
  refine ⟨fun h => by omega, fun _ => ?_⟩
  refine CallK.bor (heldFrameS_sat xst hw.2.2.1 (mkRows (Tm.encs xfot) k).2 (by omega) (by omega)) rfl ?_
  simp -implicitDefEqProofs (disch := omega) only [go_sem, Tm.args]
  omega

theorem lawRunMachine_sat (d : GDefinition) (t : Tm) (fuel : Int) (hw_d : GDefinition.wf d) (hw_t : Tm.wf t) (hw_fuel : wfI fuel) : Sat Tryz.prog 7 [aggV d.enc, tmV t, intV fuel] (boolV true) := by
  refine sat_of_code tbOk mixed Tryz.func7 rfl rfl rfl (by decide +kernel) (by decide +kernel) (Nat.le_of_ble_eq_true rfl) ?_
  simp -implicitDefEqProofs (disch := omega) only [go_sem]
  refine CallK.mk (szDefinition_sat d hw_d 1048576 (by grind [szR]) (by grind [szR])) ?_
  simp -implicitDefEqProofs (disch := omega) only [go_sem]
  intro hz_d
  have hs_d : d.size < 1048577 := by grind [szR]
  refine CallK.mk (szTerm_sat t hw_t _ (by grind [szR]) (by grind [szR])) ?_
  simp -implicitDefEqProofs (disch := omega) only [go_sem]
  intro hz_t
  have hs_t : t.size < 1048577 := by grind [szR]
  have hsum : d.size + t.size < 1048577 := by grind [szR]
  obtain ⟨R0, b0, hsp, him, hRw0, hRs0⟩ := run_both d hw_d hs_d t hw_t hs_t fuel
  refine CallK.mk (toDefinition_sat d hs_d) ?_
  simp -implicitDefEqProofs (disch := omega) only [go_sem, and_self]
  refine CallK.mk (toTerm_sat t hs_t) ?_
  simp -implicitDefEqProofs (disch := omega) only [go_sem, and_self]
  refine CallK.mk (hsp) ?_
  simp -implicitDefEqProofs (disch := omega) only [go_sem, and_self]
  have toX_d := toDefinition_sat d hs_d
  have toF_d := toDefinitionF_sat d hs_d
  have eqX_d := eqDefinition_sat d hw_d d
  have reX_d := GDefinition.eqb_refl d
  have hq_d : cntTop d.enc ≤ 64 * d.size + 64 := by
    have h1 := cntTop_le d.enc
    have h2 := cntCells_le d.enc (GDefinition.nar d)
    rw [GDefinition.csz] at h2
    have h3 := GDefinition.enc_len d
    omega
  have toX_t := toTerm_sat t hs_t
  have toF_t := toTermF_sat t hs_t
  have eqX_t := eqTerm_sat t hw_t t
  have reX_t := Tm.eqb_refl t
  have hq_t : cntTop t.enc ≤ 64 * t.size + 64 := by
    have h1 := cntTop_le t.enc
    have h2 := cntCells_le t.enc (Tm.nar t)
    rw [Tm.csz] at h2
    have h3 := enc_len t
    omega
  have implF := him
  have eqR_0 := eqMachine_sat R0 hRw0 R0
  have reR_0 := GMachine.eqb_refl R0
  have hqR_0 : cntTop R0.enc ≤ 64 * R0.size + 64 := by
    have h1 := cntTop_le R0.enc
    have h2 := cntCells_le R0.enc (GMachine.nar R0)
    rw [GMachine.csz] at h2
    have h3 := GMachine.enc_len R0
    omega
  obtain ⟨⟨dsiso, dsiop⟩, dru, dst⟩ := d
  simp only [GDefinition.enc, GMachine.enc, GSignature.enc, Tm.enc, encB, encI, encL, encS, List.cons_append, List.nil_append, List.append_nil, Tm.args, cntTop] at hq_d
  obtain ⟨tk, tn, ts, tt⟩ := t
  simp only [GDefinition.enc, GMachine.enc, GSignature.enc, Tm.enc, encB, encI, encL, encS, List.cons_append, List.nil_append, List.append_nil, Tm.args, cntTop] at hq_t
  obtain ⟨⟨R0fok, R0fon, R0fos, R0fot⟩, R0nx, R0st, R0rw⟩ := R0
  simp only [GDefinition.enc, GMachine.enc, GSignature.enc, Tm.enc, encB, encI, encL, encS, List.cons_append, List.nil_append, List.append_nil, Tm.args, cntTop] at hqR_0
  have hc_d_dsiso := mkRows_cnt (dsiso.map encS) 1
  have hc_d_dsiop := mkRows_cnt (dsiop.map GOp.enc) (mkRows (dsiso.map encS) 1).2
  have hc_d_dru := mkRows_cnt (dru.map GRule.enc) (mkRows (dsiop.map GOp.enc) (mkRows (dsiso.map encS) 1).2).2
  have hc_d_dst := mkRows_cnt (dst.map GStrict.enc) (mkRows (dru.map GRule.enc) (mkRows (dsiop.map GOp.enc) (mkRows (dsiso.map encS) 1).2).2).2
  have hc_t_t := mkRows_cnt (Tm.encs tt) (mkRows (dst.map GStrict.enc) (mkRows (dru.map GRule.enc) (mkRows (dsiop.map GOp.enc) (mkRows (dsiso.map encS) 1).2).2).2).2
  have hcR_0_R0fo := mkRows_cnt (Tm.encs R0fot) 1
  have hcR_0_R0st := mkRows_cnt (R0st.map GFrame.enc) (mkRows (Tm.encs R0fot) 1).2
  refine CallK.own toF_d rfl ?_
  simp -implicitDefEqProofs (disch := omega) only [go_sem, GDefinition.enc, GMachine.enc, GSignature.enc, Tm.enc, encB, encI, encL, encS, List.cons_append, List.nil_append, List.append_nil, Tm.args]
  refine CallK.own toF_t rfl ?_
  simp -implicitDefEqProofs (disch := omega) only [go_sem, GDefinition.enc, GMachine.enc, GSignature.enc, Tm.enc, encB, encI, encL, encS, List.cons_append, List.nil_append, List.append_nil, Tm.args]
  refine CallK.own implF rfl ?_
  simp -implicitDefEqProofs (disch := omega) only [go_sem, GDefinition.enc, GMachine.enc, GSignature.enc, Tm.enc, encB, encI, encL, encS, List.cons_append, List.nil_append, List.append_nil, Tm.args]
  refine CallK.bor eqR_0 rfl ?_
  simp -implicitDefEqProofs (disch := omega) only [go_sem, GDefinition.enc, GMachine.enc, GSignature.enc, Tm.enc, encB, encI, encL, encS, List.cons_append, List.nil_append, List.append_nil, Tm.args, reR_0]
  refine CallK.mk toX_d ?_
  simp -implicitDefEqProofs (disch := omega) only [go_sem, GDefinition.enc, GMachine.enc, GSignature.enc, Tm.enc, encB, encI, encL, encS, List.cons_append, List.nil_append, List.append_nil, Tm.args]
  refine CallK.bor eqX_d rfl ?_
  simp -implicitDefEqProofs (disch := omega) only [go_sem, GDefinition.enc, GMachine.enc, GSignature.enc, Tm.enc, encB, encI, encL, encS, List.cons_append, List.nil_append, List.append_nil, Tm.args, reX_d]
  refine CallK.mk toX_t ?_
  simp -implicitDefEqProofs (disch := omega) only [go_sem, GDefinition.enc, GMachine.enc, GSignature.enc, Tm.enc, encB, encI, encL, encS, List.cons_append, List.nil_append, List.append_nil, Tm.args]
  refine CallK.bor eqX_t rfl ?_
  simp -implicitDefEqProofs (disch := omega) only [go_sem, GDefinition.enc, GMachine.enc, GSignature.enc, Tm.enc, encB, encI, encL, encS, List.cons_append, List.nil_append, List.append_nil, Tm.args, reX_t]
  refine CallK.mut (markDefinition_sat dsiso dsiop dru dst hw_d 1 (by omega) (by omega)) ?_
  simp -implicitDefEqProofs (disch := omega) only [go_sem, GDefinition.enc, GMachine.enc, GSignature.enc, Tm.enc, encB, encI, encL, encS, List.cons_append, List.nil_append, List.append_nil, Tm.args]
  refine CallK.mut (markTerm_sat tk tn ts tt hw_t (mkRows (dst.map GStrict.enc) (mkRows (dru.map GRule.enc) (mkRows (dsiop.map GOp.enc) (mkRows (dsiso.map encS) 1).2).2).2).2 (by omega) (by omega)) ?_
  simp -implicitDefEqProofs (disch := omega) only [go_sem, GDefinition.enc, GMachine.enc, GSignature.enc, Tm.enc, encB, encI, encL, encS, List.cons_append, List.nil_append, List.append_nil, Tm.args]
  refine ⟨fun _ => ?_, fun h => by omega⟩
  refine CallK.bor eqR_0 rfl ?_
  simp -implicitDefEqProofs (disch := omega) only [go_sem, GDefinition.enc, GMachine.enc, GSignature.enc, Tm.enc, encB, encI, encL, encS, List.cons_append, List.nil_append, List.append_nil, Tm.args, reR_0]
  refine CallK.mut (markMachine_sat R0fok R0fon R0fos R0fot R0nx R0st R0rw hRw0 1 (by omega) (by omega)) ?_
  simp -implicitDefEqProofs (disch := omega) only [go_sem, GDefinition.enc, GMachine.enc, GSignature.enc, Tm.enc, encB, encI, encL, encS, List.cons_append, List.nil_append, List.append_nil, Tm.args]
  refine CallK.bor (heldMachine_sat R0fok R0fon R0fos R0fot R0nx R0st R0rw hRw0 1 (by omega) (by omega)) rfl ?_
  simp -implicitDefEqProofs (disch := omega) only [go_sem, GDefinition.enc, GMachine.enc, GSignature.enc, Tm.enc, encB, encI, encL, encS, List.cons_append, List.nil_append, List.append_nil, Tm.args]
  refine ⟨fun h => by omega, fun _ => ?_⟩
  refine CallK.mk toX_d ?_
  simp -implicitDefEqProofs (disch := omega) only [go_sem, GDefinition.enc, GMachine.enc, GSignature.enc, Tm.enc, encB, encI, encL, encS, List.cons_append, List.nil_append, List.append_nil, Tm.args]
  refine CallK.mk toX_t ?_
  simp -implicitDefEqProofs (disch := omega) only [go_sem, GDefinition.enc, GMachine.enc, GSignature.enc, Tm.enc, encB, encI, encL, encS, List.cons_append, List.nil_append, List.append_nil, Tm.args]
  refine CallK.mk implF.sat ?_
  simp -implicitDefEqProofs (disch := omega) only [go_sem, GDefinition.enc, GMachine.enc, GSignature.enc, Tm.enc, encB, encI, encL, encS, List.cons_append, List.nil_append, List.append_nil, Tm.args]
  refine CallK.bor eqR_0 rfl ?_
  simp -implicitDefEqProofs (disch := omega) only [go_sem, GDefinition.enc, GMachine.enc, GSignature.enc, Tm.enc, encB, encI, encL, encS, List.cons_append, List.nil_append, List.append_nil, Tm.args, reR_0]
  refine CallK.bor (heldMachine_sat R0fok R0fon R0fos R0fot R0nx R0st R0rw hRw0 1 (by omega) (by omega)) rfl ?_
  simp -implicitDefEqProofs (disch := omega) only [go_sem, GDefinition.enc, GMachine.enc, GSignature.enc, Tm.enc, encB, encI, encL, encS, List.cons_append, List.nil_append, List.append_nil, Tm.args]
  first | (intro h; omega) | exact ⟨fun h => by omega, fun _ => trivial⟩
end Go.Ai
