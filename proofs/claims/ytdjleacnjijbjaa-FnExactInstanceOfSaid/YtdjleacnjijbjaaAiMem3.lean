/- Appends, and all the operations together. -/
import Derived.Test.YtdjleacnjijbjaaAiMem2
import Derived.IntWalk
namespace Go.Ai
set_option linter.unusedVariables false
set_option linter.unusedSimpArgs false
open Go.RowKit

variable {P : Program} {tab : Tab} {w0 : World} {M0 : Ms} {F0 F : Fz} {g : Gh} {s : St} {a : Act} {w w' : World} {lb : Lk}

theorem RdRows.cells {b sz : Nat} : ∀ (rows : List (List C)) (o : Nat), RdRows w F b sz o rows → ∃ us, RepACs w F lb g (rows.map (fun r => r.map AC.c)).flatten us ∧ ∀ (j : Nat) u, us[j]? = some u → w.cell? ⟨b, o + j, none⟩ = some u
  | [], _, _ => ⟨[], by simp [RepACs], fun j u h => by simp at h⟩
  | r :: rs, o, h => by
    simp only [RdRows] at h
    obtain ⟨u1, h1, h2⟩ := RdCells.cell (lb := lb) (g := g) r o h.2.1
    obtain ⟨u2, h3, h4⟩ := RdRows.cells rs (o + sz) h.2.2
    have hl : u1.length = sz := by rw [← RepACs.len _ _ h1]; simp [h.1]
    refine ⟨u1 ++ u2, by simpa using h1.append h3, fun j u hj => ?_⟩
    rw [List.getElem?_append] at hj
    split at hj
    · exact h2 j u hj
    · have := h4 _ u hj
      rwa [show o + sz + (j - u1.length) = o + j by omega] at this

theorem map_unD_flatten (rows : List (List AC)) : (rows.map fun r => r.map unD).flatten = rows.flatten.map unD := by
  induction rows with
  | nil => rfl
  | cons r rs ih => simp only [List.map_cons, List.flatten_cons, ih, List.map_append]

/-- What is appended: its cells lie in memory. -/
theorem more_cells (h : Sim w0 M0 F0 F g s a w) {y : AV} {u : Value} (hu : RepAV w F s.lb g y u) {more : List (List AC)} (hm : moreA s.lb y = some more) (hpos : 0 < more.length) :
    ∃ ad c news, u = .slice (some ad) more.length c ∧ RepACs w F s.lb g more.flatten news ∧ ∀ (j : Nat) v, news[j]? = some v → w.cell? (ad.add j) = some v := by
  unfold moreA at hm
  split at hm
  · rename_i rows
    obtain rfl := Option.some.inj hm
    simp only [RepAV, RepAC, Rd] at hu
    obtain ⟨A, cap, sz, rfl, h2, h3, h4, h5, h6⟩ := hu
    simp only [List.length_map] at hpos ⊢
    cases A with
    | none => have := h5 rfl; omega
    | some A =>
      obtain ⟨k1, k2⟩ := h6 A rfl
      have k1 := k1 (by omega)
      obtain ⟨b, o, sp⟩ := A
      simp at k1; subst k1
      obtain ⟨us, k3, k4⟩ := RdRows.cells (lb := s.lb) (g := g) rows o k2
      exact ⟨⟨b, o, none⟩, cap, us, rfl, k3, fun j v hj => by rw [addr_add]; exact k4 j v hj⟩
  · obtain rfl := Option.some.inj hm
    simp at hpos
  · obtain rfl := Option.some.inj hm
    simp at hpos
  · rename_i l n
    split at hm
    · rename_i e sz rows fz hl
      split at hm
      · rename_i hn
        obtain rfl := Option.some.inj hm
        simp only [RepAV, RepAC] at hu
        obtain ⟨_, B, hB, hq⟩ := hu
        rw [hl] at hB
        obtain rfl := Option.some.inj hB
        simp only [okOwnB] at hq
        have hux := hq.2 hn
        obtain ⟨_, _, xs, S, hown, hcells, _⟩ := h.lb l _ hl
        simp only [List.length_map] at hpos ⊢
        rcases hown.2 with ⟨k1, k2⟩ | ⟨gg, cap, cur, k1, _⟩
        · omega
        · refine ⟨⟨gg, 0, none⟩, cap, xs, by rw [hux, k1], ?_, hown.cells (g := gg) (by rw [k1]; rfl)⟩
          rw [map_unD_flatten]
          exact RepCells.unD hcells
      · cases hm
    · cases hm
  · cases hm

theorem appendA_sound (hT : TabOk P tab) (h : Sim w0 M0 F0 F g s a w) {o : Oper} {t e : TypeId} {x y : Operand} {sz0 by0 : Nat} {zero0 : List AC} (ht : tab t = some ⟨.slice e, sz0, by0, zero0⟩)
    (hop : o.op = .call { callee := .builtin .append, args := #[x, y], argTypes := #[t, t] }) {pr : Prop} {ef : Eff} (ho : appendA tab s.lb (o.dst.getD 0) e (opv s x) (opv s y) = some (pr, ef)) (hp : pr) (hk : ef.ok o.dst s) :
    Goes P w0 M0 F0 F (ef.app o.dst s) a w o := by
  have E := opv_sound h
  have Ex := E x
  have Ey := E y
  obtain ⟨info, z, d, okt⟩ := hT _ _ ht
  have hd := okt.desc
  cases d <;> simp only [tyMatch, beq_iff_eq, Bool.false_eq_true] at hd
  subst hd
  have run : ∀ {v : Value} {wn : World}, (Builtin.append_ #[t, t] o.type #[a.eval x, a.eval y]).run P w = .ok v wn → (execOp a.eval o).run P w = .ok (.value v) wn := by
    intro v wn hr
    simp [execOp, hop, resolve, invoke, builtin, hr]
  unfold appendA at ho
  split at ho
  · cases ho
  · rename_i ti hte
    obtain ⟨info2, z2, d2, ok2⟩ := hT _ _ hte
    have hzl : z2.cells.size = info2.size := by
      have := RepACs.len _ _ (zero_rep (w := w) (F := F) (lb := s.lb) (g := g) ok2)
      rw [ok2.size, ← ok2.len, this]; simp
    have run0 : ∀ {A : Option Addr} {n cap : Nat} {B : Option Addr} {c : Nat}, n ≤ cap → (Builtin.append_ #[t, t] o.type #[.slice A n cap, .slice B 0 c]).run P w = .ok (.slice A n cap) w := by
      intro A n cap B c hnc
      cases A <;> cases B <;> simp [Builtin.append_, run_underlying okt.und, sizeOf, typeInfo, ok2.inf, Builtin.lenOf, hnc, Builtin.firstCells, loadCells, loadCellsFrom, storeCells]
    have nomore : ∀ {u : Value}, RepAV w F s.lb g (opv s y) u → moreA s.lb (opv s y) = some [] → ∃ B c, u = .slice B 0 c := by
      intro u hu hm
      unfold moreA at hm
      split at hm
      · rename_i rows hy
        have : rows = [] := by simpa using hm
        subst this
        rw [hy] at hu
        simp only [RepAV, RepAC, Rd] at hu
        obtain ⟨A, cap, sz, rfl, _⟩ := hu
        exact ⟨A, cap, rfl⟩
      · rename_i hy
        rw [hy] at hu
        simp only [RepAV, RepAC] at hu
        exact ⟨none, 0, hu⟩
      · rename_i hy
        rw [hy] at hu
        simp only [RepAV, RepAC] at hu
        obtain ⟨q, cap, rfl, _⟩ := hu
        exact ⟨some q, cap, rfl⟩
      · rename_i l n hy
        split at hm
        · rename_i e sz rows fz hl
          split at hm
          · rename_i hn
            have : rows = [] := by simpa using hm
            subst this
            rw [hy] at hu
            simp only [RepAV, RepAC] at hu
            obtain ⟨_, B, hB, hq⟩ := hu
            rw [hl] at hB
            obtain rfl := Option.some.inj hB
            rw [hq.2 hn]
            obtain ⟨_, _, xs, S, hown, _⟩ := h.lb l _ hl
            rcases hown.2 with ⟨h1, h2⟩ | ⟨gg, cap, cur, h1, _⟩
            · exact ⟨none, 0, h1⟩
            · exact ⟨_, cap, h1⟩
          · cases hm
        · cases hm
      · cases hm
    split at ho
    · rename_i l n hm hx
      rw [hx] at Ex
      split at ho
      · rename_i e1 sz1 rows fz hl
        split at ho
        · rename_i hn
          obtain ⟨rfl, rfl⟩ := Prod.mk.inj (Option.some.inj ho)
          obtain ⟨B, c, hy⟩ := nomore Ey hm
          have Ex' := Ex
          simp only [RepAV, RepAC] at Ex
          obtain ⟨_, B0, hB, hq⟩ := Ex
          rw [hl] at hB
          obtain rfl := Option.some.inj hB
          have hxv := hq.2 hn
          obtain ⟨_, _, xs, S, hown, _⟩ := h.lb l _ hl
          have hsl : ∃ A m cap, a.eval x = .slice A m cap ∧ m ≤ cap := by
            rcases hown.2 with ⟨h1, h2⟩ | ⟨gg, cap, cur, h1, _, _, hle, _⟩
            · exact ⟨none, 0, 0, by rw [hxv, h1], Nat.le_refl _⟩
            · exact ⟨_, _, cap, by rw [hxv, h1], hle⟩
          obtain ⟨A, m, cap, hxe, hle⟩ := hsl
          refine ⟨a.eval x, w, g, h.set? hk Ex', .inl (run ?_)⟩
          rw [hy, hxe]; exact run0 hle
        · cases ho
      · cases ho
    · rename_i hm hx
      rw [hx] at Ex
      obtain ⟨rfl, rfl⟩ := Prod.mk.inj (Option.some.inj ho)
      obtain ⟨B, c, hy⟩ := nomore Ey hm
      have Ex' := Ex
      simp only [RepAV, RepAC] at Ex
      refine ⟨a.eval x, w, g, h.set? hk Ex', .inl (run ?_)⟩
      rw [hy, Ex]; exact run0 (Nat.le_refl _)
    · rename_i m0 more0 l n hm hx
      generalize hmm : m0 :: more0 = more at hm ho
      rw [hx] at Ex
      split at ho
      · rename_i e' sz rows fz hl
        split at ho
        · rename_i hc
          obtain ⟨rfl, hsz, hn⟩ := hc
          obtain ⟨rfl, rfl⟩ := Prod.mk.inj (Option.some.inj ho)
          obtain ⟨hp1, hp2, hp3, hp4⟩ := hp
          obtain ⟨ad, c, news, hy, hrep, hcell⟩ := more_cells h Ey hm hp1
          simp only [RepAV, RepAC] at Ex
          obtain ⟨_, B, hB, hq⟩ := Ex
          rw [hl] at hB
          obtain rfl := Option.some.inj hB
          simp only [okOwnB] at hq
          have hxv := hq.2 hn
          have hsz' : sz = info2.size := by rw [hsz, ok2.size]
          subst hsz'
          obtain ⟨v', w', g', hr, hs, hhd⟩ := h.app (P := P) hl t o.type okt.und ok2.inf ok2.zero hzl (fun r hr => by rw [hp2 r hr, ok2.size]) hp1 ad c news hrep hcell (by simp only [maxLen]; omega) (by rw [ok2.bytes]; exact hp3)
          refine ⟨v', w', g', ?_, .inl (run (by rw [hxv, hy]; exact hr))⟩
          refine hs.set? hk ?_
          simp only [RepAV, RepAC]
          obtain ⟨_, _, xs', S', hown', _⟩ := hs.lb l (.arr e info2.size (rows ++ more) fz) (by simp [St.put_lb])
          refine ⟨?_, _, by simp [St.put_lb]; rfl, ?_⟩
          · rw [← hhd]
            rcases hown'.2 with ⟨k1, _⟩ | ⟨_, _, _, k1, _⟩ <;> rw [k1] <;> rfl
          · simp only [okOwnB, List.length_append]
            exact ⟨by omega, fun _ => hhd.symm⟩
        · cases ho
      · cases ho
    · rename_i m0 more0 hm hx
      generalize hmm : m0 :: more0 = more at hm ho
      rw [hx] at Ex
      split at ho
      case isFalse => cases ho
      rename_i hpos
      obtain ⟨rfl, rfl⟩ := Prod.mk.inj (Option.some.inj ho)
      obtain ⟨hp1, hp2, hp3, hp4⟩ := hp
      obtain ⟨dd, hdst, hdn, hdf⟩ := hk
      obtain ⟨ad, c, news, hy, hrep, hcell⟩ := more_cells h Ey hm hp1
      simp only [RepAV, RepAC] at Ex
      have hlf := flatten_len more hp2
      have hnl := RepACs.len _ _ hrep
      have hr := run_append_nil (P := P) w t o.type e info2 z2 okt.und ok2.inf ok2.zero ad more.length c news (by rw [ok2.size]; omega) hcell hp1 (by omega) (by rw [ok2.bytes]; omega)
      have hge := grownCap_ge w more.length 0 e
      have hcm := grownCap_le_maxLen w more.length 0 e (by simp only [maxLen]; omega)
      obtain ⟨g', hs, hhd, _⟩ := h.drew.newRow (d := dd) (e := e) (sz := ti.size) (rows := more) (cs := (news.toArray ++ Builtin.zeroCells z2.cells (grownCap w more.length 0 e - more.length)).toList) (cap := grownCap w more.length 0 e) hdf hpos hp2 hge hcm
        (by simp only [Array.length_toList, Array.size_append, List.size_toArray, size_zeroCells, hzl, ok2.size, ← hnl, hlf, ← Nat.add_mul]; congr 1; omega)
        (by
          rw [Array.toList_append, List.take_append_of_le_length (by simp; omega), List.take_of_length_le (by simp; omega)]
          have := RepACs.mono (w := w) (w' := w.drew) (F := F) (F' := F) ⟨fun _ _ h => h, fun _ _ _ => rfl⟩ (Keeps.refl s.lb g) _ _ hrep
          simpa using this)
      rw [Array.toArray_toList] at hs
      refine ⟨_, _, g', ?_, .inl (run (by rw [Ex, hy]; exact hr))⟩
      simp only [hdst, Option.getD_some, Eff.app]
      refine hs.set hdn ?_
      simp only [RepAV, RepAC]
      exact ⟨rfl, _, by simp [St.put_lb]; rfl, by simp only [okOwnB]; exact ⟨Nat.le_refl _, fun _ => hhd.symm⟩⟩
    · cases ho


theorem callF_sound (hT : TabOk P tab) (h : Sim w0 M0 F0 F g s a w) {o : Oper} {c : Call} (hop : o.op = .call c) {pr : Prop} {e : Eff} (ho : callF tab o s c = some (pr, e)) (hp : pr) (hk : e.ok o.dst s) :
    Goes P w0 M0 F0 F (e.app o.dst s) a w o := by
  obtain ⟨callee, args, ts⟩ := c
  unfold callF at ho
  split at ho
  · rename_i hc
    simp only at hc
    subst hc
    split at ho
    · rename_i x y t t' ha ht
      split at ho
      · rename_i ee _ _ _ htt
        split at ho
        · rename_i he
          subst he
          have ha' : args.toList = [x, y] := ha
          have ht' : ts.toList = [t, t] := ht
          clear ha ht
          obtain rfl : args = #[x, y] := Array.toList_inj.1 ha'
          obtain rfl : ts = #[t, t] := Array.toList_inj.1 ht'
          exact appendA_sound hT h htt hop ho hp hk
        · cases ho
      · cases ho
    · cases ho
  · cases hq : callPure tab s ⟨callee, args, ts⟩ with
    | none => rw [hq] at ho; cases ho
    | some r =>
      obtain ⟨p, v⟩ := r
      rw [hq] at ho
      obtain ⟨rfl, rfl⟩ := Prod.mk.inj (Option.some.inj ho)
      obtain ⟨u, hu, hv⟩ := pureF_sound (P := P) hT h (o := o) (pr := p) (v := v) (by unfold pureF; rw [hop]; exact hq) hp
      exact ⟨u, w, g, h.set? hk hv, .inl hu⟩

theorem outF_sound (hT : TabOk P tab) (h : Sim w0 M0 F0 F g s a w) {o : Oper} {pr : Prop} {e : Eff} (ho : outF tab o s = some (pr, e)) (hp : pr) (hk : e.ok o.dst s) :
    Goes P w0 M0 F0 F (e.app o.dst s) a w o := by
  have E := opv_sound h
  have pure_ : ∀ {p : Prop} {v : AV}, (pureF tab o s).map (fun (p, v) => (p, Eff.val v)) = some (pr, e) → Goes P w0 M0 F0 F (e.app o.dst s) a w o := by
    intro p v hq
    cases hf : pureF tab o s with
    | none => rw [hf] at hq; cases hq
    | some r =>
      obtain ⟨p, v⟩ := r
      rw [hf] at hq
      obtain ⟨rfl, rfl⟩ := Prod.mk.inj (Option.some.inj hq)
      obtain ⟨u, hu, hv⟩ := pureF_sound (P := P) hT h hf hp
      exact ⟨u, w, g, h.set? hk hv, .inl hu⟩
  unfold outF at ho
  split at ho
  · rename_i t hop
    cases ht : tab t with
    | none => rw [ht] at ho; cases ho
    | some ti =>
      rw [ht] at ho
      obtain ⟨rfl, rfl⟩ := Prod.mk.inj (Option.some.inj ho)
      obtain ⟨info, z, d, ok⟩ := hT _ _ ht
      obtain ⟨dd, hd, hn, hf⟩ := hk
      have hz := zero_rep (w := w) (F := F) (lb := s.lb) (g := g) ok
      simp only [hd, Option.getD_some, Eff.app]
      refine go_newVar h hd hn hf t hz ?_
      simp [execOp, hop, Instr.alloc, zeroValue, typeInfo, ok.inf, ok.zero, newVar, newRow]
  · rename_i t x hop
    cases hx : (opv s x).cs with
    | none => rw [hx] at ho; cases ho
    | some cs =>
      rw [hx] at ho
      obtain ⟨rfl, rfl⟩ := Prod.mk.inj (Option.some.inj ho)
      obtain ⟨dd, hd, hn, hf⟩ := hk
      simp only [hd, Option.getD_some, Eff.app]
      refine go_newVar h hd hn hf t ((E x).cs hx) ?_
      simp [execOp, hop, Instr.box, newVar, newRow]
  · rename_i t len parts hop
    split at ho
    · rename_i ee _ _ _ ht
      split at ho
      · rename_i ti hte
        split at ho
        · rename_i hsz
          obtain ⟨hsz, hlim⟩ := hsz
          obtain ⟨info, z, d, ok⟩ := hT _ _ ht
          have hdd := ok.desc
          cases d <;> simp only [tyMatch, beq_iff_eq, Bool.false_eq_true] at hdd
          subst hdd
          obtain ⟨info2, z2, d2, ok2⟩ := hT _ _ hte
          cases hfl : fillA (fun i => some (i * ti.size, ti.size)) (List.replicate len ti.zero).flatten (parts.toList.map fun (i, x) => (i, opv s x)) with
          | none => rw [hfl] at ho; cases ho
          | some cs =>
            rw [hfl] at ho
            obtain ⟨rfl, rfl⟩ := Prod.mk.inj (Option.some.inj ho)
            obtain ⟨dd, hd, hn, hf⟩ := hk
            simp only [hd, Option.getD_some, Eff.app]
            have hzr := zero_rows (w := w) (F := F) (lb := s.lb) (g := g) ok2 len
            obtain ⟨cs', k1, k2⟩ := fillA_sound (w := w) (F := F) (lb := s.lb) (g := g) (fun i => some (i * ti.size, ti.size)) (parts.toList.map fun (i, x) => (i, opv s x)) (parts.toList.map fun (i, x) => (i, a.eval x)) _ _ cs hzr (by simp)
              (fun i p q hi hq => by
                simp only [List.getElem?_map] at hi hq
                cases hx : parts.toList[i]? with
                | none => rw [hx] at hi; cases hi
                | some y =>
                  rw [hx] at hi hq
                  simp at hi hq
                  subst hi hq
                  exact ⟨rfl, E _⟩) hfl
            have hcl : cs.length = len * ti.size := by
              rw [fillA_len _ _ _ _ hfl, flatten_len (sz := ti.size) _ (fun r hr => by rw [List.eq_of_mem_replicate hr]; exact ok2.len)]; simp
            obtain ⟨c1, c2, c3⟩ := chunks_ok ti.size len cs hcl
            have := go_newRow (P := P) h (o := o) (rows := chunks ti.size len cs) (cs := cs'.toList) (cap := len) (e := ee) hd hn hf hsz c3 (by omega) (by
                rcases Nat.eq_zero_or_pos len with h0 | h0
                · simp [h0]
                · have := Nat.le_mul_of_pos_right len hsz
                  simp only [maxLen]; omega)
              (by rw [← RepACs.len _ _ k2]; exact hcl) (by rw [c1, c2, List.take_of_length_le (by rw [← RepACs.len _ _ k2]; omega)]; exact k2) (by
                rw [c2, Array.toArray_toList]
                have hlim' : ¬ (16777216 < len * ti.size) := by omega
                have hk1 : Instr.fill (fun i => some (i * ti.size, ti.size)) ((Array.range (len * ti.size)).map (fun i => z2.cells[i % z2.cells.size]!)) (parts.toList.map fun (i, x) => (i, a.eval x)) = some cs' := k1
                by_cases h0 : len * ti.size = 0
                · simp only [h0] at hk1
                  have hr0 : ∀ f : Nat → Value, (Array.range 0).map f = #[] := by simp
                  rw [hr0] at hk1
                  simp [execOp, hop, Instr.buildSlice, run_underlying ok.und, sizeOf, typeInfo, ok2.inf, ok2.size, h0, hr0, hk1, newRow]
                · simp [execOp, hop, Instr.buildSlice, run_underlying ok.und, sizeOf, typeInfo, ok2.inf, ok2.size, hlim', h0, zeroValue, ok2.zero, hk1, newRow])
            rw [c2] at this
            exact this
        · cases ho
      · cases ho
    · cases ho
  · rename_i t x y hop
    split at ho
    · rename_i ee _ _ _ ht
      split at ho
      · rename_i ti n m hte hx hy
        split at ho
        · rename_i hsz
          obtain ⟨rfl, rfl⟩ := Prod.mk.inj (Option.some.inj ho)
          obtain ⟨rfl, hp0, hp1, hp2⟩ := hp
          obtain ⟨info, z, d, ok⟩ := hT _ _ ht
          have hdd := ok.desc
          cases d <;> simp only [tyMatch, beq_iff_eq, Bool.false_eq_true] at hdd
          subst hdd
          obtain ⟨info2, z2, d2, ok2⟩ := hT _ _ hte
          obtain ⟨dd, hd, hn, hf⟩ := hk
          simp only [hd, Option.getD_some, Eff.app]
          have ex := E x
          have ey := E y
          rw [hx] at ex
          rw [hy] at ey
          have ex := ex.c_v
          have ey := ey.c_v
          have hzr := zero_rows (w := w) (F := F) (lb := s.lb) (g := g) ok2 n.toNat
          have hlen : ((Array.range (n.toNat * ti.size)).map (fun i => z2.cells[i % z2.cells.size]!)).toList.length = n.toNat * ti.size := by simp
          have := go_newRow (P := P) h (o := o) (rows := List.replicate n.toNat ti.zero) (cs := ((Array.range (n.toNat * ti.size)).map (fun i => z2.cells[i % z2.cells.size]!)).toList) (cap := n.toNat) (e := ee) hd hn hf hsz (fun r hr => by rw [List.eq_of_mem_replicate hr]; exact ok2.len) (by simp) (by simp only [maxLen]; omega) hlen
            (by rw [List.length_replicate, List.take_of_length_le (by rw [hlen]; exact Nat.le_refl _)]; exact hzr) (by
              rw [List.length_replicate, Array.toArray_toList]
              have hw : IntKind.i64.wrap n = n := IntWalk.i64_in _ (by omega)
              have hb1 : ¬ (n < 0) := by omega
              have hb2 : ¬ ((info2.bytes : Int) * n > 281474976710656) := by rw [ok2.bytes, Int.mul_comm]; omega
              by_cases h0 : n.toNat * ti.size = 0
              · have : n = 0 := by
                  rcases Nat.mul_eq_zero.1 h0 with h | h
                  · omega
                  · omega
                subst this
                have hr0 : ∀ f : Nat → Value, (Array.range 0).map f = #[] := by simp
                simp [hr0, execOp, hop, ex, ey, Instr.makeSlice, asInt, asIntOf, run_underlying ok.und, typeInfo, ok2.inf, sizeOf, hw, newRow]
              · simp [execOp, hop, ex, ey, Instr.makeSlice, asInt, asIntOf, run_underlying ok.und, typeInfo, ok2.inf, sizeOf, hw, hb1, hb2, zeroValue, ok2.zero, newRow, ok2.size]
                exact fun hq => absurd hq h0)
          rw [List.length_replicate] at this
          exact this
        · cases ho
      · cases ho
    · cases ho
  · rename_i t p x hop
    exact storeA_sound hT h hop ho hp hk
  · rename_i c hop
    exact callF_sound hT h hop ho hp hk
  · exact pure_ (p := pr) (v := .any) ho

end Go.Ai
