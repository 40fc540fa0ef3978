/- Struct literals, and all the operations that leave memory as it is. -/
import Derived.Test.YtdjleacnjijbjaaAiPure3
import Derived.Laws.BytesString
namespace Go.Ai
set_option linter.unusedVariables false
set_option linter.unusedSimpArgs false
open Go.RowKit

variable {P : Program} {tab : Tab} {w0 : World} {M0 : Ms} {F0 F : Fz} {g : Gh} {s : St} {a : Act} {w : World} {lb : Lk}

theorem foldl_set (off : Nat) : ∀ (vs : List Value) (j : Nat) (cs : Array Value), off + j + vs.length ≤ cs.size →
    ((vs.zipIdx j).foldl (fun cs (p : Value × Nat) => cs.setIfInBounds (off + p.2) p.1) cs).toList = cs.toList.take (off + j) ++ (vs ++ cs.toList.drop (off + j + vs.length))
  | [], j, cs, _ => by simp
  | v :: vs, j, cs, h => by
    simp only [List.zipIdx_cons, List.foldl_cons]
    rw [foldl_set off vs (j + 1) _ (by simp at h ⊢; omega)]
    have e := list_seg_step cs.toList (off + j) v vs (by simp at h ⊢; omega)
    rw [Array.toList_setIfInBounds, ← Nat.add_assoc]
    simpa [Nat.add_assoc] using e

theorem fillA_sound (place : Nat → Option (Nat × Nat)) : ∀ (parts : List (Nat × AV)) (vs : List (Nat × Value)) (cells : List AC) (cs : Array Value) (cells' : List AC), RepACs w F lb g cells cs.toList →
    parts.length = vs.length → (∀ (i : Nat) p q, parts[i]? = some p → vs[i]? = some q → p.1 = q.1 ∧ RepAV w F lb g p.2 q.2) → fillA place cells parts = some cells' →
    ∃ cs', Instr.fill place cs vs = some cs' ∧ RepACs w F lb g cells' cs'.toList
  | [], vs, cells, cs, cells', hr, hl, _, h => by
    have : vs = [] := List.eq_nil_of_length_eq_zero (by simpa using hl.symm)
    subst this
    simp only [fillA] at h
    obtain rfl := Option.some.inj h
    exact ⟨cs, rfl, hr⟩
  | (i, v) :: parts, vs, cells, cs, cells', hr, hl, hv, h => by
    cases vs with
    | nil => simp at hl
    | cons q vs =>
      obtain ⟨i', u⟩ := q
      obtain ⟨h1, h2⟩ := hv 0 (i, v) (i', u) (by simp) (by simp)
      simp only at h1 h2
      subst h1
      simp only [fillA] at h
      split at h
      · rename_i off size xs hp hx
        split at h
        · rename_i hfit
          have hxs := h2.cs hx
          have hlx := RepACs.len _ _ hxs
          have hlc := RepACs.len _ _ hr
          simp only [Array.length_toList] at hlx hlc
          have hsz : u.cells.size = size := by omega
          have hset : (u.cells.zipIdx.foldl (fun cs (p : Value × Nat) => cs.setIfInBounds (off + p.2) p.1) cs).toList = cs.toList.take off ++ (u.cells.toList ++ cs.toList.drop (off + u.cells.toList.length)) := by
            have := foldl_set off u.cells.toList 0 cs (by simp; omega)
            rw [← Array.foldl_toList, Array.toList_zipIdx]
            simpa using this
          obtain ⟨cs', k1, k2⟩ := fillA_sound place parts vs (splice cells off xs) _ cells' (by rw [hset]; exact hr.splice hxs off) (by simpa using hl)
            (fun j p q hj hq => hv (j + 1) p q (by simpa using hj) (by simpa using hq)) h
          refine ⟨cs', ?_, k2⟩
          unfold Instr.fill
          simp only [hp]
          rw [if_neg (by simp only [ne_eq, Bool.or_eq_true, decide_eq_true_eq]; omega)]
          exact k1
        · cases h
      · cases h

theorem zero_rep {t : TypeId} {ti : TI} {info : TypeInfo} {z : Value} {d : TypeDesc} (ok : TI.Ok P t ti info z d) : RepACs w F lb g ti.zero z.cells.toList := by
  have h := ok.cells
  have hl := ok.lits
  refine (RepACs.iff _ _).2 ⟨by simpa using (congrArg List.length h).symm, fun i x u hx hu => ?_⟩
  have h1 : (z.cells.toList.map some)[i]? = (ti.zero.map litV)[i]? := by rw [h]
  simp only [List.getElem?_map, hx, hu, Option.map_some] at h1
  have h2 := List.all_eq_true.1 hl x (List.mem_of_getElem? hx)
  have h3 : some u = litV x := Option.some.inj h1
  cases x with
  | c x =>
    cases x with
    | sl rows => simp [litOk] at h2
    | v y =>
      simp only [litV, Option.some.injEq] at h3
      subst h3
      simp only [RepAC, Rd]
      refine ⟨trivial, ?_⟩
      cases u <;> simp_all [litOk, okv]
  | nil =>
    simp only [litV, Option.some.injEq] at h3
    subst h3
    simp [RepAC]
  | _ => simp [litOk] at h2

theorem mapM_places (fields : List Field) : ∀ (_ : ∀ f, f ∈ fields → (P.info? f.type).isSome = true), (fields.mapM (m := Sem) fun f => do pure (f.offset, ← sizeOf f.type)).run P w = .ok (fields.map fun f => (f.offset, P.cellsOf f.type)) w := by
  induction fields with
  | nil => intro _; rfl
  | cons f fs ih =>
    intro h
    have hf := h f (by simp)
    cases hi : P.info? f.type with
    | none => simp [hi] at hf
    | some i =>
      have hsz : (sizeOf f.type).run P w = .ok (P.cellsOf f.type) w := by simp [sizeOf, typeInfo, hi, Program.cellsOf]
      have hd : (do pure (f.offset, ← sizeOf f.type) : Sem (Nat × Nat)).run P w = .ok (f.offset, P.cellsOf f.type) w := by rw [Sem.run_bind, hsz]; rfl
      rw [List.mapM_cons, Sem.run_bind, hd, Result.andThen_ok, Sem.run_bind, ih (fun q hq => h q (by simp [hq]))]
      rfl

theorem build_sound (hT : TabOk P tab) {t : TypeId} {fs : List (Nat × Nat)} {sz by_ : Nat} {zero cells' : List AC} {cmp : Option (List (Nat × CK))} (ht : tab t = some ⟨.struct fs cmp, sz, by_, zero⟩) (parts : Array (Nat × AV)) (vs : Array (Nat × Value))
    (hl : parts.size = vs.size) (hv : ∀ (i : Nat) p q, parts.toList[i]? = some p → vs.toList[i]? = some q → p.1 = q.1 ∧ RepAV w F lb g p.2 q.2) (h : fillA (fun i => fs[i]?) zero parts.toList = some cells') :
    ∃ u, (Instr.build t vs).run P w = .ok u w ∧ RepAV w F lb g (.agg cells') u := by
  obtain ⟨info, z, d, ok⟩ := hT _ _ ht
  have hd := ok.desc
  cases d <;> simp only [tyMatch, Bool.and_eq_true, beq_iff_eq, Bool.false_eq_true] at hd
  rename_i fields
  obtain ⟨hd1, hd2⟩ := hd
  have hz := zero_rep (w := w) (F := F) (lb := lb) (g := g) ok
  obtain ⟨cs', k1, k2⟩ := fillA_sound (fun i => fs[i]?) parts.toList vs.toList zero z.cells cells' hz (by simpa using hl) hv h
  have hinfo : ∀ f, f ∈ fields.toList → (P.info? f.type).isSome = true := by
    intro f hf
    have hne : P.cellsOf f.type ≠ 0 := by simpa using List.all_eq_true.1 hd2 f hf
    unfold Program.cellsOf at hne
    cases hi : P.info? f.type with
    | none => simp [hi] at hne
    | some i => rfl
  have hpl : (fields.mapM (m := Sem) fun f => do pure (f.offset, ← sizeOf f.type)).run P w = .ok fs.toArray w := by
    have := mapM_places (P := P) (w := w) fields.toList hinfo
    rw [Array.mapM_eq_mapM_toList, Sem.run_map, this, hd1]
    rfl
  refine ⟨.agg cs', ?_, cs'.toList, rfl, k2⟩
  simp only [bind_pure_comp] at hpl
  simp [Instr.build, zeroValue, typeInfo, ok.inf, ok.zero, run_underlying ok.und, hpl, k1]

theorem bytes_vals {w : World} {F : Fz} {lb : Lk} {g : Gh} : ∀ (rows : List (List AC)) (us : List Value) (S : List Nat), (∀ r, r ∈ rows → isByte r = true) → RepCells w F lb g rows.flatten us S → us = (rows.map byteAt).map (Value.int .u8)
  | [], us, S, _, h => by simp only [List.flatten_nil, RepCells] at h; simp [h.1]
  | r :: rows, us, S, hb, h => by
    have h0 := hb r (by simp)
    unfold isByte at h0
    split at h0
    · rename_i m
      simp only [List.flatten_cons, List.singleton_append, RepCells] at h
      obtain ⟨u, us', S1, S2, rfl, rfl, h1, h2⟩ := h
      have := bytes_vals rows us' S2 (fun q hq => hb q (by simp [hq])) h2
      have h1 := h1.1
      simp only [RepAC, Rd] at h1
      simp only [List.map_cons, byteAt, h1.1, this]
    · cases h0
theorem convA_sound (hT : TabOk P tab) (h : Sim w0 M0 F0 F g s a w) {t t' : TypeId} {x : AV} {u : Value} (hu : RepAV w F s.lb g x u) {pr : Prop} {v : AV} (ho : convA tab s.lb t t' x = some (pr, v)) (hp : pr) :
    ∃ y, (convert t t' u).run P w = .ok y w ∧ RepAV w F s.lb g v y := by
  unfold convA at ho
  split at ho
  · rename_i k ht k2 ht2 k3 n
    obtain ⟨info, z, d, ok⟩ := hT _ _ ‹tab t = _›
    obtain ⟨info2, z2, d2, ok2⟩ := hT _ _ ‹tab t' = _›
    have hd := ok.desc
    have hd2 := ok2.desc
    cases d <;> simp [tyMatch] at hd
    cases d2 <;> simp [tyMatch] at hd2
    subst hd hd2
    obtain rfl := hu.c_v
    obtain ⟨rfl, rfl⟩ := Prod.mk.inj (Option.some.inj ho)
    exact ⟨_, by simp [convert, run_underlying ok.und, run_underlying ok2.und, Conv.intToInt], rep_v rfl⟩
  · rename_i e _ _ _ _ _ _ l n ht ht2
    obtain ⟨info, z, d, ok⟩ := hT _ _ ht
    obtain ⟨info2, z2, d2, ok2⟩ := hT _ _ ht2
    have hd := ok.desc
    have hd2 := ok2.desc
    cases d <;> simp [tyMatch] at hd
    cases d2 <;> simp [tyMatch] at hd2
    subst hd
    split at ho
    · rename_i hte
      split at ho
      case h_2 => cases ho
      rename_i e1 sz1 rows fz1 hl
      obtain ⟨info3, z3, d3, ok3⟩ := hT _ _ hte
      have hd3 := ok3.desc
      cases d3 <;> simp [tyMatch] at hd3
      subst hd3
      split at ho
      · rename_i hn
        obtain ⟨rfl, rfl⟩ := Prod.mk.inj (Option.some.inj ho)
        simp only [RepAV, RepAC] at hu
        obtain ⟨_, B, hB, hq⟩ := hu
        rw [hl] at hB
        obtain rfl := Option.some.inj hB
        simp only [okOwnB] at hq
        rw [hq.2 hn]
        obtain ⟨hsz, hrl, xs, S, hown, hcells, _⟩ := h.lb l _ hl
        have hvals := bytes_vals _ _ _ hp hcells
        rcases hown.2 with ⟨h1, h2⟩ | ⟨gg, cap, cur, h1, _⟩
        · rw [h1]
          have : rows = [] := List.eq_nil_of_length_eq_zero h2
          subst this
          refine ⟨.string ByteArray.empty, ?_, rep_v rfl⟩
          rw [run_convert_bytes_string w t t' _ none 0 0 ok.und ok3.und ok2.und]
          simp [Conv.bytesToString]
        · rw [h1]
          refine ⟨_, ?_, rep_v rfl⟩
          rw [run_convert_bytes_string w t t' _ _ _ _ ok.und ok3.und ok2.und]
          refine run_bytesToString w ⟨gg, 0, none⟩ rows.length cap (rows.map byteAt) ?_
          have hlen : (rows.map byteAt).length = rows.length := by simp
          rw [← hvals]
          have hcl := hown.cells (g := gg) (by rw [h1]; rfl)
          have hxl : xs.length = rows.length := by rw [hvals]; simp
          have := run_firstCells_some (P := P) (w := w) 1 rows.length ⟨gg, 0, none⟩ rows.length cap xs (by omega) hcl
          simpa [Builtin.firstCells] using this
      · cases ho
    · cases ho
  · cases ho

/-- The operations that leave memory as it is. -/
theorem pureF_sound (hT : TabOk P tab) (h : Sim w0 M0 F0 F g s a w) {o : Oper} {pr : Prop} {v : AV} (ho : pureF tab o s = some (pr, v)) (hp : pr) :
    ∃ u, (execOp a.eval o).run P w = .ok (.value u) w ∧ RepAV w F s.lb g v u := by
  have E := opv_sound h
  unfold pureF at ho
  unfold execOp
  split at ho
  · rename_i x hop
    obtain ⟨rfl, rfl⟩ := Prod.mk.inj (Option.some.inj ho)
    exact ⟨_, by simp [hop], E x⟩
  · rename_i x hop
    obtain ⟨rfl, rfl⟩ := Prod.mk.inj (Option.some.inj ho)
    exact ⟨_, by simp [hop], E x⟩
  · rename_i c x y hop
    split at ho
    · rename_i b hb
      obtain ⟨rfl, rfl⟩ := Prod.mk.inj (Option.some.inj ho)
      have hc := E c
      rw [hb] at hc
      have hc := hc.c_v
      refine ⟨if b then a.eval x else a.eval y, by simp [hop, hc, asBool], ?_⟩
      cases b
      · simpa using E y
      · simpa using E x
    · cases ho
  · rename_i t parts hop
    split at ho
    · rename_i fs cmp sz by_ zero ht
      cases hf : fillA (fun i => fs[i]?) zero (parts.toList.map fun (i, x) => (i, opv s x)) with
      | none => rw [hf] at ho; cases ho
      | some cs =>
        rw [hf] at ho
        obtain ⟨rfl, rfl⟩ := Prod.mk.inj (Option.some.inj ho)
        obtain ⟨u, hu, hv⟩ := build_sound (w := w) (F := F) (lb := s.lb) (g := g) hT ht (parts.map fun (i, x) => (i, opv s x)) (parts.map fun (i, x) => (i, a.eval x)) (by simp)
          (fun i p q hi hq => by
            simp only [Array.toList_map, List.getElem?_map] at hi hq
            cases hx : parts.toList[i]? with
            | none => rw [hx] at hi; cases hi
            | some y =>
              rw [hx] at hi hq
              simp at hi hq
              subst hi hq
              exact ⟨rfl, E _⟩) (by simpa using hf)
        exact ⟨u, by simp [hop, hu], hv⟩
    · cases ho
  · rename_i t x hop
    obtain ⟨u, hu, hv⟩ := loadA_sound (P := P) hT h (E x) ho hp
    exact ⟨u, by simp [hop, hu], hv⟩
  · rename_i op t x y t' hop
    obtain ⟨u, hu, hv⟩ := binA_sound (P := P) hT (xo := x) (yo := y) (E x) (E y) ho hp
    refine ⟨u, ?_, hv⟩
    simp only [hop]
    rw [Sem.run_bind, hu]; rfl
  · rename_i t x hop
    split at ho
    · rename_i b hb
      obtain ⟨rfl, rfl⟩ := Prod.mk.inj (Option.some.inj ho)
      have hx := E x
      rw [hb] at hx
      have hx := hx.c_v
      exact ⟨.bool (!b), by simp [hop, hx, Op.unary], rep_v rfl⟩
    · cases ho
  · rename_i t x f hop
    obtain ⟨u, hu, hv⟩ := fieldAddrA_sound (P := P) hT (E x) ho hp
    exact ⟨u, by simp [hop, hu], hv⟩
  · rename_i t x i hop
    obtain ⟨u, hu, hv⟩ := indexAddrA_sound (P := P) hT h (E x) (E i) ho hp
    exact ⟨u, by simp [hop, hu], hv⟩
  · rename_i t x i hop
    obtain ⟨u, hu, hv⟩ := indexA_sound (P := P) hT (E x) (E i) ho hp
    exact ⟨u, by simp [hop, hu], hv⟩
  · rename_i t x lo hi hop
    obtain ⟨u, hu, hv⟩ := sliceA_sound (P := P) (vl := lo.map a.eval) (vh := hi.map a.eval) hT (E x) (by cases lo <;> simp [E]) (by cases hi <;> simp [E]) ho hp
    exact ⟨u, by simp [hop, hu], hv⟩
  · rename_i t t' x hop
    obtain ⟨u, hu, hv⟩ := convA_sound (P := P) hT h (E x) ho hp
    exact ⟨u, by simp [hop, hu], hv⟩
  · rename_i x i hop
    split at ho
    · rename_i vs hx
      have k := E x
      rw [hx] at k
      simp only [RepAV] at k
      obtain ⟨us, hus, hr⟩ := k
      cases hi : vs[i]? with
      | none => rw [hi] at ho; cases ho
      | some y =>
        rw [hi] at ho
        obtain ⟨rfl, rfl⟩ := Prod.mk.inj (Option.some.inj ho)
        have get : ∀ (vs : List AV) (us : List Value) (i : Nat) y, RepAVs w F s.lb g vs us → vs[i]? = some y → ∃ u, us[i]? = some u ∧ RepAV w F s.lb g y u := by
          intro vs
          induction vs with
          | nil => intro us i y _ hy; simp at hy
          | cons v vs ih =>
            intro us i y hr hy
            simp only [RepAVs] at hr
            obtain ⟨u, us', rfl, h1, h2⟩ := hr
            cases i with
            | zero => simp at hy; subst hy; exact ⟨u, by simp, h1⟩
            | succ i => simpa using ih us' i y h2 (by simpa using hy)
        obtain ⟨u, hu, hv⟩ := get vs us i y hr hi
        exact ⟨u, by simp [hop, hus, Instr.extract, hu], hv⟩
    · cases ho
  · rename_i c hop
    obtain ⟨callee, args, ts⟩ := c
    unfold callPure at ho
    split at ho
    · rename_i hc
      simp only at hc
      subst hc
      split at ho
      · rename_i x t ha ht
        have ha' : args.toList = [x] := ha
        have ht' : ts.toList = [t] := ht
        clear ha ht
        obtain rfl : args = #[x] := Array.toList_inj.1 ha'
        obtain rfl : ts = #[t] := Array.toList_inj.1 ht'
        obtain ⟨u, hu, hv⟩ := lenA_sound (P := P) hT h (ty := o.type) (E x) ho
        exact ⟨u, by simp [hop, resolve, invoke, builtin, hu], hv⟩
      · cases ho
    · rename_i hc
      simp only at hc
      subst hc
      split at ho
      · rename_i x y ha
        have ha' : args.toList = [x, y] := ha
        clear ha
        obtain rfl : args = #[x, y] := Array.toList_inj.1 ha'
        obtain ⟨u, hu, hv⟩ := maxA_sound (P := P) (ts := ts) (ty := o.type) (E x) (E y) ho
        exact ⟨u, by simp [hop, resolve, invoke, builtin, hu], hv⟩
      · cases ho
    · cases ho
  · cases ho

end Go.Ai
