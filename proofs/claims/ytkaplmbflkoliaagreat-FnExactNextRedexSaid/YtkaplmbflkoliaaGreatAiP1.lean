/- What is bound: the row of bindings is the caller's own. -/
import Derived.Test.YtkaplmbflkoliaaGreatAiI3
import Derived.Test.YtkaplmbflkoliaaGreatAiShow
namespace Go.Ai
set_option linter.unusedVariables false
set_option linter.unusedSimpArgs false
open Go.Proofs
set_option maxRecDepth 100000

/-! ### The reference's side: a copy -/
theorem l3CopyF_1 (k n : Int) (s : ByteArray) (ts : List Tm) (hl : ts.length < 100000000) (ih : ∀ t, t ∈ ts → SatF Tryz.prog 61 [tmV t] (tmV t)) : SatF Tryz.prog 61 [tmV (.mk k n s ts)] (tmV (.mk k n s ts)) := by
  refine satF_of_code [tmV (.mk k n s ts)] rfl (fun _ h => by cases h) tbOk mixed Tryz.func61 rfl rfl rfl (by decide +kernel) (by decide +kernel) (Nat.le_of_ble_eq_true rfl) ?_
  simp -implicitDefEqProofs (disch := omega) only [go_sem, Tm.enc]
  refine loopA_rule (ι := Nat) (fun i => mk 25 [(1, .one (.ptr 1 0)), (2, .one (.ptr 2 0)), (3, .one (.own 5 i)), (4, intV i)] [(1, .var [iC k, iC n, sC s, tC ts]), (2, .var zT), (5, .arr 37 4 (drowsOf Tm.enc (ts.take i)) false)])
    (fun i => i ≤ ts.length) (fun i => ts.length - i) 0 (Nat.zero_le _) ?_ tbOk mixed (by decide +kernel) ?_
  · exact le_mk (by simp [go_sem]) (by simp [go_sem, zT, drowsOf])
  · intro i hi
    rcases Nat.lt_or_ge i ts.length with hlt | hge
    · have hg := encs_getD ts i hlt
      have hih := ih _ (List.getElem_mem hlt)
      have ht := drowsOf_take Tm.enc ts i hlt
      have hdl : (drowsOf Tm.enc (ts.take i)).length = i := by rw [drowsOf_len, List.length_take]; omega
      generalize ts[i] = a at hg hih ht
      obtain ⟨ak, an, as', at_⟩ := a
      simp only [Tm.enc, List.map_cons, List.map_nil, dC] at ht
      simp -implicitDefEqProofs (disch := omega) only [go_sem, hg, hlt, enc_len]
      refine CallK.own hih rfl ?_
      simp -implicitDefEqProofs (disch := omega) only [go_sem, Tm.enc, hdl]
      refine ⟨⟨by simp, by omega, by omega⟩, fun _ => ⟨i + 1, by omega, by omega, (wk_moveLast (l := 5) (c := 3) rfl rfl rfl rfl).trans ?_⟩⟩
      exact le_mk (by simp [go_sem]) (by simp [go_sem, zT, ht])
    · have : i = ts.length := by omega
      subst this
      simp -implicitDefEqProofs (disch := omega) only [go_sem, Nat.lt_irrefl, Tm.enc, List.take_length]
      exact ⟨by simp [drowsOf], (encs_map ts).symm⟩
theorem l3CopyF_sat : ∀ (t : Tm), t.size < 100000000 → SatF Tryz.prog 61 [tmV t] (tmV t) := by
  refine Tm.ind (fun k n s ts ih h => l3CopyF_1 k n s ts ?_ (fun t ht => ih t ht ?_))
  · have := len_sizes ts; simp only [Tm.size] at h; omega
  · have := size_mem ts t ht; simp only [Tm.size] at h; omega
theorem findBindF_sat (bs : List GBind) (s : ByteArray) (hl : bs.length < 100000000) (hb : ∀ b, b ∈ bs → b.t.size < 1048577) : SatF Tryz.prog 80 [slV (bs.map GBind.enc), strV s] (.tup [tmV ((bnd bs s).getD zeroT), boolV (bnd bs s).isSome]) := by
  refine satF_of_code [tmV ((bnd bs s).getD zeroT), boolV (bnd bs s).isSome] rfl (fun _ h => by cases h; rfl) tbOk mixed Tryz.func80 rfl rfl rfl (by decide +kernel) (by decide +kernel) (Nat.le_of_ble_eq_true rfl) ?_
  simp -implicitDefEqProofs (disch := omega) only [go_sem]
  refine CallK.mk (l7At_sat bs s hl) ?_
  cases h : bnd bs s with
  | none =>
    rw [bidx_none bs s 0 h]
    simp -implicitDefEqProofs (disch := omega) only [go_sem]
    exact ⟨fun _ => by simp [go_sem, zeroT, Tm.enc, Tm.encs]; rfl, fun h => absurd (by decide) h⟩
  | some t =>
    obtain ⟨i, hi, h1, h2⟩ := bidx_some bs s 0 t h
    have h1' : bidx bs s 0 = ((i : Nat) : Int) := by omega
    rw [h1']
    have hg := map_getD (ec := GBind.enc) hi
    have hbt := hb _ (List.getElem_mem hi)
    generalize bs[i] = x at hg h2 hbt
    obtain ⟨xna, xtk, xtn, xts, xtt⟩ := x
    simp only [GBind.enc, Tm.enc, encS, List.cons_append, List.nil_append] at hg
    simp only at h2 hbt
    subst h2
    simp -implicitDefEqProofs (disch := omega) only [go_sem, hg, hi, List.length_map]
    have hc := l3CopyF_sat (.mk xtk xtn xts xtt) (by omega)
    refine CallK.own hc rfl ?_
    simp -implicitDefEqProofs (disch := omega) only [go_sem, Tm.enc]
    rfl

/-! ### The program's side: the bindings' own values -/
structure OB where
  b : GBind
  h : Value
def OB.enc : OB → List C
  | ⟨⟨na, .mk k n s _⟩, h⟩ => [.v (.string na), .v (.int .i64 k), .v (.int .i64 n), .v (.string s), .v h]
theorem OB.enc_len (x : OB) : x.enc.length = 5 := by obtain ⟨⟨na, ⟨k, n, s, ts⟩⟩, h⟩ := x; rfl
attribute [go_sem] OB.enc_len
def bndO : List OB → ByteArray → Option OB
  | [], _ => none
  | b :: bs, s => if eqS b.b.na s then some b else bndO bs s
theorem bndO_drop (bs : List OB) (s : ByteArray) (i : Nat) (h : i < bs.length) : bndO (bs.drop i) s = if eqS bs[i].b.na s then some bs[i] else bndO (bs.drop (i + 1)) s := by
  rw [List.drop_eq_getElem_cons h]; simp only [bndO]
def resO : Option OB → AV
  | some ⟨⟨_, .mk k n s _⟩, h⟩ => .agg [iC k, iC n, sC s, .c (.v h)]
  | none => tmV zeroT
theorem boundO_sat (bs : List OB) (s : ByteArray) (hl : bs.length < 100000000) : Sat Tryz.prog 137 [slV (bs.map OB.enc), strV s] (.tup [resO (bndO bs s), boolV (bndO bs s).isSome]) := by
  refine sat_of_code tbOk mixed Tryz.func137 rfl rfl rfl (by decide +kernel) (by decide +kernel) (Nat.le_of_ble_eq_true rfl) ?_
  simp -implicitDefEqProofs (disch := omega) only [go_sem]
  obtain ⟨r, hr⟩ : ∃ r, r = bndO bs s := ⟨_, rfl⟩
  rw [← hr]
  refine loopA_rule (ι := Nat) (fun i => mk 22 [(1, strV s), (4, .one (.ptr 4 0)), (5, boolV false), (8, slV (bs.map OB.enc)), (9, intV bs.length), (10, intV i)] [(4, .var zT)]) (fun i => i ≤ bs.length ∧ r = bndO (bs.drop i) s) (fun i => bs.length - i) 0 ⟨Nat.zero_le _, by simpa using hr⟩ ?_ tbOk mixed (by decide +kernel) ?_
  · exact le_mk (by simp [go_sem]) (by simp [go_sem, zT])
  · rintro i ⟨hi, he⟩
    rcases Nat.lt_or_ge i bs.length with hlt | hge
    · have hg := map_getD (ec := OB.enc) hlt
      rw [bndO_drop bs s i hlt] at he
      generalize bs[i] = x at hg he
      obtain ⟨⟨xna, ⟨xtk, xtn, xts, xtt⟩⟩, xh⟩ := x
      simp only [OB.enc] at hg
      simp -implicitDefEqProofs (disch := omega) only [go_sem, hg, hlt, List.length_map]
      refine ⟨fun h => ?_, fun h => ⟨i + 1, ⟨hlt, ?_⟩, by omega, ?_⟩⟩
      · have he' : eqS xna s = true := by simpa [eqS] using h
        simp only [he', if_true] at he
        subst he; rfl
      · have he' : eqS xna s = false := h
        simpa only [he', Bool.false_eq_true, if_false] using he
      · exact le_mk (by simp [go_sem]) (by simp [go_sem, zT])
    · have e1 : bs.drop i = [] := List.drop_of_length_le hge
      rw [e1] at he
      have he : r = none := he
      subst he
      simp -implicitDefEqProofs (disch := omega) only [go_sem, Nat.not_lt.2 hge, List.length_map]
      rfl
theorem bndO_bnd (s : ByteArray) : ∀ (os : List OB), bnd (os.map (·.b)) s = (bndO os s).map (·.b.t)
  | [] => rfl
  | o :: os => by
    simp only [List.map_cons, bnd, bndO]
    split
    · rfl
    · exact bndO_bnd s os
theorem bndO_mem (s : ByteArray) : ∀ (os : List OB) (o : OB), bndO os s = some o → o ∈ os
  | [], _, h => by cases h
  | x :: os, o, h => by
    simp only [bndO] at h
    split at h
    · cases h; simp
    · exact List.mem_cons_of_mem _ (bndO_mem s os o h)
def OB.ok (w : World) (F : Fz) : OB → Prop
  | ⟨⟨_, .mk _ _ _ ts⟩, h⟩ => Rd w F (.sl (Tm.encs ts)) h
theorem sl_okv {w : World} {F : Fz} {rows : List (List C)} {u : Value} (h : Rd w F (.sl rows) u) : okv u := by
  simp only [Rd] at h
  obtain ⟨A, cap, sz, rfl, _⟩ := h
  trivial
theorem opaque_row {w : World} {F : Fz} {lb : Lk} {g : Gh} : ∀ (bs : List GBind) (us : List Value) (S : List Nat), RepCells w F lb g (rowsOf GBind.enc bs).flatten us S →
    ∃ os : List OB, os.map (·.b) = bs ∧ (∀ o, o ∈ os → o.ok w F) ∧ RepCells w F lb g (rowsOf OB.enc os).flatten us S
  | [], us, S, h => ⟨[], rfl, by simp, h⟩
  | ⟨na, .mk k n s ts⟩ :: bs, us, S, h => by
    simp only [rowsOf, List.map_cons, List.flatten_cons, GBind.enc, Tm.enc, encS, List.cons_append, List.nil_append, List.map_nil, RepCells] at h
    obtain ⟨u1, us1, S1, T1, rfl, rfl, h1, u2, us2, S2, T2, rfl, rfl, h2, u3, us3, S3, T3, rfl, rfl, h3, u4, us4, S4, T4, rfl, rfl, h4, u5, us5, S5, T5, rfl, rfl, h5, h⟩ := h
    obtain ⟨os, e1, e2, e3⟩ := opaque_row bs _ _ h
    have h6 : Rd w F (.sl (Tm.encs ts)) u5 := by have := h5.1; simpa only [RepAC] using this
    refine ⟨⟨⟨na, .mk k n s ts⟩, u5⟩ :: os, by rw [List.map_cons, e1], ?_, ?_⟩
    · intro o ho
      rcases List.mem_cons.1 ho with rfl | ho
      · exact h6
      · exact e2 o ho
    · simp only [rowsOf, List.map_cons, List.flatten_cons, OB.enc, List.cons_append, List.nil_append, List.map_nil, RepCells]
      refine ⟨u1, _, S1, _, rfl, rfl, h1, u2, _, S2, _, rfl, rfl, h2, u3, _, S3, _, rfl, rfl, h3, u4, _, S4, _, rfl, rfl, h4, u5, _, S5, _, rfl, rfl, ⟨?_, h5.2⟩, e3⟩
      simp only [RepAC, Rd]
      exact ⟨trivial, sl_okv h6⟩
theorem boundV_sat (bs : List GBind) (s : ByteArray) (hl : bs.length < 100000000) : SatV Tryz.prog 137 [] [strV s] 159 5 (rowsOf GBind.enc bs) (.tup [tmV ((bnd bs s).getD zeroT), boolV (bnd bs s).isSome]) := by
  refine ⟨(boundO_sat [] s (by simp)).1, by decide, rowsOf_cl, fun w F us1 v0 us2 S hF h1 h2 hrow hS => ?_⟩
  simp only [RepAVs] at h1
  subst h1
  obtain ⟨k1, k2, xs, S', hown, hcells, hd⟩ := hrow
  obtain ⟨os, e1, e2, e3⟩ := opaque_row bs xs S' hcells
  have hlen : os.length = bs.length := by rw [← e1, List.length_map]
  have hrow' : RepLB w F noLk (gA v0 S) 0 (.arr 159 5 (rowsOf OB.enc os) false) := by
    refine ⟨k1, ?_, xs, S', ?_, e3, hd⟩
    · intro r hr
      obtain ⟨o, _, rfl⟩ := List.mem_map.1 hr
      rw [List.length_map, OB.enc_len]
    · rw [rowsOf_len, hlen, ← rowsOf_len (ec := GBind.enc)]; exact hown
  have hblk : ∀ b, b ∈ blkOf v0 → b < w.heap.size := fun b hb => hS b (by have hd : S = blkOf v0 ++ S' := hd; rw [hd]; simp [hb])
  have hF1 : ∀ b o, (F b o ∨ b ∈ blkOf v0) → b < w.heap.size := fun b o hb => hb.elim (hF b o) (hblk b)
  have hrd : Rd w (fun b o => F b o ∨ b ∈ blkOf v0) (.sl (os.map OB.enc)) v0 := row_show (rowsOf_unN) hrow' (fun _ _ hb => .inl hb) (fun b o hb _ => .inr hb)
  have h2' := RepAVs.mono (w' := w) (F' := fun b o => F b o ∨ b ∈ blkOf v0) ⟨fun _ _ hb => .inl hb, fun _ _ _ => rfl⟩ (Keeps.refl noLk g0) _ _ h2
  refine ((boundO_sat os s (by rw [hlen]; exact hl)).2 w _ (v0 :: us2) hF1 ⟨v0, us2, rfl, by simpa only [RepAV, RepAC] using hrd, h2'⟩).mono ?_
  rintro ex w' ⟨v, F', rfl, hbel, _, _, _, hr⟩
  refine ⟨v, rfl, hbel, ?_⟩
  have hst : Stays w w' F F := ⟨fun _ _ hb => hb, fun b o hb => cell_of_heap (hbel.block b (hF b o hb)) o⟩
  rw [← e1, bndO_bnd]
  cases hq : bndO os s with
  | none =>
    rw [hq] at hr
    simp only [resO, Option.map_none, Option.getD_none, Option.isSome_none, zeroT, Tm.enc, Tm.encs, List.map_cons, List.map_nil, RepAV, RepAVs, RepACs, RepAC, Rd, RdRows] at hr ⊢
    exact hr
  | some o =>
    have ho := e2 o (bndO_mem s os o hq)
    rw [hq] at hr
    obtain ⟨⟨na, ⟨k, n, s', ts⟩⟩, h⟩ := o
    have ho : Rd w' F (.sl (Tm.encs ts)) h := Rd.mono hst _ _ ho
    simp only [resO, Option.map_some, Option.getD_some, Option.isSome_some, Tm.enc, List.map_cons, List.map_nil, RepAV, RepAVs, RepACs, RepAC] at hr ⊢
    obtain ⟨us, rfl, u, us', rfl, ⟨ws, rfl, a1, w1, rfl, q1, a2, w2, rfl, q2, a3, w3, rfl, q3, a4, w4, rfl, q4, rfl⟩, hrest⟩ := hr
    simp only [Rd] at q1 q2 q3 q4 hrest
    obtain ⟨rfl, _⟩ := q4
    exact ⟨_, rfl, _, us', rfl, ⟨_, rfl, a1, _, rfl, by simpa only [Rd] using q1, a2, _, rfl, by simpa only [Rd] using q2, a3, _, rfl, by simpa only [Rd] using q3, a4, _, rfl, ho, rfl⟩, by simpa only [Rd] using hrest⟩
end Go.Ai
