/- Runs of machines: they end. -/
import Derived.Test.YtphclghkljeaeaaGreatAiZ9
set_option linter.unusedVariables false
set_option linter.unusedSimpArgs false
namespace Go.Ai
open Go.Proofs
set_option maxRecDepth 100000
def bD1 (ws : List Nat) : List Int → Nat
 | [] => 0
 | x :: xs => 1 + ws.getD x.toNat 0 + bD1 ws xs
mutual
def Tm.wrk (st : List GStrict) : Tm → Nat
 | .mk k _ s ts => 1 + bD1 (Tm.wrks st ts) (if k = 2 then zF0 st s else [])
def Tm.wrks (st : List GStrict) : List Tm → List Nat
 | [] => []
 | a :: ts => a.wrk st :: Tm.wrks st ts
end
theorem sW0 (st : List GStrict) : ∀ (ts : List Tm), Tm.wrks st ts = ts.map (Tm.wrk st)
 | [] => rfl
 | a :: ts => by simp [Tm.wrks, sW0 st ts]
def wkT (st : List GStrict) (nx : Int) : Tm → Nat
 | .mk k _ s ts => 1 + bD1 (Tm.wrks st ts) ((if k = 2 then zF0 st s else []).drop nx.toNat)
theorem kq1 (st : List GStrict) (t : Tm) : wkT st 0 t = t.wrk st := by
 obtain ⟨k, n, s, ts⟩ := t
 simp [wkT, Tm.wrk]
def wkM (d : GDefinition) : Tm → Int → List GFrame → Nat
 | u, nx, [] => wkT d.st nx u
 | u, nx, f :: fs => wkT d.st nx u + match qr0 d f u with
  | some v => wkM d v (f.nx + 1) fs
  | none => 0
def gR1 (d : GDefinition) (u : Tm) : List GFrame → Nat
 | [] => 0
 | f :: fs => match qr0 d f u with
  | some v => wkM d v (f.nx + 1) fs
  | none => 0
theorem vU1 (d : GDefinition) (u : Tm) (nx : Int) : ∀ (fs : List GFrame), wkM d u nx fs = wkT d.st nx u + gR1 d u fs
 | [] => rfl
 | f :: fs => rfl
def wkG (d : GDefinition) (m : GMachine) : Nat := wkM d m.fo m.nx m.st.reverse
theorem wm1 (d : GDefinition) (m m' : GMachine) (h : zy0 d m = some m') : m'.rw = IntKind.i64.wrap (m.rw + 1) ∨ (m'.rw = m.rw ∧ wkG d m' < wkG d m) := by
 obtain ⟨⟨k, n, s, ts⟩, nx, fs, rw_⟩ := m
 unfold zy0 at h
 by_cases hh : 0 ≤ zg0 d ⟨.mk k n s ts, nx⟩
 ·simp only [if_pos hh] at h
  cases h
  refine .inr ⟨rfl, ?_⟩
  rcases qN0 (if k = 2 then zF0 d.st s else []) nx ts.length with h | ⟨i, j, rfl, hi, hij, hj, h⟩
  ·simp only [zg0] at hh; omega
  have hjj : zg0 d ⟨.mk k n s ts, (i : Int)⟩ = (j : Int) := h
  have e1 : ts.getD j zeroT = ts[j] := by rw [List.getD_eq_getElem?_getD, List.getElem?_eq_getElem hj, Option.getD_some]
  have hfb : qr0 d ⟨.mk k n s ts, (i : Int)⟩ ts[j] = some (.mk k n s ts) := by
   unfold qr0 km0
   rw [hjj, if_neg (by omega)]
   simp [rG0]
  simp only [wkG, Tm.args, List.reverse_append, List.reverse_cons, List.reverse_nil, List.nil_append, List.singleton_append]
  rw [hjj, Int.toNat_natCast, e1]
  simp only [wkM, hfb]
  rw [vU1, vU1 d (.mk k n s ts) (i : Int), kq1]
  simp only [wkT]
  have ei : ((i : Int) + 1).toNat = i + 1 := by omega
  rw [ei, Int.toNat_natCast, List.drop_eq_getElem_cons hi]
  simp only [bD1]
  have hxi : (if k = 2 then zF0 d.st s else [])[i] = (j : Int) := by rw [← hij, List.getD_eq_getElem?_getD, List.getElem?_eq_getElem hi, Option.getD_some]
  rw [hxi, Int.toNat_natCast, sW0]
  have : (ts.map (Tm.wrk d.st)).getD j 0 = ts[j].wrk d.st := by simp [List.getD, hj]
  rw [this]
  omega
 ·simp only [if_neg hh] at h
  by_cases hro : 0 ≤ rootF d (.mk k n s ts)
  ·simp only [if_pos hro] at h
   cases h
   exact .inl rfl
  ·simp only [if_neg hro] at h
   rcases List.eq_nil_or_concat fs with rfl | ⟨gs, f, rfl⟩
   ·simp at h
   ·rw [List.concat_eq_append] at h ⊢
    simp only [List.getLast?_append, List.getLast?_singleton, Option.some_or, List.dropLast_concat] at h
    cases hf : qr0 d f (.mk k n s ts) with
    | none => rw [hf] at h; cases h
    | some u =>
     rw [hf] at h
     cases h
     refine .inr ⟨rfl, ?_⟩
     simp only [wkG, List.reverse_append, List.reverse_cons, List.reverse_nil, List.nil_append, List.singleton_append]
     simp only [wkM, hf]
     have : 0 < wkT d.st nx (.mk k n s ts) := by simp only [wkT]; omega
     omega
theorem rw0 (d : GDefinition) : ∀ (fs : List GFrame) (t u : Tm), jz0 d t fs = some u → t.size + fs.length ≤ u.size
 | [], t, u, h => by cases h; simp
 | f :: fs, t, u, h => by
  simp only [jz0] at h
  cases hq : qr0 d f t with
  | none => rw [hq] at h; cases h
  | some v =>
   rw [hq] at h
   have ih := rw0 d fs v u h
   have : t.size < v.size := by
    obtain ⟨⟨k, n, s, ts⟩, nx⟩ := f
    unfold qr0 km0 at hq
    split at hq
    ·cases hq
    ·rename_i hn
     cases hq
     simp only [zg0] at hn ⊢
     rcases qN0 (if k = 2 then zF0 d.st s else []) nx ts.length with h | ⟨i, j, _, _, _, hj, h⟩
     ·rw [h] at hn; omega
     ·rw [h]
      simp only [rG0, Int.toNat_natCast, Tm.size]
      have := zQ0 (ts.set j t) t (List.mem_set hj t)
      omega
   simp only [List.length_cons]; omega
def wx1 (d : GDefinition) (m : GMachine) : Prop := m.wf ∧ m.fo.size < 540 ∧ m.st.length < 540 ∧ ∀ f, f ∈ m.st → f.t.size < 540
theorem rB0 {α : Type} (sz : α → Nat) (k : Nat) : ∀ (xs : List α), (∀ x, x ∈ xs → sz x ≤ k) → szL sz xs ≤ (k + 1) * xs.length
 | [], _ => by simp [szL]
 | a :: xs, h => by
  have h1 := h a (by simp)
  have h2 := rB0 sz k xs (fun x hx => h x (by simp [hx]))
  simp only [szL, List.length_cons, Nat.mul_add, Nat.mul_one]; omega
theorem tq0 (d : GDefinition) (m : GMachine) (h : wx1 d m) : m.size < 1048577 := by
 obtain ⟨_, h1, h2, h3⟩ := h
 have := rB0 GFrame.size 540 m.st (fun f hf => by have := h3 f hf; simp only [GFrame.size, szI]; omega)
 have h4 : (540 + 1) * m.st.length ≤ 541 * 540 := Nat.mul_le_mul_left 541 (by omega)
 simp only [GMachine.size, szI]; omega
theorem tp0 (d : GDefinition) (hw : d.wf) (hs : d.size < 1048577) (m : GMachine) (h : wx1 d m) (h2 : (zX0 d m).2 = true) : wx1 d (zX0 d m).1 ∧ zy0 d m = some (zX0 d m).1 := by
 have hok := lk0 d hw hs m h.1 (tq0 d m h)
 unfold zX0 at h2 hok ⊢
 split at h2
 case isFalse => cases h2
 rename_i hg
 rw [if_pos hg] at hok ⊢
 cases hm : zy0 d m with
 | none => rw [hm] at h2; cases h2
 | some m' =>
  rw [hm] at h2 hok
  simp only at h2 hok ⊢
  split at h2
  case isFalse => cases h2
  rename_i hv
  rw [if_pos hv] at hok ⊢
  simp only at hok ⊢
  simp only [Bool.and_eq_true] at hv
  obtain ⟨u, hu⟩ := Option.isSome_iff_exists.1 hv.2
  rw [hu] at hv
  have huw := (bh0 d m' hok.2 u hu).2
  have hut := xT0 u hv.1 huw
  have hge := rw0 d m'.st.reverse m'.fo u hu
  rw [List.length_reverse] at hge
  have hu1 := hut.1
  refine ⟨⟨hok.2, by omega, by omega, fun f hf => ?_⟩, by first | rfl | trivial⟩
  have hfr : f ∈ m.st ++ [⟨m.fo, m.nx⟩] := by
   unfold zy0 at hm
   split at hm
   ·cases hm; exact hf
   ·split at hm
    ·cases hm; exact List.mem_append_left _ hf
    ·split at hm
     ·cases hm
     ·rename_i g hg
      cases hq : qr0 d g m.fo with
      | none => rw [hq] at hm; cases hm
      | some v =>
       rw [hq] at hm
       cases hm
       exact List.mem_append_left _ (List.dropLast_subset _ hf)
  rcases List.mem_append.1 hfr with hf | hf
  ·exact h.2.2.2 f hf
  ·rw [List.mem_singleton.1 hf]; exact h.2.1
def rN1 (d : GDefinition) (fuel : Int) (m : GMachine) : Option GMachine := if (zX0 d m).2 && decide ((zX0 d m).1.rw ≤ fuel) then some (zX0 d m).1 else none
def qo0 (t : Tm) : GMachine := ⟨t, 0, [], 0⟩
def tA1 : GMachine := ⟨zeroT, 0, [], 0⟩
theorem bA0 (t : Tm) (h : t.size < 1048577) : SatF Tryz.prog 25 [tmV t] (zn0 (qo0 t).enc) := by
 have hc := qA0 t (by omega)
 obtain ⟨k, n, s, ts⟩ := t
 refine sfc [_] rfl (fun _ h => by cases h) zE0 zA0 Tryz.func25 ?_
 refine jj0 ?_
 refine CallK.own hc rfl ?_
 simp -implicitDefEqProofs (disch := omega) only [go_sem, Tm.enc, qo0, zN0, List.map_nil]
theorem to0 (t : Tm) (ht : tmOk t) (d : GDefinition) : wx1 d (qo0 t) :=
 ⟨⟨ht.2.2, kJ0 0 (by omega) (by omega), ⟨Nat.zero_le _, fun _ h => by cases h⟩, kJ0 0 (by omega) (by omega)⟩, ht.1, by simp [qo0], fun f hf => by cases hf⟩
end Go.Ai
namespace Go.Ai
open Go.Proofs
set_option maxRecDepth 100000
theorem wn1 (d : GDefinition) (m m' : GMachine) (hm : zy0 d m = some m') :
  (0 ≤ zg0 d ⟨m.fo, m.nx⟩ ∨ rootF d m.fo < 0) ∧ m'.rw = m.rw ∧ zY0 d m' = zY0 d m ∨ ¬ 0 ≤ zg0 d ⟨m.fo, m.nx⟩ ∧ 0 ≤ rootF d m.fo ∧ m' = ⟨fireT (sK0 d (rootF d m.fo)) m.fo, 0, m.st, IntKind.i64.wrap (m.rw + 1)⟩ := by
 unfold zY0
 unfold zy0 at hm
 split at hm
 ·rename_i hh
  cases hm
  refine .inl ⟨.inl hh, rfl, ?_⟩
  simp only [List.reverse_append, List.reverse_cons, List.reverse_nil, List.nil_append, List.singleton_append, jz0]
  obtain ⟨⟨k, n, s, ts⟩, nx, fs, rw_⟩ := m
  simp only [zg0] at hh
  rcases qN0 (if k = 2 then zF0 d.st s else []) nx ts.length with h | ⟨i, j, rfl, hi, hij, hj, h⟩
  ·omega
  have hjj : zg0 d ⟨.mk k n s ts, (i : Int)⟩ = (j : Int) := h
  have hfb : qr0 d ⟨.mk k n s ts, (i : Int)⟩ (ts.getD j zeroT) = some (.mk k n s ts) := by
   unfold qr0 km0
   rw [hjj, if_neg (by omega)]
   simp [rG0, hj]
  simp only [hjj, Int.toNat_natCast, Tm.args, hfb]
 ·rename_i hh
  split at hm
  ·rename_i hro
   cases hm
   exact .inr ⟨hh, hro, rfl⟩
  ·rename_i hro
   split at hm
   ·cases hm
   ·rename_i g hg
    cases hq : qr0 d g m.fo with
    | none => rw [hq] at hm; cases hm
    | some v =>
     rw [hq] at hm
     cases hm
     rcases List.eq_nil_or_concat m.st with e | ⟨gs, f, e⟩
     ·rw [e] at hg; cases hg
     rw [List.concat_eq_append] at e
     have hfg : f = g := by rw [e] at hg; simpa using hg
     subst hfg
     refine .inl ⟨.inr (by omega), rfl, ?_⟩
     rw [e]
     simp only [List.reverse_append, List.reverse_cons, List.reverse_nil, List.nil_append, List.singleton_append, jz0, hq]
     simp
end Go.Ai
