/- The operations that leave memory as it is: what the model runs gives what the abstract machine says. -/
import Derived.Test.YtgdmjekkdcjipaaGreatAiOps
import Derived.Laws.StructEq
import Derived.Laws.BytesString
set_option linter.unusedVariables false
set_option linter.unusedSimpArgs false
namespace Go.Ai
open Go.RowKit
variable {P : Program} {tab : Tab} {w0 : World} {M0 : Ms} {F0 F : Fz} {g : Gh} {s : St} {a : Act} {w : World} {lb : Lk}
theorem RepACs.iff : ∀ (as : List AC) (us : List Value), RepACs w F lb g as us ↔ as.length = us.length ∧ ∀ (i : Nat) x u, as[i]? = some x → us[i]? = some u → RepAC w F lb g x u
 | [], us => by simp only [RepACs]; constructor
                ·rintro rfl; simp
                ·intro h; exact List.eq_nil_of_length_eq_zero (by simpa using h.1.symm)
 | x :: as, us => by
  simp only [RepACs]
  constructor
  ·rintro ⟨u, us', rfl, h1, h2⟩
   obtain ⟨h3, h4⟩ := (RepACs.iff as us').1 h2
   refine ⟨by simp [h3], fun i y v hy hv => ?_⟩
   cases i with
   | zero => simp at hy hv; subst hy hv; exact h1
   | succ i => exact h4 i y v (by simpa using hy) (by simpa using hv)
  ·rintro ⟨h1, h2⟩
   cases us with
   | nil => simp at h1
   | cons u us' => exact ⟨u, us', rfl, h2 0 x u (by simp) (by simp), (RepACs.iff as us').2 ⟨by simpa using h1, fun i y v hy hv => h2 (i + 1) y v (by simpa using hy) (by simpa using hv)⟩⟩
theorem RepACs.take {as : List AC} {us : List Value} (h : RepACs w F lb g as us) (n : Nat) : RepACs w F lb g (as.take n) (us.take n) := by
 obtain ⟨h1, h2⟩ := (RepACs.iff _ _).1 h
 refine (RepACs.iff _ _).2 ⟨by simp [h1], fun i x u hx hu => ?_⟩
 rw [List.getElem?_take] at hx hu
 split at hx
 ·rename_i hi; simp only [hi, if_true] at hu; exact h2 i x u hx hu
 ·cases hx
theorem RepACs.drop {as : List AC} {us : List Value} (h : RepACs w F lb g as us) (n : Nat) : RepACs w F lb g (as.drop n) (us.drop n) := by
 obtain ⟨h1, h2⟩ := (RepACs.iff _ _).1 h
 refine (RepACs.iff _ _).2 ⟨by simp [h1], fun i x u hx hu => ?_⟩
 rw [List.getElem?_drop] at hx hu
 exact h2 _ x u hx hu
theorem RepACs.append {as bs : List AC} {us vs : List Value} (h : RepACs w F lb g as us) (k : RepACs w F lb g bs vs) : RepACs w F lb g (as ++ bs) (us ++ vs) := by
 induction as generalizing us with
 | nil => simp only [RepACs] at h; subst h; simpa using k
 | cons x as ih =>
  simp only [RepACs] at h
  obtain ⟨u, us', rfl, h1, h2⟩ := h
  exact ⟨u, us' ++ vs, rfl, h1, ih h2⟩
theorem RepACs.splice {as xs : List AC} {us vs : List Value} (h : RepACs w F lb g as us) (k : RepACs w F lb g xs vs) (off : Nat) :
  RepACs w F lb g (splice as off xs) (us.take off ++ (vs ++ us.drop (off + vs.length))) := by
 unfold Ai.splice
 rw [RepACs.len _ _ k]
 exact (h.take off).append (k.append (h.drop _))
theorem RdCells.cell {b : Nat} : ∀ (cs : List C) (o : Nat), RdCells w F b o cs → ∃ us, RepACs w F lb g (cs.map .c) us ∧ ∀ i u, us[i]? = some u → w.cell? ⟨b, o + i, none⟩ = some u
 | [], _, _ => ⟨[], by simp [RepACs], fun i u h => by simp at h⟩
 | c :: cs, o, h => by
  simp only [RdCells] at h
  obtain ⟨_, ⟨u, hu, hc⟩, h3⟩ := h
  obtain ⟨us, h4, h5⟩ := RdCells.cell cs (o + 1) h3
  refine ⟨u :: us, ⟨u, us, rfl, by simpa only [RepAC] using hc, h4⟩, fun i v hv => ?_⟩
  cases i with
  | zero => simp at hv; subst hv; exact hu
  | succ i => have := h5 i v (by simpa using hv); rwa [show o + 1 + i = o + (i + 1) by omega] at this
theorem RdCells.drop {b : Nat} : ∀ (n : Nat) (cs : List C) (o : Nat), RdCells w F b o cs → RdCells w F b (o + n) (cs.drop n) ∨ cs.length < n
 | 0, cs, o, h => .inl (by simpa using h)
 | n + 1, [], o, h => .inr (by simp)
 | n + 1, c :: cs, o, h => by
  simp only [RdCells] at h
  rcases RdCells.drop n cs (o + 1) h.2.2 with k | k
  ·exact .inl (by rw [show o + (n + 1) = o + 1 + n by omega]; simpa using k)
  ·exact .inr (by simp; omega)
theorem RdRows.get {b sz : Nat} : ∀ (rows : List (List C)) (o i : Nat), RdRows w F b sz o rows → i < rows.length → RdCells w F b (o + i * sz) (rows.getD i []) ∧ (rows.getD i []).length = sz
 | [], _, _, _, hi => by simp at hi
 | r :: rs, o, i, h, hi => by
  simp only [RdRows] at h
  cases i with
  | zero => simpa using ⟨h.2.1, h.1⟩
  | succ i =>
   have := RdRows.get rs (o + sz) i h.2.2 (by simpa using hi)
   rw [Nat.add_mul, Nat.one_mul, show o + (i * sz + sz) = o + sz + i * sz by omega]
   simpa using this
theorem wA0 (b o n : Nat) : (⟨b, o, none⟩ : Addr).add n = ⟨b, o + n, none⟩ := by unfold Addr.add; split <;> simp_all
theorem ml0 {t : TypeId} {ti : TI} {info : TypeInfo} {z : Value} {d : TypeDesc} (ok : TI.Ok P t ti info z d) (b o : Nat) (us : List Value) (hl : us.length = ti.size) (hc : ∀ i u, us[i]? = some u → w.cell? ⟨b, o + i, none⟩ = some u) :
  (ti.d.agg = true → (loadVar t ⟨b, o, none⟩).run P w = .ok (.agg us.toArray) w) ∧ (ti.d.agg = false → ∀ u, us = [u] → (loadVar t ⟨b, o, none⟩).run P w = .ok u w) := by
 have hd := ok.desc
 have hu := run_underlying ok.und w
 have hlc := run_loadCells_list (P := P) w ⟨b, o, none⟩ us (fun j v hv => by rw [wA0]; exact hc j v hv)
 constructor
 ·intro hagg
  have : (isAgg t).run P w = .ok true w := by
   unfold isAgg
   rw [Sem.run_bind, hu]
   cases htd : ti.d <;> rw [htd] at hagg hd <;> simp [TyD.agg] at hagg
   cases d <;> simp [zX0] at hd
   rfl
  simp [loadVar, this, sizeOf, typeInfo, ok.inf, ok.size, ← hl, hlc]
 ·intro hagg u hus
  have : (isAgg t).run P w = .ok false w := by
   unfold isAgg
   rw [Sem.run_bind, hu]
   cases htd : ti.d <;> rw [htd] at hagg hd <;> simp [TyD.agg] at hagg
   all_goals (cases d <;> simp [zX0] at hd <;> rfl)
  have h0 := hc 0 u (by simp [hus])
  simp only [Nat.add_zero] at h0
  simp [loadVar, this, h0]
theorem sI0 {F : Fz} {lb : Lk} {g : Gh} {w : World} {v : Value} {a : AC} (h : yO0 v = some a) : RepAC w F lb g a v := by
 cases v <;> simp only [yO0, Option.some.injEq, reduceCtorEq] at h
 case slice A n c =>
  cases A with
  | some A => simp [yO0] at h
  | none => cases n with
   | succ n => simp [yO0] at h
   | zero => cases c with
    | succ c => simp [yO0] at h
    | zero => simp [yO0] at h; subst h; simp [RepAC]
 all_goals (subst h; simp only [RepAC, Rd, okv, and_self])
theorem pF0 {F : Fz} {lb : Lk} {g : Gh} {w : World} : ∀ {vs : List Value} {as : List AC}, wp0 vs = some as → RepACs w F lb g as vs
 | [], as, h => by simp only [wp0, Option.some.injEq] at h; subst h; rfl
 | v :: vs, as, h => by
  simp only [wp0] at h
  split at h
  ·rename_i a as' h1 h2
   simp only [Option.some.injEq] at h
   subst h
   exact ⟨v, vs, rfl, sI0 h1, pF0 h2⟩
  ·cases h
theorem zm0 (h : Sim w0 M0 F0 F g s a w) (x : Operand) : RepAV w F s.lb g (opv s x) (a.eval x) := by
 cases x with
 | tmp t => exact h.sl t
 | const v =>
  simp only [opv, Act.eval]
  cases v <;> simp only [vM0, RepAV, RepAC, Rd, okv, and_self]
  case slice A n c =>
   cases A with
   | none => cases n with
    | zero => cases c <;> simp [RepAV, RepAC]
    | succ n => simp [RepAV]
   | some A => simp [RepAV]
  case agg xs =>
   cases hc : wp0 xs.toList with
   | none => simp [zM1, RepAV]
   | some as => exact ⟨xs.toList, by simp, pF0 hc⟩
 | global gg => simp [opv, RepAV]
 | func f => simp [opv, RepAV, RepAC, Act.eval, Rd, okv]
theorem RepAV.cs {v : AV} {u : Value} {xs : List AC} (h : RepAV w F lb g v u) (hx : v.cs = some xs) : RepACs w F lb g xs u.cells.toList := by
 cases v <;> simp only [AV.cs] at hx
 case one x =>
  obtain rfl := Option.some.inj hx
  simp only [RepAV] at h
  have h1 := h.one
  refine ⟨u, [], ?_, h, by simp [RepACs]⟩
  cases u <;> simp_all [Value.cells, Value.oneCell']
 case agg as =>
  obtain rfl := Option.some.inj hx
  simp only [RepAV] at h
  obtain ⟨us, rfl, h2⟩ := h
  simpa [Value.cells] using h2
 all_goals cases hx
theorem vV0 {t : TypeId} {ti : TI} {info : TypeInfo} {z : Value} {d : TypeDesc} (ok : TI.Ok P t ti info z d) (b o : Nat) (as : List AC) (us : List Value) (hr : RepACs w F lb g as us) (hl : as.length = ti.size)
  (hc : ∀ i u, us[i]? = some u → w.cell? ⟨b, o + i, none⟩ = some u) {v : AV} (hv : qJ1 ti.d.agg as = some v) : ∃ u, (loadVar t ⟨b, o, none⟩).run P w = .ok u w ∧ RepAV w F lb g v u := by
 have hlen := RepACs.len _ _ hr
 obtain ⟨h1, h2⟩ := ml0 (P := P) ok b o us (by omega) hc
 unfold qJ1 at hv
 cases hagg : ti.d.agg with
 | true =>
  simp only [hagg, if_true] at hv
  obtain rfl := Option.some.inj hv
  exact ⟨_, h1 hagg, us, rfl, hr⟩
 | false =>
  simp only [hagg] at hv
  match as, hv, hr with
  | [x], hv, hr =>
   simp at hv
   subst hv
   simp only [RepACs] at hr
   obtain ⟨u, us', rfl, h3, rfl⟩ := hr
   exact ⟨u, h2 hagg u rfl, by simpa only [RepAV] using h3⟩
theorem ky1 {x : AC} {u : Value} {S : List Nat} (h : RepCell w F lb g x u S) : RepAC w F lb g (unD x) u := by
 cases x
 case d x => simpa only [unD, RepAC] using h.2
 case m x => simpa only [unD, RepAC] using Own.one h
 all_goals exact h.1
theorem RepCells.unD : ∀ {as : List AC} {us : List Value} {S : List Nat}, RepCells w F lb g as us S → RepACs w F lb g (as.map unD) us
 | [], _, _, h => by simp only [RepCells] at h; simp [RepACs, h]
 | x :: as, us, S, h => by
  simp only [RepCells] at h
  obtain ⟨u, us', S1, S2, rfl, rfl, h3, h4⟩ := h
  exact ⟨u, us', rfl, ky1 h3, RepCells.unD h4⟩
theorem jx0 {α : Type} {sz : Nat} : ∀ (rows : List (List α)) (i : Nat), (∀ r, r ∈ rows → r.length = sz) → i < rows.length → (rows.flatten.drop (i * sz)).take sz = rows.getD i [] ∧ (rows.getD i []).length = sz ∧ i * sz + sz ≤ rows.flatten.length
 | [], _, _, hi => by simp at hi
 | r :: rs, i, h, hi => by
  have hr := h r (by simp)
  cases i with
  | zero => simp [← hr]
  | succ i =>
   obtain ⟨h1, h2, h3⟩ := jx0 rs i (fun q hq => h q (by simp [hq])) (by simpa using hi)
   refine ⟨?_, by simpa using h2, by rw [List.flatten_cons, List.length_append, hr, Nat.add_mul]; omega⟩
   rw [List.flatten_cons, List.drop_append, Nat.add_mul, Nat.one_mul, hr]
   rw [List.drop_eq_nil_of_le (by omega), List.nil_append, Nat.add_sub_cancel]
   simpa using h1
theorem RepCells.get {as : List AC} {us : List Value} {S : List Nat} (h : RepCells w F lb g as us S) : as.length = us.length := RepCells.len _ _ _ h
theorem pS0 (hT : zU0 P tab) (h : Sim w0 M0 F0 F g s a w) {t : TypeId} {p : AV} {u : Value} (hu : RepAV w F s.lb g p u) {pr : Prop} {v : AV} (ho : cA0 tab s.lb t p = some (pr, v)) (hp : pr) :
  ∃ x, (Instr.loadAt t u).run P w = .ok x w ∧ RepAV w F s.lb g v x := by
 unfold cA0 at ho
 split at ho
 ·rename_i ti l off ht
  obtain ⟨info, z, d, ok⟩ := hT t ti ht
  split at ho
  ·rename_i cells hl
   split at ho
   ·rename_i hfit
    simp only [RepAV, RepAC] at hu
    obtain ⟨_, B, hB, hq⟩ := hu
    rw [hl] at hB
    obtain rfl := Option.some.inj hB
    simp only [za0] at hq
    subst hq
    obtain ⟨cs, e, hh, hr, _⟩ := h.lb l _ hl
    cases hm : qJ1 ti.d.agg ((cells.drop off).take ti.size) with
    | none => rw [hm] at ho; cases ho
    | some v' =>
     rw [hm] at ho
     simp at ho
     obtain ⟨_, rfl⟩ := ho
     obtain ⟨x, hx, hv⟩ := vV0 ok (g.bl l) off _ _ ((hr.drop off).take ti.size) (by simp; omega) (fun i y hy => by
      rw [List.getElem?_take] at hy
      split at hy
      ·rw [List.getElem?_drop] at hy
       rw [cell_of_row w (g.bl l) (off + i) cs.toArray e (0, 0) hh]
       simpa using hy
      ·cases hy) hm
     exact ⟨x, by simpa [Instr.loadAt, Instr.sureAddr] using hx, hv⟩
   ·cases ho
  ·cases ho
 ·rename_i ti l n i off ht
  obtain ⟨info, z, d, ok⟩ := hT t ti ht
  split at ho
  ·rename_i e sz rows fz hl
   split at ho
   ·rename_i hfit
    obtain ⟨hn, hfit⟩ := hfit
    simp only [RepAV, RepAC] at hu
    obtain ⟨_, B, hB, hq⟩ := hu
    rw [hl] at hB
    obtain rfl := Option.some.inj hB
    simp only [zx0] at hq
    obtain ⟨hi, b, cap, hhd, rfl⟩ := hq.2 hn
    obtain ⟨hsz, hrl, xs, S, hown, hcells, hds⟩ := h.lb l _ hl
    obtain ⟨hf1, hf2, hf3⟩ := jx0 rows i hrl (by omega)
    have hun := RepCells.unD hcells
    have hrow : RepACs w F s.lb g ((((rows.getD i []).drop off).take ti.size).map unD) ((xs.drop (i * sz + off)).take ti.size) := by
     have := (((hun.drop (i * sz)).take sz).drop off).take ti.size
     rw [← List.map_drop, ← List.map_take, ← List.map_drop, ← List.map_take, hf1] at this
     rw [List.drop_take, List.take_take, List.drop_drop, Nat.min_eq_left (by omega)] at this
     exact this
    have hcellx : ∀ j y, ((xs.drop (i * sz + off)).take ti.size)[j]? = some y → w.cell? ⟨b, i * sz + off + j, none⟩ = some y := by
     intro j y hy
     rw [List.getElem?_take] at hy
     split at hy
     ·rw [List.getElem?_drop] at hy
      have := hown.cells (g := b) (by rw [hhd]; rfl) (i * sz + off + j) y hy
      rw [wA0, Nat.zero_add] at this
      exact this
     ·cases hy
    have hlen : ((((rows.getD i []).drop off).take ti.size).map unD).length = ti.size := by simp only [List.length_map, List.length_take, List.length_drop, hf2]; omega
    have fin : ∀ v, qJ1 ti.d.agg ((((rows.getD i []).drop off).take ti.size).map unD) = some v → ∃ x, (Instr.loadAt t (.pointer (some ⟨b, i * sz + off, none⟩))).run P w = .ok x w ∧ RepAV w F s.lb g v x := by
     intro v hv
     obtain ⟨x, hx, hv⟩ := vV0 ok b (i * sz + off) _ _ hrow hlen hcellx hv
     exact ⟨x, by simpa [Instr.loadAt, Instr.sureAddr] using hx, hv⟩
    split at ho
    ·rename_i hagg
     obtain ⟨rfl, rfl⟩ := Prod.mk.inj (Option.some.inj ho)
     exact fin _ (by simp [qJ1, hagg])
    ·rename_i hagg
     split at ho
     ·rename_i h1
      obtain ⟨rfl, rfl⟩ := Prod.mk.inj (Option.some.inj ho)
      refine fin _ ?_
      have hofflt : off < (rows.getD i []).length := by rw [hf2]; omega
      rw [h1]
      have : ((rows.getD i []).drop off).take 1 = [(rows.getD i []).getD off .any] := by
       rw [List.drop_eq_getElem_cons hofflt, List.take_succ_cons, List.take_zero, List.getD_eq_getElem?_getD (l := rows.getD i []), List.getElem?_eq_getElem hofflt]
       rfl
      rw [this]
      simp [qJ1, hagg]
     ·cases ho
   ·cases ho
  ·cases ho
 ·rename_i ti cs ht
  obtain ⟨info, z, d, ok⟩ := hT t ti ht
  simp only [RepAV, RepAC] at hu
  obtain ⟨b, o, rfl, hc⟩ := hu
  obtain ⟨us, h1, h2⟩ := RdCells.cell (lb := s.lb) (g := g) cs o hc
  have fin : ti.size ≤ cs.length → ∀ v, qJ1 ti.d.agg ((cs.take ti.size).map .c) = some v → ∃ x, (Instr.loadAt t (.pointer (some ⟨b, o, none⟩))).run P w = .ok x w ∧ RepAV w F s.lb g v x := by
   intro hle v hv
   obtain ⟨x, hx, hv⟩ := vV0 ok b o ((cs.take ti.size).map .c) (us.take ti.size) (by rw [List.map_take]; exact h1.take _) (by simp; omega) (fun i y hy => by
    rw [List.getElem?_take] at hy
    split at hy
    ·exact h2 i y hy
    ·cases hy) hv
   exact ⟨x, by simpa [Instr.loadAt, Instr.sureAddr] using hx, hv⟩
  split at ho
  ·rename_i hagg
   obtain ⟨rfl, rfl⟩ := Prod.mk.inj (Option.some.inj ho)
   exact fin hp _ (by simp [qJ1, hagg])
  ·rename_i hagg
   split at ho
   ·rename_i hs1
    obtain ⟨rfl, rfl⟩ := Prod.mk.inj (Option.some.inj ho)
    refine fin (by omega) _ ?_
    rw [hs1]
    cases cs with
    | nil => simp at hp
    | cons c cs => simp [qJ1, hagg]
   ·cases ho
 ·cases ho
end Go.Ai
namespace Go.Ai
open Go.RowKit
variable {P : Program} {tab : Tab} {w0 : World} {M0 : Ms} {F0 F : Fz} {g : Gh} {s : St} {a : Act} {w : World} {lb : Lk}
theorem RepAV.c_v {x : Value} {u : Value} (h : RepAV w F lb g (.one (.c (.v x))) u) : u = x := by
 simp only [RepAV, RepAC, Rd] at h; exact h.1
theorem qu0 {x : Value} (h : fv1 x = true) : RepAV w F lb g (.one (.c (.v x))) x := by
 simp only [RepAV, RepAC, Rd]; exact ⟨trivial, kT1 h⟩
theorem dA0 {op : BinOp} {k : IntKind} {x y : Int} {t : TypeId} {pr : Prop} {v : AV} (ho : nL0 op k x y = some (pr, v)) (hp : pr) :
  ∃ u, (binOp op t (.int k x) (.int k y)).run P w = .ok u w ∧ RepAV w F lb g v u := by
 cases op <;> simp only [nL0] at ho <;> try (cases ho; done)
 all_goals
  obtain ⟨rfl, rfl⟩ := Prod.mk.inj (Option.some.inj ho)
  refine ⟨_, ?_, qu0 (by rfl)⟩
 all_goals first
  | (simp [binOp, Op.intArith, Op.intCmp]; done)
  | (simp [binOp, Op.intDiv, hp]; done)
  | (simp [binOp, Op.intBits]; done)
theorem dB0 {op : BinOp} {k k' : IntKind} {x y : Int} {t : TypeId} {pr : Prop} {v : AV} (ho : nM0 op k x y = some (pr, v)) (hp : pr) :
  ∃ u, (binOp op t (.int k x) (.int k' y)).run P w = .ok u w ∧ RepAV w F lb g v u := by
 cases op <;> simp only [nM0] at ho <;> try (cases ho; done)
 obtain ⟨rfl, rfl⟩ := Prod.mk.inj (Option.some.inj ho)
 refine ⟨_, ?_, qu0 (by rfl)⟩
 have : ¬ y < 0 := by omega
 simp [binOp, Op.shift, this]
theorem dC0 {op : BinOp} {x y : ByteArray} {t : TypeId} {pr : Prop} {v : AV} (ho : nN0 op x y = some (pr, v)) (hp : pr) :
  ∃ u, (binOp op t (.string x) (.string y)).run P w = .ok u w ∧ RepAV w F lb g v u := by
 cases op <;> simp only [nN0] at ho <;> try (cases ho; done)
 all_goals
  obtain ⟨rfl, rfl⟩ := Prod.mk.inj (Option.some.inj ho)
  refine ⟨_, ?_, qu0 (by rfl)⟩
 case add =>
  have : ¬ (IntKind.i64.max < ((x.size + y.size : Nat) : Int)) := by
   have e : IntKind.i64.max = 9223372036854775807 := by decide
   omega
  simp only [binOp, Op.stringOp]
  rw [if_neg (by simpa using this)]
  rfl
 all_goals simp [binOp, Op.stringOp]
theorem tL0 {t : TypeId} (ht : P.underlying t = some .bool) (a b : Bool) (d : Nat) : (Op.equalIn (d + 1) t (.bool a) (.bool b)).run P w = .ok (a == b) w := by
 unfold Op.equalIn
 rw [Sem.run_bind, run_underlying ht]
 rfl
theorem pm0 {t : TypeId} (ht : P.underlying t = some .bool) (a b : Bool) (xo yo : Operand) :
  (do eqGuard .eql t xo yo (.bool a) (.bool b); binOp .eql t (.bool a) (.bool b) : Sem Value).run P w = .ok (.bool (a == b)) w ∧
  (do eqGuard .neq t xo yo (.bool a) (.bool b); binOp .neq t (.bool a) (.bool b) : Sem Value).run P w = .ok (.bool (!(a == b))) w := by
 have h := tL0 (P := P) (w := w) ht a b 9999
 have g1 : (eqGuard .eql t xo yo (.bool a) (.bool b)).run P w = .ok () w := by unfold eqGuard; simp
 have g2 : (eqGuard .neq t xo yo (.bool a) (.bool b)).run P w = .ok () w := by unfold eqGuard; simp
 constructor
 ·rw [Sem.run_bind, g1]
  show (binOp .eql t (.bool a) (.bool b)).run P w = _
  unfold binOp
  show (Op.equalIn (9999 + 1) t (.bool a) (.bool b) >>= fun r => pure (Value.bool r)).run P w = _
  rw [Sem.run_bind, h]; rfl
 ·rw [Sem.run_bind, g2]
  show (binOp .neq t (.bool a) (.bool b)).run P w = _
  unfold binOp
  show (Op.equalIn (9999 + 1) t (.bool a) (.bool b) >>= fun r => pure (Value.bool (!r))).run P w = _
  rw [Sem.run_bind, h]; rfl
theorem gI0 {t : TypeId} {c : CK} (hc : jZ1 P t c) {xs : Array Value} {o : Nat} {u : Value} (hu : xs[o]? = some u) : (part t xs o).run P w = .ok u w := by
 have hlt := (Array.getElem?_eq_some_iff.1 hu).1
 have hv := (Array.getElem?_eq_some_iff.1 hu).2
 cases c <;> simp only [jZ1] at hc <;> simp [part, isAgg, run_underlying hc, hu]
theorem yA0 {d : Nat} {xs ys : Array Value} {as bs : List AC} (ha : RepACs w F lb g as xs.toList) (hb : RepACs w F lb g bs ys.toList) : ∀ (fs : List Field) (l : List (Nat × CK)) (r : Bool), wd1 P fs l → wv1 as bs l = some r →
  (Op.eqFields (d + 1) xs ys fs).run P w = .ok r w
 | [], [], r, _, h => by
  obtain rfl := Option.some.inj h
  simp [Op.eqFields]
 | [], _ :: _, _, h, _ => h.elim
 | _ :: _, [], _, h, _ => h.elim
 | f :: fs, (o, c) :: l, r, h, hr => by
  obtain ⟨h1, rfl, h3, h4⟩ := h
  obtain ⟨ka, ka'⟩ := (RepACs.iff _ _).1 ha
  obtain ⟨kb, kb'⟩ := (RepACs.iff _ _).1 hb
  have at_ : ∀ (zs : List AC) (vs : Array Value), zs.length = vs.toList.length → (∀ (i : Nat) x u, zs[i]? = some x → vs.toList[i]? = some u → RepAC w F lb g x u) → ∀ v, zs[f.offset]? = some (.c (.v v)) → vs[f.offset]? = some v := by
   intro zs vs hl hz v hv
   have hlt := (List.getElem?_eq_some_iff.1 hv).1
   have hlt' : f.offset < vs.toList.length := by omega
   have := hz f.offset _ _ hv (List.getElem?_eq_getElem hlt')
   simp only [RepAC, Rd] at this
   rw [← this.1]
   simp at hlt'
   simp [hlt']
  have key : ∀ (u v : Value) (e s : Bool), xs[f.offset]? = some u → ys[f.offset]? = some v → (Op.equalIn (d + 1) f.type u v).run P w = .ok e w → (Op.eqFields (d + 1) xs ys fs).run P w = .ok s w → (Op.eqFields (d + 1) xs ys (f :: fs)).run P w = .ok (e && s) w := by
   intro u v e s hu hv he hs
   rw [Op.eqFields]
   simp only [if_pos h1, Sem.run_bind, gI0 h3 hu, gI0 h3 hv, he, Result.andThen_ok]
   cases e
   ·simp
   ·simpa using hs
  simp only [wv1] at hr
  split at hr
  ·rename_i k a k' b s hk2 hk3 hk4
   split at hr
   ·rename_i hkk
    subst hkk
    obtain rfl := Option.some.inj hr
    refine key _ _ _ _ (at_ as xs ka ka' _ hk2) (at_ bs ys kb kb' _ hk3) ?_ (yA0 ha hb fs l s h4 hk4)
    simp only [jZ1] at h3
    unfold Op.equalIn
    rw [Sem.run_bind, run_underlying h3]
    simp
   ·cases hr
  ·rename_i a b s hk2 hk3 hk4
   obtain rfl := Option.some.inj hr
   refine key _ _ _ _ (at_ as xs ka ka' _ hk2) (at_ bs ys kb kb' _ hk3) ?_ (yA0 ha hb fs l s h4 hk4)
   simp only [jZ1] at h3
   unfold Op.equalIn
   rw [Sem.run_bind, run_underlying h3]
   rfl
  ·rename_i a b s hk2 hk3 hk4
   obtain rfl := Option.some.inj hr
   refine key _ _ _ _ (at_ as xs ka ka' _ hk2) (at_ bs ys kb kb' _ hk3) ?_ (yA0 ha hb fs l s h4 hk4)
   simp only [jZ1] at h3
   unfold Op.equalIn
   rw [Sem.run_bind, run_underlying h3]
   rfl
  ·cases hr
theorem vx0 {t : TypeId} {l : List (Nat × CK)} (hc : ja1 P t l) {xs ys : Array Value} {as bs : List AC} (ha : RepACs w F lb g as xs.toList) (hb : RepACs w F lb g bs ys.toList) {r : Bool} (hr : wv1 as bs l = some r) (xo yo : Operand) :
  (do eqGuard .eql t xo yo (.agg xs) (.agg ys); binOp .eql t (.agg xs) (.agg ys) : Sem Value).run P w = .ok (.bool r) w ∧
  (do eqGuard .neq t xo yo (.agg xs) (.agg ys); binOp .neq t (.agg xs) (.agg ys) : Sem Value).run P w = .ok (.bool (!r)) w := by
 obtain ⟨h1, h2, fields, h3, h4⟩ := hc
 have hf : P.fieldsOf t = fields := by simp [Program.fieldsOf, h3]
 have he : (Op.equalIn (9999 + 1) t (.agg xs) (.agg ys)).run P w = .ok r w := by
  rw [run_equalIn_struct (P := P) w 9999 t xs ys (by rw [hf]; exact h3) h1, hf]
  exact yA0 (d := 9998) ha hb fields.toList l r h4 hr
 have g1 : (eqGuard .eql t xo yo (.agg xs) (.agg ys)).run P w = .ok () w := by unfold eqGuard; simp [h2]
 have g2 : (eqGuard .neq t xo yo (.agg xs) (.agg ys)).run P w = .ok () w := by unfold eqGuard; simp [h2]
 constructor
 ·rw [Sem.run_bind, g1]
  show (Op.equalIn (9999 + 1) t (.agg xs) (.agg ys) >>= fun r => pure (Value.bool r)).run P w = _
  rw [Sem.run_bind, he]; rfl
 ·rw [Sem.run_bind, g2]
  show (Op.equalIn (9999 + 1) t (.agg xs) (.agg ys) >>= fun r => pure (Value.bool (!r))).run P w = _
  rw [Sem.run_bind, he]; rfl
theorem rp0 (hT : zU0 P tab) {op : BinOp} {t : TypeId} {x y : AV} {xo yo : Operand} {u1 u2 : Value} (h1 : RepAV w F lb g x u1) (h2 : RepAV w F lb g y u2) {pr : Prop} {v : AV} (ho : vX1 tab op t x y = some (pr, v)) (hp : pr) :
  ∃ u, (do eqGuard op t xo yo u1 u2; binOp op t u1 u2 : Sem Value).run P w = .ok u w ∧ RepAV w F lb g v u := by
 unfold vX1 at ho
 split at ho
 ·rename_i k1 n1 k2 n2
  obtain rfl := h1.c_v
  obtain rfl := h2.c_v
  split at ho
  ·rename_i hk
   subst hk
   obtain ⟨u, hu, hv⟩ := dA0 (P := P) (w := w) (F := F) (lb := lb) (g := g) (t := t) ho hp
   refine ⟨u, ?_, hv⟩
   have : (eqGuard op t xo yo (.int k1 n1) (.int k1 n2)).run P w = .ok () w := by
    unfold eqGuard; cases op <;> simp
   rw [Sem.run_bind, this]; exact hu
  ·obtain ⟨u, hu, hv⟩ := dB0 (P := P) (w := w) (F := F) (lb := lb) (g := g) (t := t) (k' := k2) ho hp
   refine ⟨u, ?_, hv⟩
   have : (eqGuard op t xo yo (.int k1 n1) (.int k2 n2)).run P w = .ok () w := by
    unfold eqGuard; cases op <;> simp
   rw [Sem.run_bind, this]; exact hu
 ·rename_i n1 n2
  obtain rfl := h1.c_v
  obtain rfl := h2.c_v
  obtain ⟨u, hu, hv⟩ := dC0 (P := P) (w := w) (F := F) (lb := lb) (g := g) (t := t) ho hp
  refine ⟨u, ?_, hv⟩
  have : (eqGuard op t xo yo (.string n1) (.string n2)).run P w = .ok () w := by
   unfold eqGuard; cases op <;> simp
  rw [Sem.run_bind, this]; exact hu
 ·rename_i b1 b2
  obtain rfl := h1.c_v
  obtain rfl := h2.c_v
  split at ho
  ·rename_i ht
   obtain ⟨info, z, d, ok⟩ := hT _ _ ht
   obtain ⟨rfl, rfl⟩ := Prod.mk.inj (Option.some.inj ho)
   have hd := ok.desc
   cases d <;> simp [zX0] at hd
   exact ⟨_, (pm0 ok.und b1 b2 xo yo).1, qu0 rfl⟩
  ·rename_i ht
   obtain ⟨info, z, d, ok⟩ := hT _ _ ht
   obtain ⟨rfl, rfl⟩ := Prod.mk.inj (Option.some.inj ho)
   have hd := ok.desc
   cases d <;> simp [zX0] at hd
   exact ⟨_, (pm0 ok.und b1 b2 xo yo).2, qu0 rfl⟩
  ·cases ho
 ·rename_i as bs
  simp only [RepAV] at h1 h2
  obtain ⟨us, rfl, h1⟩ := h1
  obtain ⟨vs, rfl, h2⟩ := h2
  split at ho
  ·rename_i fs l _ _ _ ht
   obtain ⟨info, z, d, ok⟩ := hT _ _ ht
   cases hr : wv1 as bs l with
   | none => rw [hr] at ho; cases ho
   | some r =>
    rw [hr] at ho
    obtain ⟨rfl, rfl⟩ := Prod.mk.inj (Option.some.inj ho)
    exact ⟨_, (vx0 (ok.cmp _ _ rfl) (xs := us.toArray) (ys := vs.toArray) h1 h2 hr xo yo).1, qu0 rfl⟩
  ·rename_i fs l _ _ _ ht
   obtain ⟨info, z, d, ok⟩ := hT _ _ ht
   cases hr : wv1 as bs l with
   | none => rw [hr] at ho; cases ho
   | some r =>
    rw [hr] at ho
    obtain ⟨rfl, rfl⟩ := Prod.mk.inj (Option.some.inj ho)
    exact ⟨_, (vx0 (ok.cmp _ _ rfl) (xs := us.toArray) (ys := vs.toArray) h1 h2 hr xo yo).2, qu0 rfl⟩
  ·cases ho
 ·rename_i x
  simp only [RepAV, RepAC] at h2
  subst h2
  have key : ∀ {ti : TI} {e : TypeId} {b : Bool}, tab t = some ti → ti.d = .slice e → kN1 x = some b → ∃ A n c, u1 = .slice A n c ∧ A.isNone = b ∧ (Op.equalIn (9999 + 1) t (.slice A n c) (.slice none 0 0)).run P w = .ok b w := by
   intro ti e b ht hd hb
   obtain ⟨info, z, d, ok⟩ := hT _ _ ht
   have hd' := ok.desc
   rw [hd] at hd'
   cases d <;> simp [zX0] at hd'
   have hh : ∃ A n c, u1 = .slice A n c ∧ A.isNone = b := by
    simp only [RepAV] at h1
    cases x <;> simp only [kN1] at hb
    case nil =>
     obtain rfl := Option.some.inj hb
     simp only [RepAC] at h1
     exact ⟨none, 0, 0, h1, rfl⟩
    case e1 =>
     obtain rfl := Option.some.inj hb
     simp only [RepAC] at h1
     obtain ⟨q, cap, h1, _⟩ := h1
     exact ⟨some q, 0, cap, h1, rfl⟩
    case c y =>
     cases y with
     | v y => cases hb
     | sl rows =>
      cases rows with
      | nil => cases hb
      | cons r rs =>
       obtain rfl := Option.some.inj hb
       simp only [RepAC, Rd] at h1
       obtain ⟨A, cap, sz, h1, h2, _, _, h5, _⟩ := h1
       refine ⟨A, _, _, h1, ?_⟩
       cases A with
       | none => have := h5 rfl; simp at h2; omega
       | some A => rfl
    all_goals cases hb
   obtain ⟨A, n, c, rfl, rfl⟩ := hh
   refine ⟨A, n, c, rfl, rfl, ?_⟩
   unfold Op.equalIn
   rw [Sem.run_bind, run_underlying ok.und]
   cases A <;> simp
  have grd : ∀ (A : Option Addr) (n c : Nat) (p : BinOp), (eqGuard p t xo yo (.slice A n c) (.slice none 0 0)).run P w = .ok () w := by
   intro A n c p
   unfold eqGuard; cases p <;> simp
  split at ho
  ·rename_i ht
   cases hb : kN1 x with
   | none => rw [hb] at ho; cases ho
   | some b =>
    rw [hb] at ho
    obtain ⟨rfl, rfl⟩ := Prod.mk.inj (Option.some.inj ho)
    obtain ⟨A, n, c, rfl, _, he⟩ := key ht rfl hb
    refine ⟨.bool b, ?_, qu0 rfl⟩
    rw [Sem.run_bind, grd]
    show (Op.equalIn (9999 + 1) t _ _ >>= fun r => pure (Value.bool r)).run P w = _
    rw [Sem.run_bind, he]; rfl
  ·rename_i ht
   cases hb : kN1 x with
   | none => rw [hb] at ho; cases ho
   | some b =>
    rw [hb] at ho
    obtain ⟨rfl, rfl⟩ := Prod.mk.inj (Option.some.inj ho)
    obtain ⟨A, n, c, rfl, _, he⟩ := key ht rfl hb
    refine ⟨.bool (!b), ?_, qu0 rfl⟩
    rw [Sem.run_bind, grd]
    show (Op.equalIn (9999 + 1) t _ _ >>= fun r => pure (Value.bool (!r))).run P w = _
    rw [Sem.run_bind, he]; rfl
  ·cases ho
 ·cases ho
theorem sY0 (hT : zU0 P tab) (h : Sim w0 M0 F0 F g s a w) {t ty : TypeId} {x : AV} {u : Value} (hu : RepAV w F s.lb g x u) {pr : Prop} {v : AV} (ho : kJ1 s.lb (tab t) x = some (pr, v)) :
  ∃ y, (Builtin.len_ #[t] ty #[u]).run P w = .ok y w ∧ RepAV w F s.lb g v y := by
 unfold kJ1 at ho
 have sl : ∀ {e : TypeId} {a b : Nat} {c : List AC}, tab t = some ⟨.slice e, a, b, c⟩ → ∀ A n cap, (Builtin.len_ #[t] ty #[.slice A n cap]).run P w = .ok (.int .i64 n) w := by
  intro e a b c ht A n cap
  obtain ⟨info, z, d, ok⟩ := hT _ _ ht
  have hd := ok.desc
  cases d <;> simp [zX0] at hd
  simp [Builtin.len_, run_underlying ok.und, goInt]
 split at ho
 ·rename_i ht
  obtain ⟨rfl, rfl⟩ := Prod.mk.inj (Option.some.inj ho)
  simp only [RepAV, RepAC, Rd] at hu
  obtain ⟨A, cap, sz, rfl, _⟩ := hu
  exact ⟨_, sl ht _ _ _, qu0 rfl⟩
 ·rename_i ht
  obtain ⟨rfl, rfl⟩ := Prod.mk.inj (Option.some.inj ho)
  simp only [RepAV, RepAC] at hu
  subst hu
  exact ⟨_, sl ht _ _ _, qu0 rfl⟩
 ·rename_i ht
  obtain ⟨rfl, rfl⟩ := Prod.mk.inj (Option.some.inj ho)
  simp only [RepAV, RepAC] at hu
  obtain ⟨_, _, rfl, _⟩ := hu
  exact ⟨_, sl ht _ _ _, qu0 rfl⟩
 ·rename_i ht
  obtain ⟨rfl, rfl⟩ := Prod.mk.inj (Option.some.inj ho)
  simp only [RepAV, RepAC] at hu
  obtain ⟨_, rfl⟩ := hu
  exact ⟨_, sl ht _ _ _, qu0 rfl⟩
 ·rename_i l n ht
  split at ho
  ·rename_i e sz rows fz hl
   split at ho
   ·rename_i hn
    obtain ⟨rfl, rfl⟩ := Prod.mk.inj (Option.some.inj ho)
    simp only [RepAV, RepAC] at hu
    obtain ⟨_, B, hB, hq⟩ := hu
    rw [hl] at hB
    obtain rfl := Option.some.inj hB
    simp only [zK0] at hq
    rw [hq.2 hn]
    obtain ⟨_, _, xs, S, hown, _⟩ := h.lb l _ hl
    rcases hown.2 with ⟨h1, h2⟩ | ⟨gg, cap, cur, h1, _⟩
    ·rw [h1, hn, h2]; exact ⟨_, sl ht _ _ _, qu0 rfl⟩
    ·rw [h1, ← hn]; exact ⟨_, sl ht _ _ _, qu0 rfl⟩
   ·cases ho
  ·cases ho
 ·rename_i k i ht
  split at ho
  ·rename_i xs hl
   split at ho
   ·rename_i rows hx
    obtain ⟨rfl, rfl⟩ := Prod.mk.inj (Option.some.inj ho)
    simp only [RepAV, RepAC] at hu
    obtain ⟨_, B, hB, hq⟩ := hu
    rw [hl] at hB
    obtain rfl := Option.some.inj hB
    obtain ⟨us, hq1, hq2⟩ := hq
    obtain ⟨us', h1, h2⟩ := h.lb k _ hl
    rw [hq1] at h1
    obtain rfl : us = us' := by simpa using h1
    obtain ⟨u', _, _, _, h3, _, this, _⟩ := OwnTs.get _ _ _ _ _ h2 hx
    rw [hq2] at h3
    obtain rfl := Option.some.inj h3
    simp only [Own] at this
    rcases this with ⟨h1, h2, _⟩ | ⟨b, cap, cs, e, sz, S', h1, _⟩
    ·rw [h1, h2]; exact ⟨_, sl ht _ _ _, qu0 rfl⟩
    ·rw [h1]; exact ⟨_, sl ht _ _ _, qu0 rfl⟩
   ·cases ho
  ·cases ho
 ·rename_i str ht
  obtain ⟨rfl, rfl⟩ := Prod.mk.inj (Option.some.inj ho)
  obtain rfl := hu.c_v
  obtain ⟨info, z, d, ok⟩ := hT _ _ ht
  have hd := ok.desc
  cases d <;> simp [zX0] at hd
  exact ⟨.int .i64 str.size, by simp [Builtin.len_, run_underlying ok.und, goInt], qu0 rfl⟩
 ·cases ho
theorem se0 {ts : Array TypeId} {ty : TypeId} {x y : AV} {u1 u2 : Value} (h1 : RepAV w F lb g x u1) (h2 : RepAV w F lb g y u2) {pr : Prop} {v : AV} (ho : xb1 x y = some (pr, v)) :
  ∃ z, (Builtin.max_ ts ty #[u1, u2]).run P w = .ok z w ∧ RepAV w F lb g v z := by
 unfold xb1 at ho
 split at ho
 ·obtain rfl := h1.c_v
  obtain rfl := h2.c_v
  obtain ⟨rfl, rfl⟩ := Prod.mk.inj (Option.some.inj ho)
  exact ⟨_, by simp [Builtin.max_, Builtin.max2], qu0 rfl⟩
 ·cases ho
theorem dY0 (hT : zU0 P tab) {t : TypeId} {x : AV} {f : Nat} {u : Value} (hu : RepAV w F lb g x u) {pr : Prop} {v : AV} (ho : nb0 (tab t) x f = some (pr, v)) :
  ∃ y, (Instr.field t u f).run P w = .ok y w ∧ RepAV w F lb g v y := by
 unfold nb0 at ho
 split at ho
 ·rename_i fs _ _ _ ht
  obtain ⟨info, z, d, ok⟩ := hT _ _ ht
  have hd := ok.desc
  cases d <;> simp only [zX0, Bool.and_eq_true, beq_iff_eq, Bool.false_eq_true] at hd
  rename_i fields
  obtain ⟨hd1, hd2⟩ := hd
  split at ho
  ·rename_i off size hf
   rw [← hd1, List.getElem?_map] at hf
   cases hfx : fields.toList[f]? with
   | none => rw [hfx] at hf; cases hf
   | some fx =>
    rw [hfx] at hf
    simp at hf
    obtain ⟨rfl, rfl⟩ := hf
    have hfa : fields[f]? = some fx := by simpa using hfx
    have h2 := List.all_eq_true.1 hd2 fx (List.mem_of_getElem? hfx)
    simp only [Bool.and_eq_true, decide_eq_true_eq, Bool.or_eq_true, beq_iff_eq] at h2
    split at ho
    ·rename_i cs
     split at ho
     ·rename_i hc
      obtain ⟨rfl, rfl⟩ := Prod.mk.inj (Option.some.inj ho)
      have hag := h2.2.resolve_left hc.1
      have hsz : (sizeOf fx.type).run P w = .ok (P.cellsOf fx.type) w := by
       have hne := h2.1
       unfold Program.cellsOf at hne ⊢
       cases hi : P.info? fx.type with
       | none => simp [hi] at hne
       | some i => simp [sizeOf, typeInfo, hi]
      have hia : (isAgg fx.type).run P w = .ok true w := by
       unfold xy1 at hag
       split at hag
       ·rename_i fs2 hq
        simp [isAgg, run_underlying hq]
       ·rename_i n2 e2 hq
        simp [isAgg, run_underlying hq]
       ·cases hag
      simp only [RepAV] at hu
      obtain ⟨us, rfl, h⟩ := hu
      refine ⟨.agg (us.toArray.extract fx.offset (fx.offset + P.cellsOf fx.type)), ?_, ?_⟩
      ·simp [Instr.field, run_underlying ok.und, hfa, part, hia, hsz, asAgg]
      ·simp only [RepAV]
       refine ⟨(us.drop fx.offset).take (P.cellsOf fx.type), ?_, (h.drop fx.offset).take (P.cellsOf fx.type)⟩
       congr 1
       apply Array.toList_inj.1
       simp [List.extract]
     ·cases ho
    ·cases ho
  ·cases ho
 ·cases ho
theorem xT0 (hT : zU0 P tab) {t : TypeId} {p : AV} {f : Nat} {u : Value} (hu : RepAV w F lb g p u) {pr : Prop} {v : AV} (ho : qV0 lb (tab t) p f = some (pr, v)) (hp : pr) :
  ∃ x, (Instr.fieldAt t u f).run P w = .ok x w ∧ RepAV w F lb g v x := by
 unfold qV0 at ho
 split at ho
 ·rename_i fs _ _ _ ht
  obtain ⟨info, z, d, ok⟩ := hT _ _ ht
  have hd := ok.desc
  cases d <;> simp only [zX0, Bool.and_eq_true, beq_iff_eq, Bool.false_eq_true] at hd
  rename_i fields
  obtain ⟨hd1, hd2⟩ := hd
  split at ho
  ·rename_i fo fsz hf
   rw [← hd1, List.getElem?_map] at hf
   cases hfx : fields.toList[f]? with
   | none => rw [hfx] at hf; cases hf
   | some fx =>
    rw [hfx] at hf
    simp at hf
    obtain ⟨hfo, _⟩ := hf
    have hfa : fields[f]? = some fx := by simpa using hfx
    have hne : P.cellsOf fx.type ≠ 0 := by have := List.all_eq_true.1 hd2 fx (List.mem_of_getElem? hfx); simp only [Bool.and_eq_true, decide_eq_true_eq] at this; exact this.1
    have hsz : (sizeOf fx.type).run P w = .ok (P.cellsOf fx.type) w := by
     unfold Program.cellsOf at hne ⊢
     cases hi : P.info? fx.type with
     | none => simp [hi] at hne
     | some i => simp [sizeOf, typeInfo, hi]
    have run : ∀ b o, (Instr.fieldAt t (.pointer (some ⟨b, o, none⟩)) f).run P w = .ok (.pointer (some ⟨b, o + fo, none⟩)) w := by
     intro b o
     simp [Instr.fieldAt, run_underlying ok.und, hfa, Instr.sureAddr, fieldPlace, hsz, hne, wA0, hfo]
    split at ho
    ·rename_i l off
     split at ho
     ·rename_i cells hl
      obtain ⟨rfl, rfl⟩ := Prod.mk.inj (Option.some.inj ho)
      simp only [RepAV, RepAC] at hu ⊢
      obtain ⟨h1, B, hB, hq⟩ := hu
      rw [hl] at hB
      obtain rfl := Option.some.inj hB
      simp only [za0] at hq
      subst hq
      exact ⟨_, run _ _, rfl, _, hl, rfl⟩
     ·cases ho
    ·rename_i l n i off
     split at ho
     ·rename_i e sz rows fz hl
      split at ho
      ·rename_i hn
       obtain ⟨rfl, rfl⟩ := Prod.mk.inj (Option.some.inj ho)
       simp only [RepAV, RepAC] at hu ⊢
       obtain ⟨h1, B, hB, hq⟩ := hu
       rw [hl] at hB
       obtain rfl := Option.some.inj hB
       simp only [zx0] at hq
       obtain ⟨hi, b, cap, hhd, rfl⟩ := hq.2 hn
       exact ⟨_, run _ _, rfl, _, hl, by simp only [zx0]; exact ⟨hq.1, fun _ => ⟨hi, b, cap, hhd, by rw [Nat.add_assoc]⟩⟩⟩
      ·cases ho
     ·cases ho
    ·rename_i cs
     obtain ⟨rfl, rfl⟩ := Prod.mk.inj (Option.some.inj ho)
     simp only [RepAV, RepAC] at hu ⊢
     obtain ⟨b, o, rfl, hc⟩ := hu
     refine ⟨_, run _ _, b, o + fo, rfl, ?_⟩
     rcases RdCells.drop fo cs o hc with h | h
     ·exact h
     ·omega
    ·cases ho
  ·cases ho
 ·cases ho
theorem xa0 (hT : zU0 P tab) (h : Sim w0 M0 F0 F g s a w) {t : TypeId} {x i : AV} {u1 u2 : Value} (h1 : RepAV w F s.lb g x u1) (h2 : RepAV w F s.lb g i u2) {pr : Prop} {v : AV} (ho : qX0 tab s.lb t x i = some (pr, v)) (hp : pr) :
  ∃ y, (Instr.indexAt t u1 u2).run P w = .ok y w ∧ RepAV w F s.lb g v y := by
 unfold qX0 at ho
 split at ho
 ·rename_i e _ _ _ n ht
  obtain ⟨info, z, d, ok⟩ := hT _ _ ht
  have hd := ok.desc
  cases d <;> simp only [zX0, beq_iff_eq, Bool.false_eq_true] at hd
  subst hd
  obtain rfl := h2.c_v
  have run : ∀ {ti info z d} (_ : TI.Ok P e ti info z d) b o len cap, 0 ≤ n → n < (len : Nat) → (Instr.indexAt t (.slice (some ⟨b, o, none⟩) len cap) (.int .i64 n)).run P w = .ok (.pointer (some ⟨b, o + n.toNat * ti.size, none⟩)) w := by
   intro ti info z d oke b o len cap h0 hlt
   simp [Instr.indexAt, asIntOf, run_underlying ok.und, h0, hlt, sizeOf, typeInfo, oke.inf, wA0, oke.size]
  split at ho
  ·rename_i ti rows hte
   obtain ⟨info2, z2, d2, ok2⟩ := hT _ _ hte
   obtain ⟨rfl, rfl⟩ := Prod.mk.inj (Option.some.inj ho)
   obtain ⟨hp1, hp2, hp3⟩ := hp
   simp only [RepAV, RepAC, Rd] at h1
   obtain ⟨A, cap, sz, rfl, hle, hcm, hsz, hA, hB⟩ := h1
   cases A with
   | none => have := hA rfl; omega
   | some A =>
    obtain ⟨hs, hr⟩ := hB A rfl
    have hs := hs (by omega)
    obtain ⟨b, o, sp⟩ := A
    simp at hs; subst hs
    obtain ⟨hg1, hg2⟩ := RdRows.get rows o n.toNat hr (by omega)
    refine ⟨_, run ok2 b o _ cap hp1 hp2, ?_⟩
    simp only [RepAV, RepAC]
    refine ⟨b, _, rfl, ?_⟩
    rw [← hp3, hg2]
    exact hg1
  ·rename_i ti l m hte
   obtain ⟨info2, z2, d2, ok2⟩ := hT _ _ hte
   split at ho
   ·rename_i e' sz rows fz hl
    split at ho
    ·rename_i hn
     obtain ⟨hn, hsz⟩ := hn
     obtain ⟨rfl, rfl⟩ := Prod.mk.inj (Option.some.inj ho)
     obtain ⟨hp1, hp2⟩ := hp
     simp only [RepAV, RepAC] at h1 ⊢
     obtain ⟨_, B, hB, hq⟩ := h1
     rw [hl] at hB
     obtain rfl := Option.some.inj hB
     simp only [zK0] at hq
     rw [hq.2 hn]
     obtain ⟨_, _, xs, S, hown, _⟩ := h.lb l _ hl
     rcases hown.2 with ⟨_, k2⟩ | ⟨gg, cap, cur, k1, _⟩
     ·omega
     ·rw [k1, ← hn]
      refine ⟨_, run ok2 gg 0 m cap hp1 (by omega), rfl, _, hl, ?_⟩
      simp only [zx0]
      exact ⟨hq.1, fun _ => ⟨by omega, gg, cap, rfl, by rw [hsz]; simp⟩⟩
    ·cases ho
   ·cases ho
  ·cases ho
 ·cases ho
theorem dr0 (hT : zU0 P tab) {t : TypeId} {x i : AV} {u1 u2 : Value} (h1 : RepAV w F lb g x u1) (h2 : RepAV w F lb g i u2) {pr : Prop} {v : AV} (ho : dq0 (tab t) x i = some (pr, v)) (hp : pr) :
  ∃ y, (Instr.index t u1 u2).run P w = .ok y w ∧ RepAV w F lb g v y := by
 unfold dq0 at ho
 split at ho
 ·rename_i str n ht
  obtain ⟨info, z, d, ok⟩ := hT _ _ ht
  have hd := ok.desc
  cases d <;> simp only [zX0, Bool.false_eq_true] at hd
  obtain ⟨rfl, rfl⟩ := Prod.mk.inj (Option.some.inj ho)
  obtain rfl := h1.c_v
  obtain rfl := h2.c_v
  obtain ⟨hp1, hp2⟩ := hp
  have hlt : n.toNat < str.size := by omega
  have he : str[n.toNat]? = some (str.data.getD n.toNat 0) := by
   have : n.toNat < str.data.size := hlt
   rw [getElem?_pos str n.toNat hlt]
   simp only [Array.getD, this, dite_true]
   rfl
  exact ⟨_, by simp [Instr.index, asIntOf, run_underlying ok.und, hp1, he], qu0 rfl⟩
 ·cases ho
end Go.Ai
namespace Go.Ai
open Go.RowKit
variable {P : Program} {tab : Tab} {w0 : World} {M0 : Ms} {F0 F : Fz} {g : Gh} {s : St} {a : Act} {w : World} {lb : Lk}
theorem RdRows.len {b sz : Nat} : ∀ (rows : List (List C)) (o : Nat), RdRows w F b sz o rows → ∀ r, r ∈ rows → r.length = sz
 | [], _, _, _, hr => by cases hr
 | r :: rs, o, h, q, hq => by
  simp only [RdRows] at h
  rcases List.mem_cons.1 hq with rfl | hq
  ·exact h.1
  ·exact RdRows.len rs (o + sz) h.2.2 q hq
theorem RdRows.take {b sz : Nat} : ∀ (n : Nat) (rows : List (List C)) (o : Nat), RdRows w F b sz o rows → RdRows w F b sz o (rows.take n)
 | 0, _, _, _ => by simp [RdRows]
 | n + 1, [], _, _ => by simp [RdRows]
 | n + 1, r :: rs, o, h => by
  simp only [RdRows] at h
  simp only [List.take_succ_cons, RdRows]
  exact ⟨h.1, h.2.1, RdRows.take n rs (o + sz) h.2.2⟩
theorem RdRows.drop {b sz : Nat} : ∀ (n : Nat) (rows : List (List C)) (o : Nat), RdRows w F b sz o rows → RdRows w F b sz (o + n * sz) (rows.drop n)
 | 0, _, _, h => by simpa using h
 | n + 1, [], _, _ => by simp [RdRows]
 | n + 1, r :: rs, o, h => by
  simp only [RdRows] at h
  have := RdRows.drop n rs (o + sz) h.2.2
  rw [show o + (n + 1) * sz = o + sz + n * sz by rw [Nat.add_mul]; omega]
  simpa using this
theorem zh0 {x : Int} {y : Nat} {code : BoundsCode} (h0 : 0 ≤ x) (h1 : x ≤ y) : (Instr.sliceBound (.int .i64 x) y code).run P w = .ok x.toNat w := by
 simp [Instr.sliceBound, asIntOf, h0, h1]
theorem jR0 {t : TypeId} (ht : P.underlying t = some .string) (str : ByteArray) (lo hi : Option Int) (l h : Nat) (hl : match lo with | some x => 0 ≤ x ∧ x ≤ h ∧ x.toNat = l | none => l = 0) (hh : match hi with | some x => 0 ≤ x ∧ x ≤ str.size ∧ x.toNat = h | none => h = str.size) :
  (Instr.sliceAt t (.string str) (lo.map (Value.int .i64)) (hi.map (Value.int .i64)) none).run P w = .ok (.string (str.extract l h)) w := by
 have hb : (Instr.sliceBounds false str.size str.size (lo.map (Value.int .i64)) (hi.map (Value.int .i64)) none).run P w = .ok (l, h, str.size) w := by
  unfold Instr.sliceBounds
  cases hi with
  | none =>
   simp only at hh
   subst hh
   cases lo with
   | none => simp only at hl; subst hl; simp
   | some x => obtain ⟨h1, h2, h3⟩ := hl; simp [zh0 h1 h2, h3]
  | some y =>
   obtain ⟨k1, k2, k3⟩ := hh
   cases lo with
   | none => simp only at hl; subst hl; simp [zh0 k1 k2, k3]
   | some x => obtain ⟨h1, h2, h3⟩ := hl; subst k3; simp [zh0 k1 k2, zh0 h1 h2, h3]
 simp [Instr.sliceAt, Instr.slice, run_underlying ht, hb]
theorem ym0 {t e : TypeId} {ti : TI} {info : TypeInfo} {z : Value} {d : TypeDesc} (ht : P.underlying t = some (.slice e)) (oke : TI.Ok P e ti info z d) (A : Option Addr) (len cap : Nat) (lo hi : Option Int) (l h : Nat) (hlc : len ≤ cap)
  (hl : match lo with | some x => 0 ≤ x ∧ x ≤ h ∧ x.toNat = l | none => l = 0) (hh : match hi with | some x => 0 ≤ x ∧ x ≤ len ∧ x.toNat = h | none => h = len) :
  (Instr.sliceAt t (.slice A len cap) (lo.map (Value.int .i64)) (hi.map (Value.int .i64)) none).run P w = .ok (.slice (if cap = l then A else A.map (·.add (l * ti.size))) (h - l) (cap - l)) w := by
 have hb : (Instr.sliceBounds true len cap (lo.map (Value.int .i64)) (hi.map (Value.int .i64)) none).run P w = .ok (l, h, cap) w := by
  unfold Instr.sliceBounds
  cases hi with
  | none =>
   simp only at hh
   subst hh
   cases lo with
   | none => simp only at hl; subst hl; simp
   | some x => obtain ⟨h1, h2, h3⟩ := hl; simp [zh0 h1 h2, h3]
  | some y =>
   obtain ⟨k1, k2, k3⟩ := hh
   have k2' : y ≤ cap := by omega
   cases lo with
   | none => simp only at hl; subst hl; simp [zh0 k1 k2', k3]
   | some x => obtain ⟨h1, h2, h3⟩ := hl; subst k3; simp [zh0 k1 k2', zh0 h1 h2, h3]
 simp [Instr.sliceAt, Instr.slice, run_underlying ht, hb, sizeOf, typeInfo, oke.inf, oke.size]
theorem kF0 {rows : List (List C)} {A : Option Addr} {cap sz l h size : Nat} (h2 : rows.length ≤ cap) (h3 : cap ≤ maxLen) (h4 : 0 < sz) (h5 : A = none → cap = 0)
  (h6 : ∀ a, A = some a → (0 < cap → a.spot = none) ∧ RdRows w F a.block sz a.off rows) (hlh : l ≤ h) (hhl : h ≤ rows.length) (hsz : (rows.take h).drop l ≠ [] → size = sz) :
  Rd w F (.sl ((rows.take h).drop l)) (.slice (if cap = l then A else A.map (·.add (l * size))) (h - l) (cap - l)) := by
 simp only [Rd]
 have hlen : ((rows.take h).drop l).length = h - l := by simp; omega
 rw [hlen]
 by_cases hem : (rows.take h).drop l = []
 ·rw [hem] at hlen ⊢
  simp only [List.length_nil] at hlen
  refine ⟨_, cap - l, sz, rfl, by omega, by omega, h4, fun hq => ?_, fun a ha => ⟨fun hpos => ?_, by simp [RdRows]⟩⟩
  ·split at hq
   ·have := h5 hq; omega
   ·cases A with
    | none => have := h5 rfl; omega
    | some A => cases hq
  ·split at ha
   ·exact (h6 a ha).1 (by omega)
   ·cases A with
    | none => cases ha
    | some A =>
     simp at ha; subst ha
     have := (h6 A rfl).1 (by omega)
     unfold Addr.add; split
     ·exact this
     ·rfl
 ·have hs := hsz hem
  subst hs
  refine ⟨_, cap - l, size, rfl, by omega, by omega, h4, fun hq => ?_, fun a ha => ?_⟩
  ·split at hq
   ·have := h5 hq; omega
   ·cases A with
    | none => have := h5 rfl; omega
    | some A => cases hq
  ·have hne : ¬ cap = l := fun hc => hem (List.eq_nil_of_length_eq_zero (by rw [hlen]; omega))
   rw [if_neg hne] at ha
   cases A with
   | none => cases ha
   | some A =>
    simp at ha; subst ha
    obtain ⟨k1, k2⟩ := h6 A rfl
    obtain ⟨b, o, sp⟩ := A
    have k1 := k1 (by omega)
    simp at k1; subst k1
    rw [wA0]
    exact ⟨fun _ => rfl, RdRows.drop l _ o (RdRows.take h _ o k2)⟩
theorem tM0 {t e : TypeId} {ti : TI} {info : TypeInfo} {z : Value} {d : TypeDesc} (ht : P.underlying t = some (.slice e)) (oke : TI.Ok P e ti info z d) (A : Option Addr) (len cap : Nat) :
  ∃ A', (Instr.sliceAt t (.slice A len cap) (some (.int .i64 0)) (some (.int .i64 0)) (some (.int .i64 0))).run P w = .ok (.slice A' 0 0) w := by
 have hb : (Instr.sliceBounds true len cap (some (.int .i64 0)) (some (.int .i64 0)) (some (.int .i64 0))).run P w = .ok (0, 0, 0) w := by
  unfold Instr.sliceBounds
  simp [zh0 (P := P) (w := w) (x := 0) (Int.le_refl 0) (Int.natCast_nonneg _)]
 exact ⟨_, by simp [Instr.sliceAt, Instr.slice, run_underlying ht, hb, sizeOf, typeInfo, oke.inf, oke.size]; rfl⟩
theorem cV0 (hT : zU0 P tab) {t : TypeId} {x lo hi mx : AV} {u vl vh vm : Value} (hu : RepAV w F lb g x u) (hl : RepAV w F lb g lo vl) (hh : RepAV w F lb g hi vh) (hm : RepAV w F lb g mx vm)
  {pr : Prop} {v : AV} (ho : cU0 tab (tab t) x lo hi mx = some (pr, v)) (hp : pr) :
  ∃ y, (Instr.sliceAt t u (some vl) (some vh) (some vm)).run P w = .ok y w ∧ RepAV w F lb g v y := by
 unfold cU0 at ho
 split at ho
 ·rename_i e _ _ _ rows ht
  obtain ⟨info, z, d, ok⟩ := hT _ _ ht
  have hd := ok.desc
  cases d <;> simp only [zX0, Bool.false_eq_true, beq_iff_eq] at hd
  subst hd
  cases hte : tab e with
  | none => rw [hte] at ho; cases ho
  | some ti =>
  obtain ⟨info2, z2, d2, ok2⟩ := hT _ _ hte
  rw [hte] at ho
  obtain ⟨rfl, rfl⟩ := Prod.mk.inj (Option.some.inj ho)
  obtain rfl := RepAV.c_v hl
  obtain rfl := RepAV.c_v hh
  obtain rfl := RepAV.c_v hm
  simp only [RepAV, RepAC, Rd] at hu
  obtain ⟨A, cap, sz, rfl, _⟩ := hu
  obtain ⟨A', hr⟩ := tM0 (P := P) (w := w) ok.und ok2 A rows.length cap
  exact ⟨_, hr, by simp only [RepAV, RepAC]; exact ⟨A', rfl⟩⟩
 ·cases ho
theorem xD0 (hT : zU0 P tab) {t : TypeId} {x : AV} {lo hi : Option AV} {u : Value} {vl vh : Option Value} (hu : RepAV w F lb g x u)
  (hl : match lo, vl with | some l, some v => RepAV w F lb g l v | none, none => True | _, _ => False) (hh : match hi, vh with | some l, some v => RepAV w F lb g l v | none, none => True | _, _ => False)
  {pr : Prop} {v : AV} (ho : xC0 tab (tab t) x lo hi = some (pr, v)) (hp : pr) :
  ∃ y, (Instr.sliceAt t u vl vh none).run P w = .ok y w ∧ RepAV w F lb g v y := by
 unfold xC0 at ho
 split at ho
 ·rename_i str l hr ht
  obtain ⟨info, z, d, ok⟩ := hT _ _ ht
  have hd := ok.desc
  cases d <;> simp only [zX0, Bool.false_eq_true] at hd
  obtain ⟨rfl, rfl⟩ := Prod.mk.inj (Option.some.inj ho)
  obtain rfl := hu.c_v
  cases vl with
  | none => exact hl.elim
  | some vl => cases vh with
   | none => exact hh.elim
   | some vh =>
    obtain rfl := RepAV.c_v hl
    obtain rfl := RepAV.c_v hh
    exact ⟨_, jR0 ok.und str (some l) (some hr) l.toNat hr.toNat ⟨by omega, by omega, rfl⟩ ⟨by omega, by omega, rfl⟩, qu0 rfl⟩
 ·rename_i str l ht
  obtain ⟨info, z, d, ok⟩ := hT _ _ ht
  have hd := ok.desc
  cases d <;> simp only [zX0, Bool.false_eq_true] at hd
  obtain ⟨rfl, rfl⟩ := Prod.mk.inj (Option.some.inj ho)
  obtain rfl := hu.c_v
  cases vh with
  | some vh => exact hh.elim
  | none => cases vl with
   | none => exact hl.elim
   | some vl =>
    obtain rfl := RepAV.c_v hl
    exact ⟨_, jR0 ok.und str (some l) none l.toNat str.size ⟨by omega, by omega, rfl⟩ rfl, qu0 rfl⟩
 ·rename_i str hr ht
  obtain ⟨info, z, d, ok⟩ := hT _ _ ht
  have hd := ok.desc
  cases d <;> simp only [zX0, Bool.false_eq_true] at hd
  obtain ⟨rfl, rfl⟩ := Prod.mk.inj (Option.some.inj ho)
  obtain rfl := hu.c_v
  cases vl with
  | some vl => exact hl.elim
  | none => cases vh with
   | none => exact hh.elim
   | some vh =>
    obtain rfl := RepAV.c_v hh
    exact ⟨_, jR0 ok.und str none (some hr) 0 hr.toNat rfl ⟨by omega, by omega, rfl⟩, qu0 rfl⟩
 ·rename_i e _ _ _ rows ht
  obtain ⟨info, z, d, ok⟩ := hT _ _ ht
  have hd := ok.desc
  cases d <;> simp only [zX0, beq_iff_eq, Bool.false_eq_true] at hd
  subst hd
  split at ho
  ·rename_i ti hte
   obtain ⟨info2, z2, d2, ok2⟩ := hT _ _ hte
   simp only [RepAV, RepAC, Rd] at hu
   obtain ⟨A, cap, sz, rfl, h2, h3, h4, h5, h6⟩ := hu
   have hsz : ∀ l h, (∀ r, r ∈ rows → r.length = ti.size) → (rows.take h).drop l ≠ [] → ti.size = sz := by
    intro l h hal hne
    cases A with
    | none =>
     have := h5 rfl
     have : rows = [] := List.eq_nil_of_length_eq_zero (by omega)
     subst this; simp at hne
    | some A =>
     obtain ⟨r, hr⟩ := List.exists_mem_of_ne_nil _ hne
     have hr' := List.mem_of_mem_take (List.mem_of_mem_drop hr)
     rw [← hal r hr', RdRows.len rows _ (h6 A rfl).2 r hr']
   split at ho
   ·rename_i l
    obtain ⟨rfl, rfl⟩ := Prod.mk.inj (Option.some.inj ho)
    cases vh with
    | some vh => exact hh.elim
    | none => cases vl with
     | none => exact hl.elim
     | some vl =>
      obtain rfl := RepAV.c_v hl
      obtain ⟨hp1, hp2, hp3⟩ := hp
      have := kF0 (w := w) (F := F) (l := l.toNat) (h := rows.length) (size := ti.size) h2 h3 h4 h5 h6 (by omega) (Nat.le_refl _) (hsz _ _ hp3)
      rw [List.take_length] at this
      exact ⟨_, ym0 ok.und ok2 A rows.length cap (some l) none l.toNat rows.length h2 ⟨by omega, by omega, rfl⟩ rfl, by simpa only [RepAV, RepAC] using this⟩
   ·rename_i h
    obtain ⟨rfl, rfl⟩ := Prod.mk.inj (Option.some.inj ho)
    cases vl with
    | some vl => exact hl.elim
    | none => cases vh with
     | none => exact hh.elim
     | some vh =>
      obtain rfl := RepAV.c_v hh
      obtain ⟨hp1, hp2, hp3⟩ := hp
      have := kF0 (w := w) (F := F) (l := 0) (h := h.toNat) (size := ti.size) h2 h3 h4 h5 h6 (by omega) (by omega) (hsz _ _ hp3)
      rw [List.drop_zero] at this
      exact ⟨_, ym0 ok.und ok2 A rows.length cap none (some h) 0 h.toNat h2 rfl ⟨by omega, by omega, rfl⟩, by simpa only [RepAV, RepAC] using this⟩
   ·rename_i l h
    obtain ⟨rfl, rfl⟩ := Prod.mk.inj (Option.some.inj ho)
    cases vl with
    | none => exact hl.elim
    | some vl => cases vh with
     | none => exact hh.elim
     | some vh =>
      obtain rfl := RepAV.c_v hl
      obtain rfl := RepAV.c_v hh
      obtain ⟨hp1, hp2, hp3, hp4⟩ := hp
      have := kF0 (w := w) (F := F) (l := l.toNat) (h := h.toNat) (size := ti.size) h2 h3 h4 h5 h6 (by omega) (by omega) (hsz _ _ hp4)
      exact ⟨_, ym0 ok.und ok2 A rows.length cap (some l) (some h) l.toNat h.toNat h2 ⟨by omega, by omega, rfl⟩ ⟨by omega, by omega, rfl⟩, by simpa only [RepAV, RepAC] using this⟩
   ·cases ho
  ·cases ho
 ·cases ho
end Go.Ai
namespace Go.Ai
open Go.RowKit
variable {P : Program} {tab : Tab} {w0 : World} {M0 : Ms} {F0 F : Fz} {g : Gh} {s : St} {a : Act} {w : World} {lb : Lk}
theorem db0 (off : Nat) : ∀ (vs : List Value) (j : Nat) (cs : Array Value), off + j + vs.length ≤ cs.size →
  ((vs.zipIdx j).foldl (fun cs (p : Value × Nat) => cs.setIfInBounds (off + p.2) p.1) cs).toList = cs.toList.take (off + j) ++ (vs ++ cs.toList.drop (off + j + vs.length))
 | [], j, cs, _ => by simp
 | v :: vs, j, cs, h => by
  simp only [List.zipIdx_cons, List.foldl_cons]
  rw [db0 off vs (j + 1) _ (by simp at h ⊢; omega)]
  have e := list_seg_step cs.toList (off + j) v vs (by simp at h ⊢; omega)
  rw [Array.toList_setIfInBounds, ← Nat.add_assoc]
  simpa [Nat.add_assoc] using e
theorem jw0 (place : Nat → Option (Nat × Nat)) : ∀ (parts : List (Nat × AV)) (vs : List (Nat × Value)) (cells : List AC) (cs : Array Value) (cells' : List AC), RepACs w F lb g cells cs.toList →
  parts.length = vs.length → (∀ (i : Nat) p q, parts[i]? = some p → vs[i]? = some q → p.1 = q.1 ∧ RepAV w F lb g p.2 q.2) → jv0 place cells parts = some cells' →
  ∃ cs', Instr.fill place cs vs = some cs' ∧ RepACs w F lb g cells' cs'.toList
 | [], vs, cells, cs, cells', hr, hl, _, h => by
  have : vs = [] := List.eq_nil_of_length_eq_zero (by simpa using hl.symm)
  subst this
  simp only [jv0] at h
  obtain rfl := Option.some.inj h
  exact ⟨cs, rfl, hr⟩
 | (i, v) :: parts, vs, cells, cs, cells', hr, hl, hv, h => by
  cases vs with
  | nil => simp at hl
  | cons q vs =>
   obtain ⟨i', u⟩ := q
   obtain ⟨h1, h2⟩ := hv 0 (i, v) (i', u) (by simp) (by simp)
   simp only at h1 h2
   subst h1
   simp only [jv0] at h
   split at h
   ·rename_i off size xs hp hx
    split at h
    ·rename_i hfit
     have hxs := h2.cs hx
     have hlx := RepACs.len _ _ hxs
     have hlc := RepACs.len _ _ hr
     simp only [Array.length_toList] at hlx hlc
     have hsz : u.cells.size = size := by omega
     have hset : (u.cells.zipIdx.foldl (fun cs (p : Value × Nat) => cs.setIfInBounds (off + p.2) p.1) cs).toList = cs.toList.take off ++ (u.cells.toList ++ cs.toList.drop (off + u.cells.toList.length)) := by
      have := db0 off u.cells.toList 0 cs (by simp; omega)
      rw [← Array.foldl_toList, Array.toList_zipIdx]
      simpa using this
     obtain ⟨cs', k1, k2⟩ := jw0 place parts vs (splice cells off xs) _ cells' (by rw [hset]; exact hr.splice hxs off) (by simpa using hl)
      (fun j p q hj hq => hv (j + 1) p q (by simpa using hj) (by simpa using hq)) h
     refine ⟨cs', ?_, k2⟩
     unfold Instr.fill
     simp only [hp]
     rw [if_neg (by simp only [ne_eq, Bool.or_eq_true, decide_eq_true_eq]; omega)]
     exact k1
    ·cases h
   ·cases h
theorem vD0 {t : TypeId} {ti : TI} {info : TypeInfo} {z : Value} {d : TypeDesc} (ok : TI.Ok P t ti info z d) : RepACs w F lb g ti.zero z.cells.toList := by
 have h := ok.cells
 have hl := ok.lits
 refine (RepACs.iff _ _).2 ⟨by simpa using (congrArg List.length h).symm, fun i x u hx hu => ?_⟩
 have h1 : (z.cells.toList.map some)[i]? = (ti.zero.map kK1)[i]? := by rw [h]
 simp only [List.getElem?_map, hx, hu, Option.map_some] at h1
 have h2 := List.all_eq_true.1 hl x (List.mem_of_getElem? hx)
 have h3 : some u = kK1 x := Option.some.inj h1
 cases x with
 | c x =>
  cases x with
  | sl rows => simp [sa0] at h2
  | v y =>
   simp only [kK1, Option.some.injEq] at h3
   subst h3
   simp only [RepAC, Rd]
   refine ⟨trivial, ?_⟩
   cases u <;> simp_all [sa0, okv]
 | nil =>
  simp only [kK1, Option.some.injEq] at h3
  subst h3
  simp [RepAC]
 | _ => simp [sa0] at h2
theorem mV0 (fields : List Field) : ∀ (_ : ∀ f, f ∈ fields → (P.info? f.type).isSome = true), (fields.mapM (m := Sem) fun f => do pure (f.offset, ← sizeOf f.type)).run P w = .ok (fields.map fun f => (f.offset, P.cellsOf f.type)) w := by
 induction fields with
 | nil => intro _; rfl
 | cons f fs ih =>
  intro h
  have hf := h f (by simp)
  cases hi : P.info? f.type with
  | none => simp [hi] at hf
  | some i =>
   have hsz : (sizeOf f.type).run P w = .ok (P.cellsOf f.type) w := by simp [sizeOf, typeInfo, hi, Program.cellsOf]
   have hd : (do pure (f.offset, ← sizeOf f.type) : Sem (Nat × Nat)).run P w = .ok (f.offset, P.cellsOf f.type) w := by rw [Sem.run_bind, hsz]; rfl
   rw [List.mapM_cons, Sem.run_bind, hd, Result.andThen_ok, Sem.run_bind, ih (fun q hq => h q (by simp [hq]))]
   rfl
theorem ld0 (hT : zU0 P tab) {t : TypeId} {fs : List (Nat × Nat)} {sz by_ : Nat} {zero cells' : List AC} {cmp : Option (List (Nat × CK))} (ht : tab t = some ⟨.struct fs cmp, sz, by_, zero⟩) (parts : Array (Nat × AV)) (vs : Array (Nat × Value))
  (hl : parts.size = vs.size) (hv : ∀ (i : Nat) p q, parts.toList[i]? = some p → vs.toList[i]? = some q → p.1 = q.1 ∧ RepAV w F lb g p.2 q.2) (h : jv0 (fun i => fs[i]?) zero parts.toList = some cells') :
  ∃ u, (Instr.build t vs).run P w = .ok u w ∧ RepAV w F lb g (.agg cells') u := by
 obtain ⟨info, z, d, ok⟩ := hT _ _ ht
 have hd := ok.desc
 cases d <;> simp only [zX0, Bool.and_eq_true, beq_iff_eq, Bool.false_eq_true] at hd
 rename_i fields
 obtain ⟨hd1, hd2⟩ := hd
 have hz := vD0 (w := w) (F := F) (lb := lb) (g := g) ok
 obtain ⟨cs', k1, k2⟩ := jw0 (fun i => fs[i]?) parts.toList vs.toList zero z.cells cells' hz (by simpa using hl) hv h
 have hinfo : ∀ f, f ∈ fields.toList → (P.info? f.type).isSome = true := by
  intro f hf
  have hne : P.cellsOf f.type ≠ 0 := by have := List.all_eq_true.1 hd2 f hf; simp only [Bool.and_eq_true, decide_eq_true_eq] at this; exact this.1
  unfold Program.cellsOf at hne
  cases hi : P.info? f.type with
  | none => simp [hi] at hne
  | some i => rfl
 have hpl : (fields.mapM (m := Sem) fun f => do pure (f.offset, ← sizeOf f.type)).run P w = .ok fs.toArray w := by
  have := mV0 (P := P) (w := w) fields.toList hinfo
  rw [Array.mapM_eq_mapM_toList, Sem.run_map, this, hd1]
  rfl
 refine ⟨.agg cs', ?_, cs'.toList, rfl, k2⟩
 simp only [bind_pure_comp] at hpl
 simp [Instr.build, zeroValue, typeInfo, ok.inf, ok.zero, run_underlying ok.und, hpl, k1]
theorem fj0 {w : World} {F : Fz} {lb : Lk} {g : Gh} : ∀ (rows : List (List AC)) (us : List Value) (S : List Nat), (∀ r, r ∈ rows → zt1 r = true) → RepCells w F lb g rows.flatten us S → us = (rows.map dD0).map (Value.int .u8)
 | [], us, S, _, h => by simp only [List.flatten_nil, RepCells] at h; simp [h.1]
 | r :: rows, us, S, hb, h => by
  have h0 := hb r (by simp)
  unfold zt1 at h0
  split at h0
  ·rename_i m
   simp only [List.flatten_cons, List.singleton_append, RepCells] at h
   obtain ⟨u, us', S1, S2, rfl, rfl, h1, h2⟩ := h
   have := fj0 rows us' S2 (fun q hq => hb q (by simp [hq])) h2
   have h1 := h1.1
   simp only [RepAC, Rd] at h1
   simp only [List.map_cons, dD0, h1.1, this]
  ·cases h0
theorem lu0 (hT : zU0 P tab) (h : Sim w0 M0 F0 F g s a w) {t t' : TypeId} {x : AV} {u : Value} (hu : RepAV w F s.lb g x u) {pr : Prop} {v : AV} (ho : ls0 tab s.lb t t' x = some (pr, v)) (hp : pr) :
  ∃ y, (convert t t' u).run P w = .ok y w ∧ RepAV w F s.lb g v y := by
 unfold ls0 at ho
 split at ho
 ·rename_i k ht k2 ht2 k3 n
  obtain ⟨info, z, d, ok⟩ := hT _ _ ‹tab t = _›
  obtain ⟨info2, z2, d2, ok2⟩ := hT _ _ ‹tab t' = _›
  have hd := ok.desc
  have hd2 := ok2.desc
  cases d <;> simp [zX0] at hd
  cases d2 <;> simp [zX0] at hd2
  subst hd hd2
  obtain rfl := hu.c_v
  obtain ⟨rfl, rfl⟩ := Prod.mk.inj (Option.some.inj ho)
  exact ⟨_, by simp [convert, run_underlying ok.und, run_underlying ok2.und, Conv.intToInt], qu0 rfl⟩
 ·rename_i e _ _ _ _ _ _ l n ht ht2
  obtain ⟨info, z, d, ok⟩ := hT _ _ ht
  obtain ⟨info2, z2, d2, ok2⟩ := hT _ _ ht2
  have hd := ok.desc
  have hd2 := ok2.desc
  cases d <;> simp [zX0] at hd
  cases d2 <;> simp [zX0] at hd2
  subst hd
  split at ho
  ·rename_i hte
   split at ho
   case h_2 => cases ho
   rename_i e1 sz1 rows fz1 hl
   obtain ⟨info3, z3, d3, ok3⟩ := hT _ _ hte
   have hd3 := ok3.desc
   cases d3 <;> simp [zX0] at hd3
   subst hd3
   split at ho
   ·rename_i hn
    obtain ⟨rfl, rfl⟩ := Prod.mk.inj (Option.some.inj ho)
    simp only [RepAV, RepAC] at hu
    obtain ⟨_, B, hB, hq⟩ := hu
    rw [hl] at hB
    obtain rfl := Option.some.inj hB
    simp only [zK0] at hq
    rw [hq.2 hn]
    obtain ⟨hsz, hrl, xs, S, hown, hcells, _⟩ := h.lb l _ hl
    have hvals := fj0 _ _ _ hp hcells
    rcases hown.2 with ⟨h1, h2⟩ | ⟨gg, cap, cur, h1, _⟩
    ·rw [h1]
     have : rows = [] := List.eq_nil_of_length_eq_zero h2
     subst this
     refine ⟨.string ByteArray.empty, ?_, qu0 rfl⟩
     rw [run_convert_bytes_string w t t' _ none 0 0 ok.und ok3.und ok2.und]
     simp [Conv.bytesToString]
    ·rw [h1]
     refine ⟨_, ?_, qu0 rfl⟩
     rw [run_convert_bytes_string w t t' _ _ _ _ ok.und ok3.und ok2.und]
     refine run_bytesToString w ⟨gg, 0, none⟩ rows.length cap (rows.map dD0) ?_
     have hlen : (rows.map dD0).length = rows.length := by simp
     rw [← hvals]
     have hcl := hown.cells (g := gg) (by rw [h1]; rfl)
     have hxl : xs.length = rows.length := by rw [hvals]; simp
     have := run_firstCells_some (P := P) (w := w) 1 rows.length ⟨gg, 0, none⟩ rows.length cap xs (by omega) hcl
     simpa [Builtin.firstCells] using this
   ·cases ho
  ·cases ho
 ·cases ho
theorem nO0 (h : Sim w0 M0 F0 F g s a w) : ∀ (xs : List Operand) (cs : List AC), bY0 (xs.map (opv s)) = some cs → RepACs w F s.lb g cs (xs.map a.eval)
 | [], cs, hc => by simp only [List.map_nil, bY0, Option.some.injEq] at hc; subst hc; simp only [List.map_nil, RepACs]
 | x :: xs, cs, hc => by
  have hx := zm0 h x
  rw [List.map_cons] at hc ⊢
  generalize opv s x = v at hc hx
  cases v with
  | one y =>
   simp only [bY0] at hc
   cases hq : bY0 (xs.map (opv s)) with
   | none => rw [hq] at hc; cases hc
   | some ys =>
    rw [hq] at hc
    simp only [Option.map_some, Option.some.injEq] at hc
    subst hc
    simp only [RepAV] at hx
    simp only [RepACs]
    exact ⟨_, _, rfl, hx, nO0 h xs ys hq⟩
  | _ => simp only [bY0] at hc; cases hc
theorem pf0 (hT : zU0 P tab) (h : Sim w0 M0 F0 F g s a w) {o : Oper} {pr : Prop} {v : AV} (ho : jO0 tab o s = some (pr, v)) (hp : pr) :
  ∃ u, (execOp a.eval o).run P w = .ok (.value u) w ∧ RepAV w F s.lb g v u := by
 have E := zm0 h
 unfold jO0 at ho
 unfold execOp
 split at ho
 ·rename_i x hop
  obtain ⟨rfl, rfl⟩ := Prod.mk.inj (Option.some.inj ho)
  exact ⟨_, by simp [hop], E x⟩
 ·rename_i x hop
  obtain ⟨rfl, rfl⟩ := Prod.mk.inj (Option.some.inj ho)
  exact ⟨_, by simp [hop], E x⟩
 ·rename_i c x y hop
  split at ho
  ·rename_i b hb
   obtain ⟨rfl, rfl⟩ := Prod.mk.inj (Option.some.inj ho)
   have hc := E c
   rw [hb] at hc
   have hc := hc.c_v
   refine ⟨if b then a.eval x else a.eval y, by simp [hop, hc, asBool], ?_⟩
   cases b
   ·simpa using E y
   ·simpa using E x
  ·cases ho
 ·rename_i t parts hop
  split at ho
  ·rename_i fs cmp sz by_ zero ht
   cases hf : jv0 (fun i => fs[i]?) zero (parts.toList.map fun (i, x) => (i, opv s x)) with
   | none => rw [hf] at ho; cases ho
   | some cs =>
    rw [hf] at ho
    obtain ⟨rfl, rfl⟩ := Prod.mk.inj (Option.some.inj ho)
    obtain ⟨u, hu, hv⟩ := ld0 (w := w) (F := F) (lb := s.lb) (g := g) hT ht (parts.map fun (i, x) => (i, opv s x)) (parts.map fun (i, x) => (i, a.eval x)) (by simp)
     (fun i p q hi hq => by
      simp only [Array.toList_map, List.getElem?_map] at hi hq
      cases hx : parts.toList[i]? with
      | none => rw [hx] at hi; cases hi
      | some y =>
       rw [hx] at hi hq
       simp at hi hq
       subst hi hq
       exact ⟨rfl, E _⟩) (by simpa using hf)
    exact ⟨u, by simp [hop, hu], hv⟩
  ·cases ho
 ·rename_i t x hop
  obtain ⟨u, hu, hv⟩ := pS0 (P := P) hT h (E x) ho hp
  exact ⟨u, by simp [hop, hu], hv⟩
 ·rename_i op t x y t' hop
  obtain ⟨u, hu, hv⟩ := rp0 (P := P) hT (xo := x) (yo := y) (E x) (E y) ho hp
  refine ⟨u, ?_, hv⟩
  simp only [hop]
  rw [Sem.run_bind, hu]; rfl
 ·rename_i t x hop
  split at ho
  ·rename_i b hb
   obtain ⟨rfl, rfl⟩ := Prod.mk.inj (Option.some.inj ho)
   have hx := E x
   rw [hb] at hx
   have hx := hx.c_v
   exact ⟨.bool (!b), by simp [hop, hx, Op.unary], qu0 rfl⟩
  ·cases ho
 ·rename_i t x f hop
  obtain ⟨u, hu, hv⟩ := xT0 (P := P) hT (E x) ho hp
  exact ⟨u, by simp [hop, hu], hv⟩
 ·rename_i x hop
  have hx := E x
  unfold jj1 at ho
  split at ho
  ·rename_i l off he
   split at ho
   ·rename_i cells hl
    obtain ⟨rfl, rfl⟩ := Prod.mk.inj (Option.some.inj ho)
    rw [he] at hx
    have hx2 := hx
    simp only [RepAV, RepAC] at hx
    obtain ⟨_, B, hB, hq⟩ := hx
    rw [hl] at hB
    obtain rfl := Option.some.inj hB
    simp only [za0] at hq
    exact ⟨a.eval x, by simp [hop, hq], hx2⟩
   ·cases ho
  ·rename_i cs he
   obtain ⟨rfl, rfl⟩ := Prod.mk.inj (Option.some.inj ho)
   rw [he] at hx
   have hx2 := hx
   simp only [RepAV, RepAC] at hx
   obtain ⟨b, o, hq, _⟩ := hx
   exact ⟨a.eval x, by simp [hop, hq], hx2⟩
  ·cases ho
 ·rename_i t x i hop
  obtain ⟨u, hu, hv⟩ := xa0 (P := P) hT h (E x) (E i) ho hp
  exact ⟨u, by simp [hop, hu], hv⟩
 ·rename_i t x i hop
  obtain ⟨u, hu, hv⟩ := dr0 (P := P) hT (E x) (E i) ho hp
  exact ⟨u, by simp [hop, hu], hv⟩
 ·rename_i t x lo hi hop
  obtain ⟨u, hu, hv⟩ := xD0 (P := P) (vl := lo.map a.eval) (vh := hi.map a.eval) hT (E x) (by cases lo <;> simp [E]) (by cases hi <;> simp [E]) ho hp
  exact ⟨u, by simp [hop, hu], hv⟩
 ·rename_i t x lo hi mx hop
  obtain ⟨u, hu, hv⟩ := cV0 (P := P) hT (E x) (E lo) (E hi) (E mx) ho hp
  exact ⟨u, by simp [hop, hu], hv⟩
 ·rename_i t t' x hop
  obtain ⟨u, hu, hv⟩ := lu0 (P := P) hT h (E x) ho hp
  exact ⟨u, by simp [hop, hu], hv⟩
 ·rename_i x i hop
  split at ho
  ·rename_i vs hx
   have k := E x
   rw [hx] at k
   simp only [RepAV] at k
   obtain ⟨us, hus, hr⟩ := k
   cases hi : vs[i]? with
   | none => rw [hi] at ho; cases ho
   | some y =>
    rw [hi] at ho
    obtain ⟨rfl, rfl⟩ := Prod.mk.inj (Option.some.inj ho)
    have get : ∀ (vs : List AV) (us : List Value) (i : Nat) y, RepAVs w F s.lb g vs us → vs[i]? = some y → ∃ u, us[i]? = some u ∧ RepAV w F s.lb g y u := by
     intro vs
     induction vs with
     | nil => intro us i y _ hy; simp at hy
     | cons v vs ih =>
      intro us i y hr hy
      simp only [RepAVs] at hr
      obtain ⟨u, us', rfl, h1, h2⟩ := hr
      cases i with
      | zero => simp at hy; subst hy; exact ⟨u, by simp, h1⟩
      | succ i => simpa using ih us' i y h2 (by simpa using hy)
    obtain ⟨u, hu, hv⟩ := get vs us i y hr hi
    exact ⟨u, by simp [hop, hus, Instr.extract, hu], hv⟩
  ·cases ho
 ·rename_i t x f hop
  obtain ⟨y, hy, hv⟩ := dY0 (P := P) hT (E x) ho
  exact ⟨y, by simp [hop, hy], hv⟩
 ·rename_i f fst caps hop
  split at ho
  ·rename_i hf
   obtain rfl : fst = #[] := Array.toList_inj.1 hf
   cases hc : bY0 (caps.toList.map (opv s)) with
   | none => rw [hc] at ho; cases ho
   | some cs =>
    rw [hc] at ho
    obtain ⟨rfl, rfl⟩ := Prod.mk.inj (Option.some.inj ho)
    refine ⟨.func (.func f) #[] (caps.map a.eval), by simp [hop, Instr.makeFunc], ?_⟩
    simp only [RepAV, RepAC]
    refine ⟨caps.toList.map a.eval, ?_, nO0 h _ _ hc⟩
    congr 1
    rw [← Array.toList_map]
  ·cases ho
 ·rename_i c hop
  obtain ⟨callee, args, ts⟩ := c
  unfold wz0 at ho
  split at ho
  ·rename_i hc
   simp only at hc
   subst hc
   split at ho
   ·rename_i x t ha ht
    have ha' : args.toList = [x] := ha
    have ht' : ts.toList = [t] := ht
    clear ha ht
    obtain rfl : args = #[x] := Array.toList_inj.1 ha'
    obtain rfl : ts = #[t] := Array.toList_inj.1 ht'
    obtain ⟨u, hu, hv⟩ := sY0 (P := P) hT h (ty := o.type) (E x) ho
    exact ⟨u, by simp [hop, resolve, invoke, builtin, hu], hv⟩
   ·cases ho
  ·rename_i hc
   simp only at hc
   subst hc
   split at ho
   ·rename_i x y ha
    have ha' : args.toList = [x, y] := ha
    clear ha
    obtain rfl : args = #[x, y] := Array.toList_inj.1 ha'
    obtain ⟨u, hu, hv⟩ := se0 (P := P) (ts := ts) (ty := o.type) (E x) (E y) ho
    exact ⟨u, by simp [hop, resolve, invoke, builtin, hu], hv⟩
   ·cases ho
  ·cases ho
 ·cases ho
end Go.Ai
