/- The operations that make or write memory. -/
import Derived.Test.YtgdmjekkdcjipaaGreatAiPure4
import Derived.IntWalk
set_option linter.unusedVariables false
set_option linter.unusedSimpArgs false
namespace Go.Ai
open Go.RowKit
variable {P : Program} {tab : Tab} {w0 : World} {M0 : Ms} {F0 F : Fz} {g : Gh} {s : St} {a : Act} {w w' : World} {lb : Lk}
theorem Sim.turn (h : Sim w0 M0 F0 F g s a w) {l : Nat} {B B' : LB} (hl : s.lb l = some B)
  (hc : (∀ n u, zK0 B (g.hd l) n u → zK0 B' (g.hd l) n u) ∧ (∀ off u, za0 B (g.bl l) off u → za0 B' (g.bl l) off u) ∧
   (∀ n i off u, zx0 B (g.hd l) n i off u → zx0 B' (g.hd l) n i off u) ∧ (∀ i u, qg0 B (g.hd l) i u → qg0 B' (g.hd l) i u))
  (stays : Stays w w' F F) (hoth : ∀ k, k ∉ g.ds l → w'.heap[k]? = w.heap[k]?) (hsize : w'.heap.size = w.heap.size) (hos : w'.os = w.os) (htape : w'.tape = w.tape) (hout : w'.output = w.output)
  (hr : Keeps s.lb g (s.put l B').lb g → RepLB w' F (s.put l B').lb g l B') (hs : SoftOk F g l B') :
  Sim w0 M0 F0 F g (s.put l B') a w' := by
 have K : Keeps s.lb g (s.put l B').lb g := by
  constructor
  intro k Bk hB
  by_cases e : k = l
  ·subst e
   rw [hl] at hB
   obtain rfl := Option.some.inj hB
   exact ⟨B', by simp [St.put_lb], hc⟩
  ·exact ⟨Bk, by simp [St.put_lb, e, hB], fun _ _ h => h, fun _ _ h => h, fun _ _ _ _ h => h, fun _ _ h => h⟩
 have at_ : ∀ k Bk, k ≠ l → (s.put l B').lb k = some Bk → s.lb k = some Bk := fun k Bk hk hB => by simpa [St.put_lb, hk] using hB
 have at_l : ∀ Bk, (s.put l B').lb l = some Bk → Bk = B' := fun Bk hB => by simpa [St.put_lb, eq_comm] using hB
 have old : ∀ k Bk, (s.put l B').lb k = some Bk → ∃ Bo, s.lb k = some Bo := fun k Bk hB => by
  by_cases e : k = l
  ·subst e; exact ⟨B, hl⟩
  ·exact ⟨Bk, at_ k Bk e hB⟩
 exact {
  sz := h.sz
  df := h.df
  sl := fun i => RepAV.mono stays K _ _ (h.sl i)
  gh := RepAVs.mono stays K _ _ h.gh
  lb := fun k Bk hB => by
   by_cases e : k = l
   ·subst e; rw [at_l Bk hB]; exact hr K
   ·exact RepLB.mono stays K rfl rfl rfl (fun b hb => hoth b (fun hin => h.dj k l Bk B e (at_ k Bk e hB) hl b hb hin)) (h.lb k Bk (at_ k Bk e hB))
  so := fun k Bk hB => by
   by_cases e : k = l
   ·subst e; rw [at_l Bk hB]; exact hs
   ·exact h.so k Bk (at_ k Bk e hB)
  nd := fun k Bk hB => by obtain ⟨Bo, ho⟩ := old k Bk hB; exact h.nd k Bo ho
  dj := fun k k' Bk Bk' hkk hB hB' => by
   obtain ⟨Bo, ho⟩ := old k Bk hB
   obtain ⟨Bo', ho'⟩ := old k' Bk' hB'
   exact h.dj k k' Bo Bo' hkk ho ho'
  nw := fun k Bk hB => by obtain ⟨Bo, ho⟩ := old k Bk hB; rw [hsize]; exact h.nw k Bo ho
  f0 := h.f0
  f1 := h.f1
  f2 := by rw [hsize]; exact h.f2
  tb := h.tb
  os := hos.trans h.os
  tape := htape.trans h.tape
  output := hout.trans h.output
  size := by rw [hsize]; exact h.size
  block := fun k hk hm => (hoth k (fun hin => by
   rcases (h.nw l B hl k hin).1 with q | q
   ·omega
   ·exact hm q)).trans (h.block k hk hm) }
def yx1 (P : Program) (w0 : World) (M0 : Ms) (F0 F : Fz) (s' : St) (a : Act) (w : World) (o : Oper) : Prop :=
 ∃ v w' g', Sim w0 M0 F0 F g' s' (a.put o.dst v) w' ∧ ((execOp a.eval o).run P w = .ok (.value v) w' ∨ (v = undef ∧ (execOp a.eval o).run P w = .ok .skip w'))
theorem df0 (h : Sim w0 M0 F0 F g s a w) {o : Oper} {d : Nat} (hd : o.dst = some d) (hn : d < s.n) (hf : s.lb d = none) {cells : List AC} {cs : List Value} (e : TypeId) (hc : RepACs w F s.lb g cells cs)
  (hr : (execOp a.eval o).run P w = .ok (.value (.pointer (some ⟨w.heap.size, 0, none⟩))) (w.alloc (.cells cs.toArray e))) :
  yx1 P w0 M0 F0 F ((s.put d (.var cells)).set (some d) (.one (.ptr d 0))) a w o := by
 obtain ⟨g', h1, h2, h3⟩ := h.newVar e hf hc
 refine ⟨_, _, g', ?_, .inl hr⟩
 rw [hd]
 refine h1.set hn ?_
 simp only [RepAV, RepAC]
 exact ⟨rfl, _, by simp [St.put_lb]; rfl, by simp [za0, h2]⟩
theorem de0 (h : Sim w0 M0 F0 F g s a w) {o : Oper} {d : Nat} (hd : o.dst = some d) (hn : d < s.n) (hf : s.lb d = none) {e : TypeId} {sz : Nat} {rows : List (List AC)} {cs : List Value} {cap : Nat} (hsz : 0 < sz)
  (hrl : ∀ r, r ∈ rows → r.length = sz) (hcap : rows.length ≤ cap) (hmax : cap ≤ maxLen) (hlen : cs.length = cap * sz) (hc : RepACs w F s.lb g rows.flatten (cs.take (rows.length * sz)))
  (hr : (execOp a.eval o).run P w = .ok (.value (.slice (some ⟨w.heap.size, 0, none⟩) rows.length cap)) (w.alloc (.cells cs.toArray e))) :
  yx1 P w0 M0 F0 F ((s.put d (.arr e sz rows false)).set (some d) (.one (.own d rows.length))) a w o := by
 obtain ⟨g', h1, h2, h3⟩ := h.newRow (e := e) hf hsz hrl hcap hmax hlen hc
 refine ⟨_, _, g', ?_, .inl hr⟩
 rw [hd]
 refine h1.set hn ?_
 simp only [RepAV, RepAC]
 exact ⟨rfl, _, by simp [St.put_lb]; rfl, by simp [zK0, h2]⟩
theorem vb0 (l : List Value) (k : Nat) (hk : l.length = k) : ∀ n, (List.range (n * k)).map (fun i => l.toArray[i % k]!) = (List.replicate n l).flatten
 | 0 => by simp
 | n + 1 => by
  rw [List.replicate_succ, List.flatten_cons, ← vb0 l k hk n, show (n + 1) * k = k + n * k by rw [Nat.add_mul]; omega, List.range_add, List.map_append, List.map_map]
  congr 1
  ·apply List.ext_getElem
   ·simp [hk]
   ·intro i h1 h2
    simp at h1
    simp [Nat.mod_eq_of_lt h1, h2]
  ·apply List.map_congr_left
   intro i _
   simp
theorem lG0 {t : TypeId} {ti : TI} {info : TypeInfo} {z : Value} {d : TypeDesc} (ok : TI.Ok P t ti info z d) (n : Nat) :
  RepACs w F lb g (List.replicate n ti.zero).flatten (((Array.range (n * ti.size)).map (fun i => z.cells[i % z.cells.size]!)).toList) := by
 have hz := vD0 (w := w) (F := F) (lb := lb) (g := g) ok
 have hsz : z.cells.toList.length = ti.size := by rw [← RepACs.len _ _ hz]; exact ok.len
 have hsz' : z.cells.size = ti.size := by simpa using hsz
 have := vb0 z.cells.toList ti.size hsz n
 rw [Array.toArray_toList] at this
 rw [Array.toList_map, Array.toList_range, hsz', this]
 induction n with
 | zero => simp [RepACs]
 | succ n ih => rw [List.replicate_succ, List.replicate_succ, List.flatten_cons, List.flatten_cons]; exact hz.append (ih (vb0 z.cells.toList ti.size hsz n ▸ (by rw [Array.toArray_toList])))
theorem dH0 (sz : Nat) : ∀ (n : Nat) (l : List AC), l.length = n * sz → (jp0 sz n l).flatten = l ∧ (jp0 sz n l).length = n ∧ ∀ r, r ∈ jp0 sz n l → r.length = sz
 | 0, l, h => by simp at h; simp [jp0, h]
 | n + 1, l, h => by
  rw [Nat.add_mul] at h
  obtain ⟨h1, h2, h3⟩ := dH0 sz n (l.drop sz) (by simp; omega)
  refine ⟨by simp [jp0, h1], by simp [jp0, h2], fun r hr => ?_⟩
  rcases List.mem_cons.1 hr with rfl | hr
  ·simp; omega
  ·exact h3 r hr
theorem dZ0 (place : Nat → Option (Nat × Nat)) : ∀ (parts : List (Nat × AV)) (cells cells' : List AC), jv0 place cells parts = some cells' → cells'.length = cells.length
 | [], _, _, h => by simp only [jv0] at h; rw [← Option.some.inj h]
 | (i, v) :: parts, cells, cells', h => by
  simp only [jv0] at h
  split at h
  ·split at h
   ·rw [dZ0 place parts _ _ h]
    unfold splice
    simp
    omega
   ·cases h
  ·cases h
end Go.Ai
namespace Go.Ai
open Go.RowKit
variable {P : Program} {tab : Tab} {w0 : World} {M0 : Ms} {F0 F : Fz} {g : Gh} {s : St} {a : Act} {w w' : World} {lb : Lk}
theorem RepACs.ones {as : List AC} {us : List Value} (h : RepACs w F lb g as us) : ∀ u, u ∈ us → u.oneCell' = true := by
 intro u hu
 obtain ⟨h1, h2⟩ := (RepACs.iff _ _).1 h
 obtain ⟨i, hi⟩ := List.getElem?_of_mem hu
 have hlt := (List.getElem?_eq_some_iff.1 hi).1
 exact (h2 i as[i] u (List.getElem?_eq_getElem (by omega)) hi).one
theorem vy0 {t : TypeId} {ti : TI} {info : TypeInfo} {z : Value} {d : TypeDesc} (ok : TI.Ok P t ti info z d) (b o : Nat) (u : Value) (hsz : u.cells.size = ti.size) {cs : Array Value} {e : TypeId} (hh : w.heap[b]? = some (.cells cs e (0, 0)))
  (fit : o + u.cells.size ≤ cs.size) (h1 : ∀ v, v ∈ u.cells.toList → v.oneCell' = true) :
  (Instr.storeAt t (.pointer (some ⟨b, o, none⟩)) u).run P w = .ok () (w.setRow b (cs.toList.take o ++ (u.cells.toList ++ cs.toList.drop (o + u.cells.toList.length))).toArray) := by
 have hst := run_storeCells_at P b o e u.cells.toList 0 cs w hh (by simpa using fit) h1
 simp only [Nat.add_zero, List.append_assoc] at hst
 simp [Instr.storeAt, Instr.sureAddr, storeVar, sizeOf, typeInfo, ok.inf, ok.size, hsz, hst]
theorem xB0 {b : Nat} (hb : ∀ o, ¬ F b o) (cs : Array Value) : Stays w (w.setRow b cs) F F :=
 ⟨fun _ _ hf => hf, fun k o hf => zL0 (setRow_other w b k cs (fun e => hb o (e ▸ hf))) o⟩
theorem RepCells.append_inv : ∀ (as : List AC) (bs : List AC) (us : List Value) (S : List Nat), RepCells w F lb g (as ++ bs) us S → ∃ u1 u2 S1 S2, us = u1 ++ u2 ∧ S = S1 ++ S2 ∧ RepCells w F lb g as u1 S1 ∧ RepCells w F lb g bs u2 S2
 | [], bs, us, S, h => ⟨[], us, [], S, rfl, rfl, ⟨rfl, rfl⟩, h⟩
 | x :: as, bs, us, S, h => by
  simp only [List.cons_append, RepCells] at h
  obtain ⟨u, us', S1, S2, rfl, rfl, h3, h4⟩ := h
  obtain ⟨u1, u2, T1, T2, rfl, rfl, k1, k2⟩ := RepCells.append_inv as bs us' S2 h4
  exact ⟨u :: u1, u2, S1 ++ T1, T2, rfl, by simp, ⟨u, u1, S1, T1, rfl, rfl, h3, k1⟩, k2⟩
theorem RepCells.plain : ∀ (as : List AC) (us : List Value) (S : List Nat), (∀ x, x ∈ as → Ai.unD x = x) → RepCells w F lb g as us S → S = [] ∧ RepACs w F lb g as us
 | [], _, _, _, h => by simp only [RepCells] at h; simp [RepACs, h]
 | x :: as, us, S, hx, h => by
  simp only [RepCells] at h
  obtain ⟨u, us', S1, S2, rfl, rfl, h3, h4⟩ := h
  obtain ⟨k1, k2⟩ := RepCells.plain as us' S2 (fun y hy => hx y (by simp [hy])) h4
  have hxx := hx x (by simp)
  have : S1 = [] ∧ RepAC w F lb g x u := by
   cases x
   case d x => simp [Ai.unD] at hxx
   case m x => simp [Ai.unD] at hxx
   all_goals exact ⟨h3.2, h3.1⟩
  exact ⟨by simp [this.1, k1], u, us', rfl, this.2, k2⟩
theorem yg0 {α : Type} : ∀ (rows : List (List α)) (i : Nat) (r : List α), i < rows.length → rows.flatten = (rows.take i).flatten ++ (rows.getD i [] ++ (rows.drop (i + 1)).flatten) ∧ (rows.set i r).flatten = (rows.take i).flatten ++ (r ++ (rows.drop (i + 1)).flatten)
 | [], _, _, h => by simp at h
 | q :: rows, 0, r, _ => by simp
 | q :: rows, i + 1, r, h => by
  obtain ⟨h1, h2⟩ := yg0 rows i r (by simpa using h)
  simp only [List.flatten_cons, List.take_succ_cons, List.drop_succ_cons, List.set_cons_succ, List.append_assoc, h2]
  refine ⟨?_, trivial⟩
  rw [h1]; simp
theorem qq0 {α : Type} {sz : Nat} : ∀ (rows : List (List α)), (∀ r, r ∈ rows → r.length = sz) → rows.flatten.length = rows.length * sz
 | [], _ => by simp
 | r :: rs, h => by rw [List.flatten_cons, List.length_append, qq0 rs (fun q hq => h q (by simp [hq])), h r (by simp)]; simp [Nat.add_mul]; omega
theorem kx1 {x : AC} (h : Ai.unD x = x) : isD x = false := by cases x <;> simp_all [Ai.unD, isD]
theorem kO1 {rows : List (List AC)} {i off : Nat} {xs : List AC} (hi : i < rows.length) (hp : ∀ a, a ∈ ((rows.getD i []).drop off).take xs.length → Ai.unD a = a) (h : noD (rows.set i (splice (rows.getD i []) off xs)) = true) : noD rows = true := by
 simp only [noD, List.all_eq_true, Bool.not_eq_true'] at h ⊢
 intro r hr x hx
 obtain ⟨j, hj, rfl⟩ := List.getElem_of_mem hr
 by_cases e : j = i
 ·subst e
  have hg : rows.getD j [] = rows[j] := by rw [List.getD_eq_getElem?_getD, List.getElem?_eq_getElem hj]; rfl
  rw [hg] at hp h
  have hs := h (splice rows[j] off xs) (List.mem_of_getElem? (i := j) (by rw [List.getElem?_set_self (by simpa using hj)]))
  have hsp : rows[j] = rows[j].take off ++ ((rows[j].drop off).take xs.length ++ rows[j].drop (off + xs.length)) := by
   rw [← List.drop_drop, List.take_append_drop, List.take_append_drop]
  rw [hsp] at hx
  rcases List.mem_append.1 hx with hx | hx
  ·exact hs x (by unfold splice; exact List.mem_append_left _ hx)
  ·rcases List.mem_append.1 hx with hx | hx
   ·exact kx1 (hp x hx)
   ·exact hs x (by unfold splice; exact List.mem_append_right _ (List.mem_append_right _ hx))
 ·exact h rows[j] (List.mem_of_getElem? (i := j) (by rw [List.getElem?_set_ne (Ne.symm e), List.getElem?_eq_getElem hj])) x hx
theorem gq0 (hT : zU0 P tab) (h : Sim w0 M0 F0 F g s a w) {o : Oper} {t : TypeId} {p x : Operand} (hop : o.op = .store t p x) {pr : Prop} {e : Eff} (ho : kv0 tab s.lb t (opv s p) (opv s x) = some (pr, e)) (hp : pr) (hk : e.ok o.dst s) :
  yx1 P w0 M0 F0 F (e.app o.dst s) a w o := by
 have E := zm0 h
 have Ep := E p
 have Ex := E x
 have put : ∀ {l : Nat} {B : LB} {wn : World}, Sim w0 M0 F0 F g (s.put l B) a wn → (∀ t, o.dst = some t → t < s.n) → (Instr.storeAt t (a.eval p) (a.eval x)).run P w = .ok () wn → yx1 P w0 M0 F0 F ((s.put l B).set o.dst .any) a w o := by
  intro l B wn hs hd hr
  exact ⟨undef, wn, g, hs.set? hd (by simp [RepAV]), .inr ⟨rfl, by simp [execOp, hop, hr]⟩⟩
 unfold kv0 at ho
 split at ho
 ·rename_i ti l off xs ht hpv hxs
  obtain ⟨info, z, d, ok⟩ := hT _ _ ht
  split at ho
  ·rename_i cells hl
   split at ho
   ·rename_i hfit
    obtain ⟨rfl, rfl⟩ := Prod.mk.inj (Option.some.inj ho)
    rw [hpv] at Ep
    simp only [RepAV, RepAC] at Ep
    obtain ⟨_, B, hB, hq⟩ := Ep
    rw [hl] at hB
    obtain rfl := Option.some.inj hB
    simp only [za0] at hq
    obtain ⟨cs, ee, hh, hr, hds⟩ := h.lb l _ hl
    have hxr := Ex.cs hxs
    have hlx := RepACs.len _ _ hxr
    have hlc := RepACs.len _ _ hr
    simp only [Array.length_toList] at hlx
    have hsoft := h.so l _ hl
    simp only [SoftOk] at hsoft
    have hrun := vy0 (P := P) (w := w) ok (g.bl l) off (a.eval x) (by omega) hh (by simp; omega) hxr.ones
    rw [← hq] at hrun
    have hst := xB0 (w := w) hsoft (cs.take off ++ ((a.eval x).cells.toList ++ cs.drop (off + (a.eval x).cells.toList.length))).toArray
    refine put (wn := w.setRow (g.bl l) (cs.take off ++ ((a.eval x).cells.toList ++ cs.drop (off + (a.eval x).cells.toList.length))).toArray) ?_ hk hrun
    refine h.turn hl ⟨fun _ _ h => h, fun _ _ h => h, fun _ _ _ _ h => h, fun _ _ h => h⟩ hst (fun k hk' => setRow_other w _ k _ (fun e => hk' (by rw [hds]; simp [e]))) (by simp) rfl rfl rfl ?_ (by simpa [SoftOk] using hsoft)
    intro K
    exact ⟨_, ee, setRow_heap w (g.bl l) cs.toArray _ ee (0, 0) hh, RepACs.mono hst K _ _ (hr.splice hxr off), hds⟩
   ·cases ho
  ·cases ho
 ·rename_i ti l n i off xs ht hpv hxs
  obtain ⟨info, z, d, ok⟩ := hT _ _ ht
  split at ho
  ·rename_i ee sz rows hl
   split at ho
   ·rename_i hfit
    obtain ⟨hx1, hx2, hn⟩ := hfit
    obtain ⟨rfl, rfl⟩ := Prod.mk.inj (Option.some.inj ho)
    rw [hpv] at Ep
    simp only [RepAV, RepAC] at Ep
    obtain ⟨_, B, hB, hq⟩ := Ep
    rw [hl] at hB
    obtain rfl := Option.some.inj hB
    simp only [zx0] at hq
    obtain ⟨hi, b, cap, hhd, hpe⟩ := hq.2 hn
    obtain ⟨hsz, hrl, us, S, hown, hcells, hds⟩ := h.lb l _ hl
    have hxr := Ex.cs hxs
    have hlx := RepACs.len _ _ hxr
    simp only [Array.length_toList] at hlx
    have hsoft := h.so l _ hl
    simp only [SoftOk] at hsoft
    have hsoftb : ∀ q, ¬ F b q := fun q => hsoft.1 b (by rw [hhd]; simp [zV0, Value.ownBlock]) q (by simp)
    obtain ⟨hul, hrow⟩ := hown
    rcases hrow with ⟨k1, k2⟩ | ⟨g1, cap1, cur, k1, _, hh, hle, hcm, hcs, htk⟩
    ·omega
    rw [hhd] at k1
    simp only [Value.slice.injEq, Option.some.injEq, Addr.mk.injEq] at k1
    obtain ⟨⟨rfl, _⟩, _, rfl⟩ := k1
    obtain ⟨f1, f2⟩ := yg0 rows i (splice (rows.getD i []) off xs) (by omega)
    obtain ⟨_, hrlen, hbd⟩ := jx0 rows i hrl (by omega)
    have hfl := qq0 rows hrl
    have hislt : i * sz + sz ≤ rows.length * sz := by rw [← Nat.succ_mul]; exact Nat.mul_le_mul_right _ (by omega)
    have hcapsz : rows.length * sz ≤ cap * sz := Nat.mul_le_mul_right _ hle
    rw [f1] at hcells
    obtain ⟨uA, uR, SA, SR, rfl, rfl, cA, cR⟩ := RepCells.append_inv _ _ _ _ hcells
    obtain ⟨uM, uB, SM, SB, rfl, rfl, cM, cB⟩ := RepCells.append_inv _ _ _ _ cR
    have lA : uA.length = i * sz := by
     rw [← RepCells.len _ _ _ cA, qq0 (rows.take i) (fun r hr => hrl r (List.mem_of_mem_take hr))]
     rw [List.length_take, Nat.min_eq_left (by omega)]
    have lM : uM.length = sz := by rw [← RepCells.len _ _ _ cM, hrlen]
    have hsp : rows.getD i [] = (rows.getD i []).take off ++ (((rows.getD i []).drop off).take xs.length ++ (rows.getD i []).drop (off + xs.length)) := by
     rw [← List.drop_drop, List.take_append_drop, List.take_append_drop]
    have cM' := cM
    rw [hsp] at cM'
    obtain ⟨v1, v23, T1, T23, hv1, rfl, c1, c23⟩ := RepCells.append_inv _ _ _ _ cM'
    obtain ⟨v2, v3, T2, T3, rfl, rfl, c2, c3⟩ := RepCells.append_inv _ _ _ _ c23
    obtain ⟨rfl, rM⟩ := RepCells.plain _ _ _ hp c2
    have l1 : v1.length = off := by rw [← RepCells.len _ _ _ c1, List.length_take, hrlen]; omega
    have l2 : v2.length = xs.length := by rw [← RepCells.len _ _ _ c2, List.length_take, List.length_drop, hrlen]; omega
    have hlx' : (a.eval x).cells.toList.length = xs.length := by simpa using hlx.symm
    have hm1 : uM.take off = v1 := by rw [hv1]; exact List.take_left' l1
    have hm2 : uM.drop (off + (a.eval x).cells.toList.length) = v3 := by
     rw [hv1, ← List.append_assoc]; exact List.drop_left' (by rw [List.length_append, l1, l2, hlx'])
    have hrun := vy0 (P := P) (w := w) ok b (i * sz + off) (a.eval x) (by omega) hh (by rw [hcs]; omega) hxr.ones
    rw [← hpe] at hrun
    have hst := xB0 (w := w) hsoftb (cur.toList.take (i * sz + off) ++ ((a.eval x).cells.toList ++ cur.toList.drop (i * sz + off + (a.eval x).cells.toList.length))).toArray
    refine put (wn := w.setRow b (cur.toList.take (i * sz + off) ++ ((a.eval x).cells.toList ++ cur.toList.drop (i * sz + off + (a.eval x).cells.toList.length))).toArray) ?_ hk hrun
    have hbl : zV0 (g.hd l) = [b] := by rw [hhd]; simp [zV0, Value.ownBlock]
    refine h.turn hl ⟨fun n u hq => by simpa [zK0] using hq, fun _ _ h => h, fun n i off u hq => by simpa [zx0] using hq, fun _ _ h => h⟩ hst (fun k hk' => setRow_other w _ k _ (fun e => hk' (by rw [hds, hbl]; simp [e]))) (by simp) rfl rfl rfl ?_
     ⟨by simpa using hsoft.1, fun _ hn => hsoft.2 trivial (kO1 (by omega) hp hn)⟩
    intro K
    have hSown : ∀ k, k ∈ SA ++ ((T1 ++ T3) ++ SB) → k ≠ b := by
     intro k hk' e
     have hnd := h.nd l _ hl
     rw [hds, hbl] at hnd
     simp only [List.nil_append, List.singleton_append, List.nodup_cons] at hnd
     refine hnd.1 (e ▸ ?_)
     simp only [List.mem_append, List.nil_append] at hk' ⊢
     rcases hk' with hk' | (hk' | hk') | hk' <;> simp [hk']
    refine ⟨hsz, fun r hr => ?_, uA ++ ((uM.take off ++ ((a.eval x).cells.toList ++ uM.drop (off + (a.eval x).cells.toList.length))) ++ uB), SA ++ ((T1 ++ T3) ++ SB), ?_, ?_, by simpa using hds⟩
    ·rcases List.mem_or_eq_of_mem_set hr with hr | rfl
     ·exact hrl r hr
     ·unfold splice; simp only [List.length_append, List.length_take, List.length_drop, hrlen]; omega
    ·refine ⟨?_, .inr ⟨b, cap, _, by rw [hhd]; simp [hn], Nat.zero_le _, setRow_heap w b cur _ ee (0, 0) hh, by simpa using hle, hcm, ?_, ?_⟩⟩
     ·simp only [List.length_append, List.length_take, List.length_drop, List.length_set, lA, lM, Array.length_toList] at hul ⊢
      omega
     ·simp only [List.size_toArray, List.length_append, List.length_take, List.length_drop, Array.length_toList]
      omega
     ·have hcl : cur.toList = (uA ++ (uM ++ uB)) ++ cur.toList.drop (rows.length * sz) := by rw [← htk, List.take_append_drop]
      generalize cur.toList.drop (rows.length * sz) = D at hcl
      simp only [List.length_set]
      rw [hcl]
      have e1 : (uA ++ (uM ++ uB) ++ D).take (i * sz + off) = uA ++ uM.take off := by
       rw [List.append_assoc, List.take_append, lA, List.take_of_length_le (by omega), show i * sz + off - i * sz = off by omega, List.append_assoc, List.take_append_of_le_length (by omega)]
      have e2 : (uA ++ (uM ++ uB) ++ D).drop (i * sz + off + (a.eval x).cells.toList.length) = uM.drop (off + (a.eval x).cells.toList.length) ++ (uB ++ D) := by
       rw [List.append_assoc, List.drop_append, lA, List.drop_eq_nil_of_le (by omega), List.nil_append, show i * sz + off + (a.eval x).cells.toList.length - i * sz = off + (a.eval x).cells.toList.length by omega, List.append_assoc, List.drop_append_of_le_length (by simp; omega)]
      rw [e1, e2]
      have lU : (uA ++ (uM ++ uB)).length = rows.length * sz := hul
      simp only [List.length_append] at lU
      have : (uA ++ uM.take off ++ ((a.eval x).cells.toList ++ (uM.drop (off + (a.eval x).cells.toList.length) ++ (uB ++ D)))) =
        (uA ++ ((uM.take off ++ ((a.eval x).cells.toList ++ uM.drop (off + (a.eval x).cells.toList.length))) ++ uB)) ++ D := by simp
      rw [this]
      refine List.take_left' ?_
      simp only [List.length_append, List.length_take, List.length_drop, Array.length_toList]
      omega
    ·rw [f2]
     have keep : ∀ k, k ∈ SA ++ ((T1 ++ T3) ++ SB) → (w.setRow b (cur.toList.take (i * sz + off) ++ ((a.eval x).cells.toList ++ cur.toList.drop (i * sz + off + (a.eval x).cells.toList.length))).toArray).heap[k]? = w.heap[k]? := fun k hk' => setRow_other w b k _ (hSown k hk')
     refine RepCells.append _ _ _ _ _ _ (RepCells.mono hst K _ _ _ (fun k hk' => keep k (by simp [hk'])) cA) ?_
     refine RepCells.append _ _ _ _ _ _ ?_ (RepCells.mono hst K _ _ _ (fun k hk' => keep k (by simp [hk'])) cB)
     rw [hm1, hm2]
     unfold splice
     refine RepCells.append _ _ _ _ _ _ (RepCells.mono hst K _ _ _ (fun k hk' => keep k (by simp [hk'])) c1) ?_
     have := RepCells.append _ _ _ _ _ _ (RepACs.cells _ _ (RepACs.mono hst K _ _ hxr)) (RepCells.mono hst K _ _ _ (fun k hk' => keep k (by simp [hk'])) c3)
     simpa [splice] using this
   ·cases ho
  ·cases ho
 ·cases ho
end Go.Ai
namespace Go.Ai
open Go.RowKit
variable {P : Program} {tab : Tab} {w0 : World} {M0 : Ms} {F0 F : Fz} {g : Gh} {s : St} {a : Act} {w w' : World} {lb : Lk}
theorem RdRows.cells {b sz : Nat} : ∀ (rows : List (List C)) (o : Nat), RdRows w F b sz o rows → ∃ us, RepACs w F lb g (rows.map (fun r => r.map AC.c)).flatten us ∧ ∀ (j : Nat) u, us[j]? = some u → w.cell? ⟨b, o + j, none⟩ = some u
 | [], _, _ => ⟨[], by simp [RepACs], fun j u h => by simp at h⟩
 | r :: rs, o, h => by
  simp only [RdRows] at h
  obtain ⟨u1, h1, h2⟩ := RdCells.cell (lb := lb) (g := g) r o h.2.1
  obtain ⟨u2, h3, h4⟩ := RdRows.cells rs (o + sz) h.2.2
  have hl : u1.length = sz := by rw [← RepACs.len _ _ h1]; simp [h.1]
  refine ⟨u1 ++ u2, by simpa using h1.append h3, fun j u hj => ?_⟩
  rw [List.getElem?_append] at hj
  split at hj
  ·exact h2 j u hj
  ·have := h4 _ u hj
   rwa [show o + sz + (j - u1.length) = o + j by omega] at this
theorem pT0 (rows : List (List AC)) : (rows.map fun r => r.map unD).flatten = rows.flatten.map unD := by
 induction rows with
 | nil => rfl
 | cons r rs ih => simp only [List.map_cons, List.flatten_cons, ih, List.map_append]
theorem vW0 (h : Sim w0 M0 F0 F g s a w) {y : AV} {u : Value} (hu : RepAV w F s.lb g y u) {more : List (List AC)} (hm : pV0 s.lb y = some more) (hpos : 0 < more.length) :
  ∃ ad c news, u = .slice (some ad) more.length c ∧ RepACs w F s.lb g more.flatten news ∧ ∀ (j : Nat) v, news[j]? = some v → w.cell? (ad.add j) = some v := by
 unfold pV0 at hm
 split at hm
 ·rename_i rows
  obtain rfl := Option.some.inj hm
  simp only [RepAV, RepAC, Rd] at hu
  obtain ⟨A, cap, sz, rfl, h2, h3, h4, h5, h6⟩ := hu
  simp only [List.length_map] at hpos ⊢
  cases A with
  | none => have := h5 rfl; omega
  | some A =>
   obtain ⟨k1, k2⟩ := h6 A rfl
   have k1 := k1 (by omega)
   obtain ⟨b, o, sp⟩ := A
   simp at k1; subst k1
   obtain ⟨us, k3, k4⟩ := RdRows.cells (lb := s.lb) (g := g) rows o k2
   exact ⟨⟨b, o, none⟩, cap, us, rfl, k3, fun j v hj => by rw [wA0]; exact k4 j v hj⟩
 ·obtain rfl := Option.some.inj hm
  simp at hpos
 ·obtain rfl := Option.some.inj hm
  simp at hpos
 ·obtain rfl := Option.some.inj hm
  simp at hpos
 ·rename_i l n
  split at hm
  ·rename_i e sz rows fz hl
   split at hm
   ·rename_i hn
    obtain rfl := Option.some.inj hm
    simp only [RepAV, RepAC] at hu
    obtain ⟨_, B, hB, hq⟩ := hu
    rw [hl] at hB
    obtain rfl := Option.some.inj hB
    simp only [zK0] at hq
    have hux := hq.2 hn
    obtain ⟨_, _, xs, S, hown, hcells, _⟩ := h.lb l _ hl
    simp only [List.length_map] at hpos ⊢
    rcases hown.2 with ⟨k1, k2⟩ | ⟨gg, cap, cur, k1, _⟩
    ·omega
    ·refine ⟨⟨gg, 0, none⟩, cap, xs, by rw [hux, k1], ?_, hown.cells (g := gg) (by rw [k1]; rfl)⟩
     rw [pT0]
     exact RepCells.unD hcells
   ·cases hm
  ·cases hm
 ·cases hm
theorem cR0 (A : Option Addr) (w : World) (t ty e : TypeId) (i : TypeInfo) (z : Value) (ht : P.underlying t = some (.slice e)) (hi : P.info? e = some i) (hz : i.zero = some z)
  (a : Addr) (n c : Nat) (news : List Value) (hl : news.length = n * i.size) (hnews : ∀ j v, news[j]? = some v → w.cell? (a.add j) = some v)
  (h0 : 0 < n) (h63 : (n : Int) ≤ 9223372036854775807) (h48 : n * i.bytes ≤ 281474976710656) :
  (Builtin.append_ #[t, t] ty #[.slice A 0 0, .slice (some a) n c]).run P w =
   .ok (.slice (some ⟨w.heap.size, 0, none⟩) n (grownCap w n 0 e)) (w.drew.alloc (.cells (news.toArray ++ Builtin.zeroCells z.cells (grownCap w n 0 e - n)) e)) := by
 cases A with
 | none => exact run_append_nil w t ty e i z ht hi hz a n c news hl hnews h0 h63 h48
 | some b =>
  have hr := run_append_grow (P := P) w t ty e i z ht hi hz b 0 0 [] (by simp) (by simp) a n c news hl hnews (by omega) (by simpa using h63) (by rw [Nat.zero_add, nextslicecap_zero h0]; omega)
  simpa using hr
theorem bR0 (hT : zU0 P tab) (h : Sim w0 M0 F0 F g s a w) {o : Oper} {t e : TypeId} {x y : Operand} {sz0 by0 : Nat} {zero0 : List AC} (ht : tab t = some ⟨.slice e, sz0, by0, zero0⟩)
  (hop : o.op = .call { callee := .builtin .append, args := #[x, y], argTypes := #[t, t] }) {pr : Prop} {ef : Eff} (ho : yz0 tab s.lb (o.dst.getD 0) e (opv s x) (opv s y) = some (pr, ef)) (hp : pr) (hk : ef.ok o.dst s) :
  yx1 P w0 M0 F0 F (ef.app o.dst s) a w o := by
 have E := zm0 h
 have Ex := E x
 have Ey := E y
 obtain ⟨info, z, d, okt⟩ := hT _ _ ht
 have hd := okt.desc
 cases d <;> simp only [zX0, beq_iff_eq, Bool.false_eq_true] at hd
 subst hd
 have run : ∀ {v : Value} {wn : World}, (Builtin.append_ #[t, t] o.type #[a.eval x, a.eval y]).run P w = .ok v wn → (execOp a.eval o).run P w = .ok (.value v) wn := by
  intro v wn hr
  simp [execOp, hop, resolve, invoke, builtin, hr]
 unfold yz0 at ho
 split at ho
 ·cases ho
 ·rename_i ti hte
  obtain ⟨info2, z2, d2, ok2⟩ := hT _ _ hte
  have hzl : z2.cells.size = info2.size := by
   have := RepACs.len _ _ (vD0 (w := w) (F := F) (lb := s.lb) (g := g) ok2)
   rw [ok2.size, ← ok2.len, this]; simp
  have run0 : ∀ {A : Option Addr} {n cap : Nat} {B : Option Addr} {c : Nat}, n ≤ cap → (Builtin.append_ #[t, t] o.type #[.slice A n cap, .slice B 0 c]).run P w = .ok (.slice A n cap) w := by
   intro A n cap B c hnc
   cases A <;> cases B <;> simp [Builtin.append_, run_underlying okt.und, sizeOf, typeInfo, ok2.inf, Builtin.lenOf, hnc, Builtin.firstCells, loadCells, loadCellsFrom, storeCells]
  have nomore : ∀ {u : Value}, RepAV w F s.lb g (opv s y) u → pV0 s.lb (opv s y) = some [] → ∃ B c, u = .slice B 0 c := by
   intro u hu hm
   unfold pV0 at hm
   split at hm
   ·rename_i rows hy
    have : rows = [] := by simpa using hm
    subst this
    rw [hy] at hu
    simp only [RepAV, RepAC, Rd] at hu
    obtain ⟨A, cap, sz, rfl, _⟩ := hu
    exact ⟨A, cap, rfl⟩
   ·rename_i hy
    rw [hy] at hu
    simp only [RepAV, RepAC] at hu
    exact ⟨none, 0, hu⟩
   ·rename_i hy
    rw [hy] at hu
    simp only [RepAV, RepAC] at hu
    obtain ⟨q, cap, rfl, _⟩ := hu
    exact ⟨some q, cap, rfl⟩
   ·rename_i hy
    rw [hy] at hu
    simp only [RepAV, RepAC] at hu
    obtain ⟨q, rfl⟩ := hu
    exact ⟨q, 0, rfl⟩
   ·rename_i l n hy
    split at hm
    ·rename_i e sz rows fz hl
     split at hm
     ·rename_i hn
      have : rows = [] := by simpa using hm
      subst this
      rw [hy] at hu
      simp only [RepAV, RepAC] at hu
      obtain ⟨_, B, hB, hq⟩ := hu
      rw [hl] at hB
      obtain rfl := Option.some.inj hB
      rw [hq.2 hn]
      obtain ⟨_, _, xs, S, hown, _⟩ := h.lb l _ hl
      rcases hown.2 with ⟨h1, h2⟩ | ⟨gg, cap, cur, h1, _⟩
      ·exact ⟨none, 0, h1⟩
      ·exact ⟨_, cap, h1⟩
     ·cases hm
    ·cases hm
   ·cases hm
  split at ho
  ·rename_i l n hx
   rw [hx] at Ex
   split at ho
   ·rename_i more e' sz rows fz hm hl
    split at ho
    ·rename_i hc
     obtain ⟨rfl, hsz, hn⟩ := hc
     obtain ⟨rfl, rfl⟩ := Prod.mk.inj (Option.some.inj ho)
     obtain ⟨hp2, hp3, hp4⟩ := hp
     rcases Nat.eq_zero_or_pos more.length with h0 | hp1
     ·obtain rfl := List.eq_nil_of_length_eq_zero h0
      obtain ⟨B, c, hy⟩ := nomore Ey hm
      have Ex' := Ex
      simp only [RepAV, RepAC] at Ex
      obtain ⟨_, B0, hB, hq⟩ := Ex
      rw [hl] at hB
      obtain rfl := Option.some.inj hB
      have hxv := hq.2 hn
      obtain ⟨_, _, xs, S, hown, _⟩ := h.lb l _ hl
      have hsl : ∃ A m cap, a.eval x = .slice A m cap ∧ m ≤ cap := by
       rcases hown.2 with ⟨h1, h2⟩ | ⟨gg, cap, cur, h1, _, _, hle, _⟩
       ·exact ⟨none, 0, 0, by rw [hxv, h1], Nat.le_refl _⟩
       ·exact ⟨_, _, cap, by rw [hxv, h1], hle⟩
      obtain ⟨A, m, cap, hxe, hle⟩ := hsl
      have hsame : s.put l (.arr e sz (rows ++ []) fz) = s := by
       obtain ⟨sn, ssl, slb, sgh⟩ := s
       simp only [St.put, St.mk.injEq, true_and, and_true, List.append_nil]
       funext k
       split
       ·rename_i e; subst e; exact hl.symm
       ·rfl
      refine ⟨a.eval x, w, g, ?_, .inl (run ?_)⟩
      ·simp only [Eff.app, hsame]
       exact h.set? hk Ex'
      ·rw [hy, hxe]; exact run0 hle
     obtain ⟨ad, c, news, hy, hrep, hcell⟩ := vW0 h Ey hm hp1
     simp only [RepAV, RepAC] at Ex
     obtain ⟨_, B, hB, hq⟩ := Ex
     rw [hl] at hB
     obtain rfl := Option.some.inj hB
     simp only [zK0] at hq
     have hxv := hq.2 hn
     have hsz' : sz = info2.size := by rw [hsz, ok2.size]
     subst hsz'
     obtain ⟨v', w', g', hr, hs, hhd⟩ := h.app (P := P) hl t o.type okt.und ok2.inf ok2.zero hzl (fun r hr => by rw [hp2 r hr, ok2.size]) hp1 ad c news hrep hcell (by simp only [maxLen]; omega) (by rw [ok2.bytes]; exact hp3)
     refine ⟨v', w', g', ?_, .inl (run (by rw [hxv, hy]; exact hr))⟩
     refine hs.set? hk ?_
     simp only [RepAV, RepAC]
     obtain ⟨_, _, xs', S', hown', _⟩ := hs.lb l (.arr e info2.size (rows ++ more) fz) (by simp [St.put_lb])
     refine ⟨?_, _, by simp [St.put_lb]; rfl, ?_⟩
     ·rw [← hhd]
      rcases hown'.2 with ⟨k1, _⟩ | ⟨_, _, _, k1, _⟩ <;> rw [k1] <;> rfl
     ·simp only [zK0, List.length_append]
      exact ⟨by omega, fun _ => hhd.symm⟩
    ·cases ho
   ·cases ho
  ·rename_i hx
   rw [hx] at Ex
   split at ho
   ·rename_i hm
    obtain ⟨rfl, rfl⟩ := Prod.mk.inj (Option.some.inj ho)
    obtain ⟨B, c, hy⟩ := nomore Ey hm
    have Ex' := Ex
    simp only [RepAV, RepAC] at Ex
    refine ⟨a.eval x, w, g, h.set? hk Ex', .inl (run ?_)⟩
    rw [hy, Ex]; exact run0 (Nat.le_refl _)
   ·rename_i m0 more0 hm
    generalize hmm : m0 :: more0 = more at hm ho
    split at ho
    case isFalse => cases ho
    rename_i hpos
    obtain ⟨rfl, rfl⟩ := Prod.mk.inj (Option.some.inj ho)
    obtain ⟨hp1, hp2, hp3, hp4⟩ := hp
    obtain ⟨dd, hdst, hdn, hdf⟩ := hk
    obtain ⟨ad, c, news, hy, hrep, hcell⟩ := vW0 h Ey hm hp1
    simp only [RepAV, RepAC] at Ex
    have hlf := qq0 more hp2
    have hnl := RepACs.len _ _ hrep
    have hr := run_append_nil (P := P) w t o.type e info2 z2 okt.und ok2.inf ok2.zero ad more.length c news (by rw [ok2.size]; omega) hcell hp1 (by omega) (by rw [ok2.bytes]; omega)
    have hge := grownCap_ge w more.length 0 e
    have hcm := grownCap_le_maxLen w more.length 0 e (by simp only [maxLen]; omega)
    obtain ⟨g', hs, hhd, _⟩ := h.drew.newRow (d := dd) (e := e) (sz := ti.size) (rows := more) (cs := (news.toArray ++ Builtin.zeroCells z2.cells (grownCap w more.length 0 e - more.length)).toList) (cap := grownCap w more.length 0 e) hdf hpos hp2 hge hcm
     (by simp only [Array.length_toList, Array.size_append, List.size_toArray, size_zeroCells, hzl, ok2.size, ← hnl, hlf, ← Nat.add_mul]; congr 1; omega)
     (by
      rw [Array.toList_append, List.take_append_of_le_length (by simp; omega), List.take_of_length_le (by simp; omega)]
      have := RepACs.mono (w := w) (w' := w.drew) (F := F) (F' := F) ⟨fun _ _ h => h, fun _ _ _ => rfl⟩ (Keeps.refl s.lb g) _ _ hrep
      simpa using this)
    rw [Array.toArray_toList] at hs
    refine ⟨_, _, g', ?_, .inl (run (by rw [Ex, hy]; exact hr))⟩
    simp only [hdst, Option.getD_some, Eff.app]
    refine hs.set hdn ?_
    simp only [RepAV, RepAC]
    exact ⟨rfl, _, by simp [St.put_lb]; rfl, by simp only [zK0]; exact ⟨Nat.le_refl _, fun _ => hhd.symm⟩⟩
   ·cases ho
  ·rename_i hx
   rw [hx] at Ex
   split at ho
   ·rename_i hm
    obtain ⟨rfl, rfl⟩ := Prod.mk.inj (Option.some.inj ho)
    obtain ⟨B, c, hy⟩ := nomore Ey hm
    have Ex' := Ex
    simp only [RepAV, RepAC] at Ex
    obtain ⟨A0, Ex⟩ := Ex
    refine ⟨a.eval x, w, g, h.set? hk Ex', .inl (run ?_)⟩
    rw [hy, Ex]; exact run0 (Nat.le_refl _)
   ·rename_i m0 more0 hm
    generalize hmm : m0 :: more0 = more at hm ho
    split at ho
    case isFalse => cases ho
    rename_i hpos
    obtain ⟨rfl, rfl⟩ := Prod.mk.inj (Option.some.inj ho)
    obtain ⟨hp1, hp2, hp3, hp4⟩ := hp
    obtain ⟨dd, hdst, hdn, hdf⟩ := hk
    obtain ⟨ad, c, news, hy, hrep, hcell⟩ := vW0 h Ey hm hp1
    simp only [RepAV, RepAC] at Ex
    have hlf := qq0 more hp2
    have hnl := RepACs.len _ _ hrep
    obtain ⟨A0, Ex⟩ := Ex
    have hr := cR0 (P := P) A0 w t o.type e info2 z2 okt.und ok2.inf ok2.zero ad more.length c news (by rw [ok2.size]; omega) hcell hp1 (by omega) (by rw [ok2.bytes]; omega)
    have hge := grownCap_ge w more.length 0 e
    have hcm := grownCap_le_maxLen w more.length 0 e (by simp only [maxLen]; omega)
    obtain ⟨g', hs, hhd, _⟩ := h.drew.newRow (d := dd) (e := e) (sz := ti.size) (rows := more) (cs := (news.toArray ++ Builtin.zeroCells z2.cells (grownCap w more.length 0 e - more.length)).toList) (cap := grownCap w more.length 0 e) hdf hpos hp2 hge hcm
     (by simp only [Array.length_toList, Array.size_append, List.size_toArray, size_zeroCells, hzl, ok2.size, ← hnl, hlf, ← Nat.add_mul]; congr 1; omega)
     (by
      rw [Array.toList_append, List.take_append_of_le_length (by simp; omega), List.take_of_length_le (by simp; omega)]
      have := RepACs.mono (w := w) (w' := w.drew) (F := F) (F' := F) ⟨fun _ _ h => h, fun _ _ _ => rfl⟩ (Keeps.refl s.lb g) _ _ hrep
      simpa using this)
    rw [Array.toArray_toList] at hs
    refine ⟨_, _, g', ?_, .inl (run (by rw [Ex, hy]; exact hr))⟩
    simp only [hdst, Option.getD_some, Eff.app]
    refine hs.set hdn ?_
    simp only [RepAV, RepAC]
    exact ⟨rfl, _, by simp [St.put_lb]; rfl, by simp only [zK0]; exact ⟨Nat.le_refl _, fun _ => hhd.symm⟩⟩
   ·cases ho
  ·cases ho
theorem le0 (hT : zU0 P tab) (h : Sim w0 M0 F0 F g s a w) {o : Oper} {c : Call} (hop : o.op = .call c) {pr : Prop} {e : Eff} (ho : xO0 tab o s c = some (pr, e)) (hp : pr) (hk : e.ok o.dst s) :
  yx1 P w0 M0 F0 F (e.app o.dst s) a w o := by
 obtain ⟨callee, args, ts⟩ := c
 unfold xO0 at ho
 split at ho
 ·rename_i hc
  simp only at hc
  subst hc
  split at ho
  ·rename_i x y t t' ha ht
   split at ho
   ·rename_i ee _ _ _ htt
    split at ho
    ·rename_i he
     subst he
     have ha' : args.toList = [x, y] := ha
     have ht' : ts.toList = [t, t] := ht
     clear ha ht
     obtain rfl : args = #[x, y] := Array.toList_inj.1 ha'
     obtain rfl : ts = #[t, t] := Array.toList_inj.1 ht'
     exact bR0 hT h htt hop ho hp hk
    ·cases ho
   ·cases ho
  ·cases ho
 ·cases hq : wz0 tab s ⟨callee, args, ts⟩ with
  | none => rw [hq] at ho; cases ho
  | some r =>
   obtain ⟨p, v⟩ := r
   rw [hq] at ho
   obtain ⟨rfl, rfl⟩ := Prod.mk.inj (Option.some.inj ho)
   obtain ⟨u, hu, hv⟩ := pf0 (P := P) hT h (o := o) (pr := p) (v := v) (by unfold jO0; rw [hop]; exact hq) hp
   exact ⟨u, w, g, h.set? hk hv, .inl hu⟩
theorem sk0 (hT : zU0 P tab) (h : Sim w0 M0 F0 F g s a w) {o : Oper} {pr : Prop} {e : Eff} (ho : kQ0 tab o s = some (pr, e)) (hp : pr) (hk : e.ok o.dst s) :
  yx1 P w0 M0 F0 F (e.app o.dst s) a w o := by
 have E := zm0 h
 have pure_ : ∀ {p : Prop} {v : AV}, (jO0 tab o s).map (fun (p, v) => (p, Eff.val v)) = some (pr, e) → yx1 P w0 M0 F0 F (e.app o.dst s) a w o := by
  intro p v hq
  cases hf : jO0 tab o s with
  | none => rw [hf] at hq; cases hq
  | some r =>
   obtain ⟨p, v⟩ := r
   rw [hf] at hq
   obtain ⟨rfl, rfl⟩ := Prod.mk.inj (Option.some.inj hq)
   obtain ⟨u, hu, hv⟩ := pf0 (P := P) hT h hf hp
   exact ⟨u, w, g, h.set? hk hv, .inl hu⟩
 unfold kQ0 at ho
 split at ho
 ·rename_i t hop
  cases ht : tab t with
  | none => rw [ht] at ho; cases ho
  | some ti =>
   rw [ht] at ho
   obtain ⟨rfl, rfl⟩ := Prod.mk.inj (Option.some.inj ho)
   obtain ⟨info, z, d, ok⟩ := hT _ _ ht
   obtain ⟨dd, hd, hn, hf⟩ := hk
   have hz := vD0 (w := w) (F := F) (lb := s.lb) (g := g) ok
   simp only [hd, Option.getD_some, Eff.app]
   refine df0 h hd hn hf t hz ?_
   simp [execOp, hop, Instr.alloc, zeroValue, typeInfo, ok.inf, ok.zero, newVar, newRow]
 ·rename_i t x hop
  cases hx : (opv s x).cs with
  | none => rw [hx] at ho; cases ho
  | some cs =>
   rw [hx] at ho
   obtain ⟨rfl, rfl⟩ := Prod.mk.inj (Option.some.inj ho)
   obtain ⟨dd, hd, hn, hf⟩ := hk
   simp only [hd, Option.getD_some, Eff.app]
   refine df0 h hd hn hf t ((E x).cs hx) ?_
   simp [execOp, hop, Instr.box, newVar, newRow]
 ·rename_i t len parts hop
  split at ho
  ·rename_i ee _ _ _ ht
   split at ho
   ·rename_i ti hte
    split at ho
    ·rename_i hsz
     obtain ⟨hsz, hlim⟩ := hsz
     obtain ⟨info, z, d, ok⟩ := hT _ _ ht
     have hdd := ok.desc
     cases d <;> simp only [zX0, beq_iff_eq, Bool.false_eq_true] at hdd
     subst hdd
     obtain ⟨info2, z2, d2, ok2⟩ := hT _ _ hte
     cases hfl : jv0 (fun i => some (i * ti.size, ti.size)) (List.replicate len ti.zero).flatten (parts.toList.map fun (i, x) => (i, opv s x)) with
     | none => rw [hfl] at ho; cases ho
     | some cs =>
      rw [hfl] at ho
      obtain ⟨rfl, rfl⟩ := Prod.mk.inj (Option.some.inj ho)
      obtain ⟨dd, hd, hn, hf⟩ := hk
      simp only [hd, Option.getD_some, Eff.app]
      have hzr := lG0 (w := w) (F := F) (lb := s.lb) (g := g) ok2 len
      obtain ⟨cs', k1, k2⟩ := jw0 (w := w) (F := F) (lb := s.lb) (g := g) (fun i => some (i * ti.size, ti.size)) (parts.toList.map fun (i, x) => (i, opv s x)) (parts.toList.map fun (i, x) => (i, a.eval x)) _ _ cs hzr (by simp)
       (fun i p q hi hq => by
        simp only [List.getElem?_map] at hi hq
        cases hx : parts.toList[i]? with
        | none => rw [hx] at hi; cases hi
        | some y =>
         rw [hx] at hi hq
         simp at hi hq
         subst hi hq
         exact ⟨rfl, E _⟩) hfl
      have hcl : cs.length = len * ti.size := by
       rw [dZ0 _ _ _ _ hfl, qq0 (sz := ti.size) _ (fun r hr => by rw [List.eq_of_mem_replicate hr]; exact ok2.len)]; simp
      obtain ⟨c1, c2, c3⟩ := dH0 ti.size len cs hcl
      have := de0 (P := P) h (o := o) (rows := jp0 ti.size len cs) (cs := cs'.toList) (cap := len) (e := ee) hd hn hf hsz c3 (by omega) (by
        rcases Nat.eq_zero_or_pos len with h0 | h0
        ·simp [h0]
        ·have := Nat.le_mul_of_pos_right len hsz
         simp only [maxLen]; omega)
       (by rw [← RepACs.len _ _ k2]; exact hcl) (by rw [c1, c2, List.take_of_length_le (by rw [← RepACs.len _ _ k2]; omega)]; exact k2) (by
        rw [c2, Array.toArray_toList]
        have hlim' : ¬ (16777216 < len * ti.size) := by omega
        have hk1 : Instr.fill (fun i => some (i * ti.size, ti.size)) ((Array.range (len * ti.size)).map (fun i => z2.cells[i % z2.cells.size]!)) (parts.toList.map fun (i, x) => (i, a.eval x)) = some cs' := k1
        by_cases h0 : len * ti.size = 0
        ·simp only [h0] at hk1
         have hr0 : ∀ f : Nat → Value, (Array.range 0).map f = #[] := by simp
         rw [hr0] at hk1
         simp [execOp, hop, Instr.buildSlice, run_underlying ok.und, sizeOf, typeInfo, ok2.inf, ok2.size, h0, hr0, hk1, newRow]
        ·simp [execOp, hop, Instr.buildSlice, run_underlying ok.und, sizeOf, typeInfo, ok2.inf, ok2.size, hlim', h0, zeroValue, ok2.zero, hk1, newRow])
      rw [c2] at this
      exact this
    ·cases ho
   ·cases ho
  ·cases ho
 ·rename_i t x y hop
  split at ho
  ·rename_i ee _ _ _ ht
   split at ho
   ·rename_i ti n m hte hx hy
    split at ho
    ·rename_i hsz
     obtain ⟨rfl, rfl⟩ := Prod.mk.inj (Option.some.inj ho)
     obtain ⟨rfl, hp0, hp1, hp2⟩ := hp
     obtain ⟨info, z, d, ok⟩ := hT _ _ ht
     have hdd := ok.desc
     cases d <;> simp only [zX0, beq_iff_eq, Bool.false_eq_true] at hdd
     subst hdd
     obtain ⟨info2, z2, d2, ok2⟩ := hT _ _ hte
     obtain ⟨dd, hd, hn, hf⟩ := hk
     simp only [hd, Option.getD_some, Eff.app]
     have ex := E x
     have ey := E y
     rw [hx] at ex
     rw [hy] at ey
     have ex := ex.c_v
     have ey := ey.c_v
     have hzr := lG0 (w := w) (F := F) (lb := s.lb) (g := g) ok2 n.toNat
     have hlen : ((Array.range (n.toNat * ti.size)).map (fun i => z2.cells[i % z2.cells.size]!)).toList.length = n.toNat * ti.size := by simp
     have := de0 (P := P) h (o := o) (rows := List.replicate n.toNat ti.zero) (cs := ((Array.range (n.toNat * ti.size)).map (fun i => z2.cells[i % z2.cells.size]!)).toList) (cap := n.toNat) (e := ee) hd hn hf hsz (fun r hr => by rw [List.eq_of_mem_replicate hr]; exact ok2.len) (by simp) (by simp only [maxLen]; omega) hlen
      (by rw [List.length_replicate, List.take_of_length_le (by rw [hlen]; exact Nat.le_refl _)]; exact hzr) (by
       rw [List.length_replicate, Array.toArray_toList]
       have hw : IntKind.i64.wrap n = n := IntWalk.i64_in _ (by omega)
       have hb1 : ¬ (n < 0) := by omega
       have hb2 : ¬ ((info2.bytes : Int) * n > 281474976710656) := by rw [ok2.bytes, Int.mul_comm]; omega
       by_cases h0 : n.toNat * ti.size = 0
       ·have : n = 0 := by
         rcases Nat.mul_eq_zero.1 h0 with h | h
         ·omega
         ·omega
        subst this
        have hr0 : ∀ f : Nat → Value, (Array.range 0).map f = #[] := by simp
        simp [hr0, execOp, hop, ex, ey, Instr.makeSlice, asInt, asIntOf, run_underlying ok.und, typeInfo, ok2.inf, sizeOf, hw, newRow]
       ·simp [execOp, hop, ex, ey, Instr.makeSlice, asInt, asIntOf, run_underlying ok.und, typeInfo, ok2.inf, sizeOf, hw, hb1, hb2, zeroValue, ok2.zero, newRow, ok2.size]
        exact fun hq => absurd hq h0)
     rw [List.length_replicate] at this
     exact this
    ·cases ho
   ·cases ho
  ·cases ho
 ·rename_i t p x hop
  exact gq0 hT h hop ho hp hk
 ·rename_i c hop
  exact le0 hT h hop ho hp hk
 ·exact pure_ (p := pr) (v := .any) ho
end Go.Ai
