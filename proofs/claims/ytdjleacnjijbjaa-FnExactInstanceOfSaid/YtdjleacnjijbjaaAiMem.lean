/- The operations that make or write memory. -/
import Derived.Test.YtdjleacnjijbjaaAiPure4
namespace Go.Ai
set_option linter.unusedVariables false
set_option linter.unusedSimpArgs false
open Go.RowKit

variable {P : Program} {tab : Tab} {w0 : World} {M0 : Ms} {F0 F : Fz} {g : Gh} {s : St} {a : Act} {w w' : World} {lb : Lk}

/-- One local is written in place: its own blocks turn, nothing else. -/
theorem Sim.turn (h : Sim w0 M0 F0 F g s a w) {l : Nat} {B B' : LB} (hl : s.lb l = some B)
    (hc : (∀ n u, okOwnB B (g.hd l) n u → okOwnB B' (g.hd l) n u) ∧ (∀ off u, okPtrB B (g.bl l) off u → okPtrB B' (g.bl l) off u) ∧
      (∀ n i off u, okEpB B (g.hd l) n i off u → okEpB B' (g.hd l) n i off u) ∧ (∀ i u, okTkB B (g.hd l) i u → okTkB B' (g.hd l) i u))
    (stays : Stays w w' F F) (hoth : ∀ k, k ∉ g.ds l → w'.heap[k]? = w.heap[k]?) (hsize : w'.heap.size = w.heap.size) (hos : w'.os = w.os) (htape : w'.tape = w.tape) (hout : w'.output = w.output)
    (hr : Keeps s.lb g (s.put l B').lb g → RepLB w' F (s.put l B').lb g l B') (hs : SoftOk F g l B') :
    Sim w0 M0 F0 F g (s.put l B') a w' := by
  have K : Keeps s.lb g (s.put l B').lb g := by
    constructor
    intro k Bk hB
    by_cases e : k = l
    · subst e
      rw [hl] at hB
      obtain rfl := Option.some.inj hB
      exact ⟨B', by simp [St.put_lb], hc⟩
    · exact ⟨Bk, by simp [St.put_lb, e, hB], fun _ _ h => h, fun _ _ h => h, fun _ _ _ _ h => h, fun _ _ h => h⟩
  have at_ : ∀ k Bk, k ≠ l → (s.put l B').lb k = some Bk → s.lb k = some Bk := fun k Bk hk hB => by simpa [St.put_lb, hk] using hB
  have at_l : ∀ Bk, (s.put l B').lb l = some Bk → Bk = B' := fun Bk hB => by simpa [St.put_lb, eq_comm] using hB
  have old : ∀ k Bk, (s.put l B').lb k = some Bk → ∃ Bo, s.lb k = some Bo := fun k Bk hB => by
    by_cases e : k = l
    · subst e; exact ⟨B, hl⟩
    · exact ⟨Bk, at_ k Bk e hB⟩
  exact {
    sz := h.sz
    df := h.df
    sl := fun i => RepAV.mono stays K _ _ (h.sl i)
    gh := RepAVs.mono stays K _ _ h.gh
    lb := fun k Bk hB => by
      by_cases e : k = l
      · subst e; rw [at_l Bk hB]; exact hr K
      · exact RepLB.mono stays K rfl rfl rfl (fun b hb => hoth b (fun hin => h.dj k l Bk B e (at_ k Bk e hB) hl b hb hin)) (h.lb k Bk (at_ k Bk e hB))
    so := fun k Bk hB => by
      by_cases e : k = l
      · subst e; rw [at_l Bk hB]; exact hs
      · exact h.so k Bk (at_ k Bk e hB)
    nd := fun k Bk hB => by obtain ⟨Bo, ho⟩ := old k Bk hB; exact h.nd k Bo ho
    dj := fun k k' Bk Bk' hkk hB hB' => by
      obtain ⟨Bo, ho⟩ := old k Bk hB
      obtain ⟨Bo', ho'⟩ := old k' Bk' hB'
      exact h.dj k k' Bo Bo' hkk ho ho'
    nw := fun k Bk hB => by obtain ⟨Bo, ho⟩ := old k Bk hB; rw [hsize]; exact h.nw k Bo ho
    f0 := h.f0
    f1 := h.f1
    f2 := by rw [hsize]; exact h.f2
    os := hos.trans h.os
    tape := htape.trans h.tape
    output := hout.trans h.output
    size := by rw [hsize]; exact h.size
    block := fun k hk hm => (hoth k (fun hin => by
      rcases (h.nw l B hl k hin).1 with q | q
      · omega
      · exact hm q)).trans (h.block k hk hm) }


def Goes (P : Program) (w0 : World) (M0 : Ms) (F0 F : Fz) (s' : St) (a : Act) (w : World) (o : Oper) : Prop :=
  ∃ v w' g', Sim w0 M0 F0 F g' s' (a.put o.dst v) w' ∧ ((execOp a.eval o).run P w = .ok (.value v) w' ∨ (v = undef ∧ (execOp a.eval o).run P w = .ok .skip w'))

theorem go_newVar (h : Sim w0 M0 F0 F g s a w) {o : Oper} {d : Nat} (hd : o.dst = some d) (hn : d < s.n) (hf : s.lb d = none) {cells : List AC} {cs : List Value} (e : TypeId) (hc : RepACs w F s.lb g cells cs)
    (hr : (execOp a.eval o).run P w = .ok (.value (.pointer (some ⟨w.heap.size, 0, none⟩))) (w.alloc (.cells cs.toArray e))) :
    Goes P w0 M0 F0 F ((s.put d (.var cells)).set (some d) (.one (.ptr d 0))) a w o := by
  obtain ⟨g', h1, h2, h3⟩ := h.newVar e hf hc
  refine ⟨_, _, g', ?_, .inl hr⟩
  rw [hd]
  refine h1.set hn ?_
  simp only [RepAV, RepAC]
  exact ⟨rfl, _, by simp [St.put_lb]; rfl, by simp [okPtrB, h2]⟩

theorem go_newRow (h : Sim w0 M0 F0 F g s a w) {o : Oper} {d : Nat} (hd : o.dst = some d) (hn : d < s.n) (hf : s.lb d = none) {e : TypeId} {sz : Nat} {rows : List (List AC)} {cs : List Value} {cap : Nat} (hsz : 0 < sz)
    (hrl : ∀ r, r ∈ rows → r.length = sz) (hcap : rows.length ≤ cap) (hmax : cap ≤ maxLen) (hlen : cs.length = cap * sz) (hc : RepACs w F s.lb g rows.flatten (cs.take (rows.length * sz)))
    (hr : (execOp a.eval o).run P w = .ok (.value (.slice (some ⟨w.heap.size, 0, none⟩) rows.length cap)) (w.alloc (.cells cs.toArray e))) :
    Goes P w0 M0 F0 F ((s.put d (.arr e sz rows false)).set (some d) (.one (.own d rows.length))) a w o := by
  obtain ⟨g', h1, h2, h3⟩ := h.newRow (e := e) hf hsz hrl hcap hmax hlen hc
  refine ⟨_, _, g', ?_, .inl hr⟩
  rw [hd]
  refine h1.set hn ?_
  simp only [RepAV, RepAC]
  exact ⟨rfl, _, by simp [St.put_lb]; rfl, by simp [okOwnB, h2]⟩

theorem range_zero (l : List Value) (k : Nat) (hk : l.length = k) : ∀ n, (List.range (n * k)).map (fun i => l.toArray[i % k]!) = (List.replicate n l).flatten
  | 0 => by simp
  | n + 1 => by
    rw [List.replicate_succ, List.flatten_cons, ← range_zero l k hk n, show (n + 1) * k = k + n * k by rw [Nat.add_mul]; omega, List.range_add, List.map_append, List.map_map]
    congr 1
    · apply List.ext_getElem
      · simp [hk]
      · intro i h1 h2
        simp at h1
        simp [Nat.mod_eq_of_lt h1, h2]
    · apply List.map_congr_left
      intro i _
      simp

theorem zero_rows {t : TypeId} {ti : TI} {info : TypeInfo} {z : Value} {d : TypeDesc} (ok : TI.Ok P t ti info z d) (n : Nat) :
    RepACs w F lb g (List.replicate n ti.zero).flatten (((Array.range (n * ti.size)).map (fun i => z.cells[i % z.cells.size]!)).toList) := by
  have hz := zero_rep (w := w) (F := F) (lb := lb) (g := g) ok
  have hsz : z.cells.toList.length = ti.size := by rw [← RepACs.len _ _ hz]; exact ok.len
  have hsz' : z.cells.size = ti.size := by simpa using hsz
  have := range_zero z.cells.toList ti.size hsz n
  rw [Array.toArray_toList] at this
  rw [Array.toList_map, Array.toList_range, hsz', this]
  induction n with
  | zero => simp [RepACs]
  | succ n ih => rw [List.replicate_succ, List.replicate_succ, List.flatten_cons, List.flatten_cons]; exact hz.append (ih (range_zero z.cells.toList ti.size hsz n ▸ (by rw [Array.toArray_toList])))

theorem chunks_ok (sz : Nat) : ∀ (n : Nat) (l : List AC), l.length = n * sz → (chunks sz n l).flatten = l ∧ (chunks sz n l).length = n ∧ ∀ r, r ∈ chunks sz n l → r.length = sz
  | 0, l, h => by simp at h; simp [chunks, h]
  | n + 1, l, h => by
    rw [Nat.add_mul] at h
    obtain ⟨h1, h2, h3⟩ := chunks_ok sz n (l.drop sz) (by simp; omega)
    refine ⟨by simp [chunks, h1], by simp [chunks, h2], fun r hr => ?_⟩
    rcases List.mem_cons.1 hr with rfl | hr
    · simp; omega
    · exact h3 r hr

theorem fillA_len (place : Nat → Option (Nat × Nat)) : ∀ (parts : List (Nat × AV)) (cells cells' : List AC), fillA place cells parts = some cells' → cells'.length = cells.length
  | [], _, _, h => by simp only [fillA] at h; rw [← Option.some.inj h]
  | (i, v) :: parts, cells, cells', h => by
    simp only [fillA] at h
    split at h
    · split at h
      · rw [fillA_len place parts _ _ h]
        unfold splice
        simp
        omega
      · cases h
    · cases h

end Go.Ai
