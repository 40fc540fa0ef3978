/- How a row of the call's own grows by append, and how a variable or a row's element is written. -/
import Derived.Test.YtdjleacnjijbjaaAiSim
namespace Go.Ai
set_option linter.unusedVariables false
set_option linter.unusedSimpArgs false
open Go.RowKit

variable {P : Program} {w0 : World} {M0 : Ms} {F0 F F' : Fz} {g g' : Gh} {s : St} {a : Act} {w w' : World}

/-- As 'Sim.grows', each local told for itself. -/
theorem Sim.world (h : Sim w0 M0 F0 F g s a w) (st : Stays w w' F F') (hlb : ∀ l B, s.lb l = some B → RepLB w' F' s.lb g l B) (so : ∀ l B, s.lb l = some B → SoftOk F' g l B)
    (f1 : ∀ b o, F' b o → F b o ∨ w0.heap.size ≤ b ∨ b ∈ M0) (f2 : ∀ b o, F' b o → b < w'.heap.size) (os : w'.os = w.os) (tape : w'.tape = w.tape) (output : w'.output = w.output)
    (size : w.heap.size ≤ w'.heap.size) (block : ∀ k, k < w0.heap.size → k ∉ M0 → w'.heap[k]? = w.heap[k]?) : Sim w0 M0 F0 F' g s a w' where
  sz := h.sz
  df := h.df
  sl := fun i => RepAV.mono st (Keeps.refl _ _) _ _ (h.sl i)
  gh := RepAVs.mono st (Keeps.refl _ _) _ _ h.gh
  lb := hlb
  so := so
  nd := h.nd
  dj := h.dj
  nw := fun l B hl b hb => ⟨(h.nw l B hl b hb).1, Nat.lt_of_lt_of_le (h.nw l B hl b hb).2 size⟩
  f0 := fun b o hb => st.up b o (h.f0 b o hb)
  f1 := fun b o hb => (f1 b o hb).elim (h.f1 b o) .inr
  f2 := f2
  os := os.trans h.os
  tape := tape.trans h.tape
  output := output.trans h.output
  size := Nat.le_trans h.size size
  block := fun i hi hm => (block i hi hm).trans (h.block i hi hm)

theorem cell_setRow_keep {w : World} {b : Nat} {old new : Array Value} {t : TypeId} {fr : Nat × Nat} (hg : w.heap[b]? = some (.cells old t fr)) {n : Nat} (hp : new.toList.take n = old.toList.take n) (o : Nat) (ho : o < n) :
    (w.setRow b new).cell? ⟨b, o, none⟩ = w.cell? ⟨b, o, none⟩ := by
  rw [cell_setRow_same w b o old new t fr hg, cell_of_row w b o old t fr hg]
  have h1 : (new.toList.take n)[o]? = (old.toList.take n)[o]? := by rw [hp]
  simpa [List.getElem?_take, ho] using h1

/-- 'append(s, x...)' to a row of the call's own: what it gives, and that what stood still stands. -/
theorem run_append_mine (w : World) (t ty e : TypeId) (i : TypeInfo) (z : Value) (ht : P.underlying t = some (.slice e)) (hi : P.info? e = some i) (hz : i.zero = some z)
    (hzs : z.cells.size = i.size) (hsz : 0 < i.size) (v : Value) (n : Nat) (xs : List Value) (hown : w.ownsRow 0 e i.size v n xs)
    (ad : Addr) (m c : Nat) (news : List Value) (hm : 0 < m) (hl : news.length = m * i.size) (hnews : ∀ j u, news[j]? = some u → w.cell? (ad.add j) = some u) (h1 : ∀ u ∈ news, u.oneCell' = true)
    (h63 : n + m ≤ maxLen) (hbytes : (n + m) * i.bytes ≤ 140737488355328) :
    ∃ v' w', (Builtin.append_ #[t, t] ty #[v, .slice (some ad) m c]).run P w = .ok v' w' ∧ w'.ownsRow 0 e i.size v' (n + m) (xs ++ news) ∧ w'.ownsRow 0 e i.size v n xs ∧
      (∀ k, k < w.heap.size → k ∉ blkOf v → w'.heap[k]? = w.heap[k]?) ∧ (∀ b, b ∈ blkOf v → ∀ o, o < n * i.size → w'.cell? ⟨b, o, none⟩ = w.cell? ⟨b, o, none⟩) ∧
      ((blkOf v' = blkOf v ∧ v' ≠ .slice none 0 0 ∧ w'.heap.size = w.heap.size) ∨ (blkOf v' = [w.heap.size] ∧ w'.heap.size = w.heap.size + 1)) ∧ w'.os = w.os ∧ w'.tape = w.tape ∧ w'.output = w.output := by
  have hsmall : n + m ≤ 9223372036854775807 := by simp only [maxLen] at h63; omega
  have hlen : (xs ++ news).length = (n + m) * i.size := by rw [List.length_append, hown.1, hl, Nat.add_mul]
  have grown : ∀ (old : Nat), old < n + m →
      (w.drew.alloc (.cells (xs.toArray ++ news.toArray ++ Builtin.zeroCells z.cells (grownCap w (n + m) old e - (n + m))) e)).ownsRow 0 e i.size
        (.slice (some ⟨w.heap.size, 0, none⟩) (n + m) (grownCap w (n + m) old e)) (n + m) (xs ++ news) := by
    intro old ho
    have hge := grownCap_ge w (n + m) old e
    have hcm : grownCap w (n + m) old e ≤ maxLen := grownCap_le_maxLen w (n + m) old e h63
    refine ⟨hlen, .inr ⟨w.heap.size, _, _, rfl, Nat.zero_le _, heap_alloc_new w.drew _, hge, hcm, ?_, ?_⟩⟩
    · simp only [Array.size_append, List.size_toArray, size_zeroCells, hzs, hown.1, hl, ← Nat.add_mul]
      congr 1
      omega
    · simp only [Array.toList_append, List.append_assoc]
      rw [← List.append_assoc, ← hlen]
      exact List.take_left
  have old_ : ∀ (o : Obj) k, k < w.heap.size → (w.drew.alloc o).heap[k]? = w.heap[k]? := fun o k hk => heap_alloc_old w.drew o k hk
  rcases hown.2 with ⟨rfl, rfl⟩ | ⟨g, cap, cur, rfl, hbg, hg, hnc, hcm, hcs, htake⟩
  · have hx : xs = [] := List.eq_nil_of_length_eq_zero (by simpa using hown.1)
    subst hx
    have hr := run_append_nil (P := P) w t ty e i z ht hi hz ad m c news hl hnews (by omega) (by omega) (by have hb := hbytes; simp only [Nat.zero_add] at hb; omega)
    have hgr := grown 0 (by omega)
    simp only [Nat.zero_add, List.nil_append, Array.empty_append] at hgr ⊢
    exact ⟨_, _, hr, hgr, World.ownsRow_nil _ _ _ _, fun k hk _ => old_ _ k hk, fun b hb => by simp [blkOf, Value.ownBlock] at hb, .inr ⟨by simp [blkOf, Value.ownBlock], by simp⟩, rfl, rfl, rfl⟩
  · have hglt : g < w.heap.size := (Array.getElem?_eq_some_iff.1 hg).1
    by_cases hroom : n + m ≤ cap
    · have hfit : n * i.size + news.length ≤ cur.size := by rw [hl, hcs, ← Nat.add_mul]; exact Nat.mul_le_mul_right _ hroom
      have hr := run_append_room (P := P) w t ty e i ht hi g n cap cur hg ad m c news hl hnews h1 hroom hfit
      have this : (cur.toList.take (n * i.size)).length = n * i.size := by simp; omega
      have htk : ((cur.toList.take (n * i.size) ++ news ++ cur.toList.drop (n * i.size + news.length)).toArray).toList.take (n * i.size) = cur.toList.take (n * i.size) := by
        rw [List.append_assoc, List.take_append_of_le_length (by rw [this]; exact Nat.le_refl _), List.take_take, Nat.min_self]
      have hsize : ((cur.toList.take (n * i.size) ++ news ++ cur.toList.drop (n * i.size + news.length)).toArray).size = cap * i.size := by
        simp only [List.size_toArray, List.length_append, List.length_take, List.length_drop, Array.length_toList]; omega
      refine ⟨_, _, hr, ⟨hlen, .inr ⟨g, cap, _, rfl, hbg, setRow_heap w g cur _ e _ hg, hroom, hcm, hsize, ?_⟩⟩, ⟨hown.1, .inr ⟨g, cap, _, rfl, hbg, setRow_heap w g cur _ e _ hg, hnc, hcm, hsize, ?_⟩⟩,
        fun k _ hk => setRow_other w g k _ (fun e => hk (by simp [blkOf, Value.ownBlock, e])), ?_, .inl ⟨rfl, by simp, by simp⟩, rfl, rfl, rfl⟩
      · rw [htake, ← hlen]
        exact List.take_left
      · rw [htk]; exact htake
      · intro b hb o ho
        simp [blkOf, Value.ownBlock] at hb
        subst hb
        exact cell_setRow_keep hg htk o ho
    · have holds : ∀ j u, xs[j]? = some u → w.cell? ((⟨g, 0, none⟩ : Addr).add j) = some u := hown.cells (g := g) rfl
      have hr := run_append_grow (P := P) w t ty e i z ht hi hz ⟨g, 0, none⟩ n cap xs hown.1 holds ad m c news hl hnews (by omega) (by omega) (growslice_fits (by omega) hbytes)
      have hgr := grown cap (by omega)
      refine ⟨_, _, hr, hgr, ownsRow_heap hown (fun b hb => ?_), fun k hk _ => old_ _ k hk, fun b hb o _ => ?_, .inr ⟨by simp [blkOf, Value.ownBlock], by simp⟩, rfl, rfl, rfl⟩
      · simp [blkOf, Value.ownBlock] at hb; subst hb; exact old_ _ _ hglt
      · simp [blkOf, Value.ownBlock] at hb; subst hb; exact cell_of_heap (old_ _ _ hglt) o

theorem RepCells.append {w : World} {F : Fz} {lb : Lk} {g : Gh} : ∀ (as : List AC) (us : List Value) (S : List Nat) (bs : List AC) (vs : List Value) (T : List Nat),
    RepCells w F lb g as us S → RepCells w F lb g bs vs T → RepCells w F lb g (as ++ bs) (us ++ vs) (S ++ T)
  | [], us, S, bs, vs, T, h, k => by simp only [RepCells] at h; obtain ⟨rfl, rfl⟩ := h; simpa using k
  | a :: as, us, S, bs, vs, T, h, k => by
    simp only [RepCells] at h
    obtain ⟨u, us', S1, S2, rfl, rfl, h3, h4⟩ := h
    exact ⟨u, us' ++ vs, S1, S2 ++ T, by simp, by simp, h3, RepCells.append as us' S2 bs vs T h4 k⟩

/-- The row l grows by the rows 'more', of which nothing is owned in place. -/
theorem Sim.app (h : Sim w0 M0 F0 F g s a w) {l : Nat} {e : TypeId} {i : TypeInfo} {z : Value} {rows more : List (List AC)} {fz : Bool} (hl : s.lb l = some (.arr e i.size rows fz))
    (t ty : TypeId) (ht : P.underlying t = some (.slice e)) (hi : P.info? e = some i) (hz : i.zero = some z) (hzs : z.cells.size = i.size)
    (hmr : ∀ r, r ∈ more → r.length = i.size) (hm : 0 < more.length) (ad : Addr) (c : Nat) (news : List Value) (hrep : RepACs w F s.lb g more.flatten news)
    (hnews : ∀ j u, news[j]? = some u → w.cell? (ad.add j) = some u) (h63 : rows.length + more.length ≤ maxLen) (hbytes : (rows.length + more.length) * i.bytes ≤ 140737488355328) :
    ∃ v' w' g', (Builtin.append_ #[t, t] ty #[g.hd l, .slice (some ad) more.length c]).run P w = .ok v' w' ∧ Sim w0 M0 F0 F g' (s.put l (.arr e i.size (rows ++ more) fz)) a w' ∧ g'.hd l = v' := by
  obtain ⟨hsz, hrl, xs, S, hown, hcells, hds⟩ := h.lb l _ hl
  have hlf : more.flatten.length = more.length * i.size := by
    clear hrep hbytes h63 hm
    induction more with
    | nil => simp
    | cons r rs ih => simp [hmr r (by simp), ih (fun q hq => hmr q (by simp [hq])), Nat.add_mul]; omega
  have hnl : news.length = more.length * i.size := by rw [← RepACs.len _ _ hrep, hlf]
  have hone : ∀ u ∈ news, u.oneCell' = true := by
    intro u hu
    have : ∀ (as : List AC) (us : List Value), RepACs w F s.lb g as us → ∀ u ∈ us, u.oneCell' = true := by
      intro as
      induction as with
      | nil => intro us hr u hu; simp only [RepACs] at hr; subst hr; cases hu
      | cons a as ih =>
        intro us hr u hu
        simp only [RepACs] at hr
        obtain ⟨u', us', rfl, h2, h3⟩ := hr
        rcases List.mem_cons.1 hu with rfl | hu
        · exact h2.one
        · exact ih us' h3 u hu
    exact this _ _ hrep u hu
  obtain ⟨v', w', hrun, hown', hownold, hoth, hpre, hblk, hos, htape, hout⟩ := run_append_mine (P := P) w t ty e i z ht hi hz hzs hsz (g.hd l) rows.length xs hown ad more.length c news hm hnl hnews hone h63 hbytes
  have hle : w.heap.size ≤ w'.heap.size := by rcases hblk with ⟨_, _, hq⟩ | ⟨_, hq⟩ <;> omega
  have hmine : ∀ b, b ∈ blkOf (g.hd l) → b ∈ g.ds l := fun b hb => by rw [hds]; simp [hb]
  have hso := h.so l _ hl
  simp only [SoftOk] at hso
  have stays : Stays w w' F F := ⟨fun _ _ hb => hb, fun b o hb => by
    by_cases hin : b ∈ blkOf (g.hd l)
    · by_cases ho : o < rows.length * i.size
      · exact hpre b hin o ho
      · exact absurd hb (hso.1 b hin o (.inr (by omega)))
    · exact cell_of_heap (hoth b (h.f2 b o hb) hin) o⟩
  have hSnot : ∀ b, b ∈ S → b ∉ blkOf (g.hd l) := fun b hb hb' => by
    have hnd := h.nd l _ hl
    rw [hds, List.nodup_append] at hnd
    exact hnd.2.2 b hb' b hb rfl
  have hSlt : ∀ b, b ∈ S → b < w.heap.size := fun b hb => (h.nw l _ hl b (by rw [hds]; simp [hb])).2
  have h1 : Sim w0 M0 F0 F g s a w' := by
    refine h.world stays ?_ h.so (fun _ _ hb => .inl hb) (fun b o hb => Nat.lt_of_lt_of_le (h.f2 b o hb) hle) hos htape hout hle ?_
    · intro l' B hB
      by_cases he : l' = l
      · subst he
        rw [hl] at hB
        obtain rfl := Option.some.inj hB
        exact ⟨hsz, hrl, xs, S, hownold, RepCells.mono stays (Keeps.refl _ _) _ _ _ (fun b hb => hoth b (hSlt b hb) (hSnot b hb)) hcells, hds⟩
      · exact RepLB.mono stays (Keeps.refl _ _) rfl rfl rfl (fun b hb => hoth b (h.nw l' B hB b hb).2 (fun hin => h.dj l' l B _ he hB hl b hb (hmine b hin))) (h.lb l' B hB)
    · intro k hk hkm
      refine hoth k (Nat.lt_of_lt_of_le hk h.size) (fun hin => ?_)
      rcases (h.nw l _ hl k (hmine k hin)).1 with hq | hq
      · omega
      · exact hkm hq
  have hc : ∀ B, s.lb l = some B → (∀ n u, okOwnB B (g.hd l) n u → okOwnB (.arr e i.size (rows ++ more) fz) v' n u) ∧ (∀ off u, okPtrB B (g.bl l) off u → okPtrB (.arr e i.size (rows ++ more) fz) (g.bl l) off u) ∧
      (∀ n j off u, okEpB B (g.hd l) n j off u → okEpB (.arr e i.size (rows ++ more) fz) v' n j off u) ∧ (∀ k u, okTkB B (g.hd l) k u → okTkB (.arr e i.size (rows ++ more) fz) v' k u) := by
    intro B hB
    rw [hl] at hB
    obtain rfl := Option.some.inj hB
    refine ⟨fun n u hq => ?_, fun _ _ _ => trivial, fun n j off u hq => ?_, fun _ _ _ => trivial⟩
    · simp only [okOwnB, List.length_append] at hq ⊢; exact ⟨by omega, fun hn => by omega⟩
    · simp only [okEpB, List.length_append] at hq ⊢; exact ⟨by omega, fun hn => by omega⟩
  have K : Keeps s.lb g (s.put l (.arr e i.size (rows ++ more) fz)).lb (g.upd l (g.bl l) v' (blkOf v' ++ S)) := Keeps.upd hc
  refine ⟨v', w', g.upd l (g.bl l) v' (blkOf v' ++ S), hrun, h1.putLB hc ?_ ?_ ?_ ?_ ?_, by simp [Gh.upd]⟩
  · refine ⟨hsz, fun r hr => (List.mem_append.1 hr).elim (hrl r) (hmr r), xs ++ news, S, ?_, ?_, by simp [Gh.upd]⟩
    · simpa [Gh.upd] using hown'
    · rw [List.flatten_append]
      have k1 := RepCells.mono stays K _ _ _ (fun b hb => hoth b (hSlt b hb) (hSnot b hb)) hcells
      have k2 := RepACs.cells _ _ (RepACs.mono stays K _ _ hrep)
      simpa using RepCells.append _ _ _ _ _ _ k1 k2
  · simp only [SoftOk, Gh.upd, if_true, List.length_append]
    have first : ∀ b, b ∈ blkOf v' → ∀ o, (fz = false ∨ (rows.length + more.length) * i.size ≤ o) → ¬ F b o := by
      intro b hb o ho
      rcases hblk with ⟨he, _, _⟩ | ⟨he, _⟩
      · rw [he] at hb
        exact hso.1 b hb o (ho.imp id (fun hq => by rw [Nat.add_mul] at hq; omega))
      · rw [he] at hb
        simp at hb; subst hb
        exact fun hf => Nat.lt_irrefl _ (h.f2 _ o hf)
    refine ⟨first, fun hz hn b hb o => ?_⟩
    rcases List.mem_append.1 hb with hb | hb
    · exact first b hb o (.inl hz)
    · simp only [noD, List.all_append, Bool.and_eq_true] at hn
      exact hso.2 hz hn.1 b (by rw [hds]; simp [hb]) o
  · have hnd := h.nd l _ hl
    rw [hds, List.nodup_append] at hnd
    rw [List.nodup_append]
    rcases hblk with ⟨he, _, _⟩ | ⟨he, _⟩
    · rw [he]; exact hnd
    · rw [he]
      refine ⟨by simp, hnd.2.1, fun x hx y hy hxy => ?_⟩
      simp at hx; subst hx; subst hxy
      exact Nat.lt_irrefl _ (hSlt _ hy)
  · intro l' B hne hB k hk hk'
    rcases List.mem_append.1 hk with hk | hk
    · rcases hblk with ⟨he, _, _⟩ | ⟨he, _⟩
      · rw [he] at hk
        exact h.dj l' l B _ hne hB hl k hk' (hmine k hk)
      · rw [he] at hk; simp at hk; subst hk
        exact Nat.lt_irrefl _ (h.nw l' B hB _ hk').2
    · exact h.dj l' l B _ hne hB hl k hk' (by rw [hds]; simp [hk])
  · intro k hk
    rcases List.mem_append.1 hk with hk | hk
    · rcases hblk with ⟨he, _, hq⟩ | ⟨he, hq⟩
      · rw [he] at hk
        exact ⟨(h.nw l _ hl k (hmine k hk)).1, by rw [hq]; exact (h.nw l _ hl k (hmine k hk)).2⟩
      · rw [he] at hk; simp at hk; subst hk
        exact ⟨.inl h.size, by omega⟩
    · exact ⟨(h.nw l _ hl k (by rw [hds]; simp [hk])).1, Nat.lt_of_lt_of_le (hSlt k hk) hle⟩

end Go.Ai
