/- SortNames of the program: the names, sorted, each once. -/
import Derived.Test.YtgdmjekkdcjipaaGreatAiT2
import Derived.Test.YtgdmjekkdcjipaaGreatAiUN2
set_option linter.unusedVariables false
set_option linter.unusedSimpArgs false
namespace Go.Proofs
open Go.Shelf Go.RowKit Go.Sort
def jb1 (w : World) (base : Nat) (v : Value) (ss : List (List UInt8)) : Prop :=
 (ss = [] ∧ v = .slice none 0 0) ∨ ∃ g cap cur, v = .slice (some ⟨g, 0, none⟩) ss.length cap ∧ base ≤ g ∧ w.heap[g]? = some (.cells cur 9 (0, 0)) ∧ ss.length ≤ cap ∧ cap ≤ maxLen ∧ cur.size = cap * 1 ∧ cur.toList.take ss.length = ss.map encStr
theorem wA1 {w : World} {base : Nat} {v : Value} {ss : List (List UInt8)} (h : jb1 w base v ss) (hl : ss.length < 100000000) :
  Calls Tryz.prog 179 #[v] w fun e w' => e = .returned (.tuple #[]) ∧ jb1 w' base v (ss.mergeSort leB) ∧ Below base w w' := by
 rcases h with ⟨rfl, rfl⟩ | ⟨g, cap, cur, rfl, hb, hg, h1, h2, h3, h4⟩
 ·refine (rJ0 none 0 w).mono ?_
  rintro e w' ⟨rfl, rfl⟩
  exact ⟨rfl, .inl ⟨by simp, rfl⟩, ⟨rfl, rfl, rfl, Nat.le_refl _, fun _ _ => rfl⟩⟩
 ·have hlt := (Array.getElem?_eq_some_iff.1 hg).1
  refine (Any.slices_Sort_string Tryz.lays190 g 0 cap ss w (holds_of_block hg h4) hlt (by omega)).mono ?_
  rintro e' w' ⟨rfl, n, os, rfl⟩
  refine ⟨rfl, .inr ?_, yc0 (grownBy_sorted _) hb hlt⟩
  have hlen : (ss.mergeSort leB).length = ss.length := by simp
  rw [hlen]
  exact ⟨g, cap, _, rfl, hb, heap_sorted _ hg, h1, h2, by simp [putCells, h3], by rw [← hlen]; exact take_putCells cur _ (by omega)⟩
theorem fl0 (zs : List (List UInt8)) : (Lib.compact zs).length ≤ zs.length := by
 simp only [Lib.compact, Lib.compactUpTo, List.length_map]
 exact Nat.le_trans (List.length_filter_le _ _) (by simp)
theorem dN0 {w : World} {base : Nat} {v : Value} {ss : List (List UInt8)} (h : jb1 w base v ss) (hl : ss.length < 100000000) :
  Calls Tryz.prog 180 #[v] w fun e w' => (∃ v', e = .returned v' ∧ jb1 w' base v' (Lib.compact ss)) ∧ Below base w w' := by
 rcases h with ⟨rfl, rfl⟩ | ⟨g, cap, cur, rfl, hb, hg, h1, h2, h3, h4⟩
 ·refine (Any.slices_Compact_string_empty Tryz.lays194 none 0 w).mono ?_
  rintro e w' ⟨rfl, rfl⟩
  exact ⟨⟨_, rfl, .inl ⟨rfl, rfl⟩⟩, ⟨rfl, rfl, rfl, Nat.le_refl _, fun _ _ => rfl⟩⟩
 ·have hlt := (Array.getElem?_eq_some_iff.1 hg).1
  refine (Any.slices_Compact_string Tryz.lays194 g 0 cap ss w (holds_of_block hg h4) (by omega) h1).mono ?_
  rintro e' w' ⟨rfl, q, rfl⟩
  have hc := fl0 ss
  obtain ⟨zs, hzs⟩ : ∃ zs, zs = Lib.compact ss ++ List.replicate (ss.length - (Lib.compact ss).length) [] := ⟨_, rfl⟩
  rw [← hzs]
  have hzl : zs.length = ss.length := by rw [hzs]; simp; omega
  have := grownBy_sorted (w := w) (g := g) (n := q) (os := #[]) zs.toArray
  have hh := heap_sorted (w := w) (g := g) (n := q) (os := #[]) zs.toArray hg
  rw [grow_empty] at this hh
  refine ⟨⟨_, rfl, .inr ⟨g, cap, _, rfl, hb, hh, by omega, h2, by simp [putCells, h3], ?_⟩⟩, yc0 this hb hlt⟩
  have ht := take_putCells cur zs (by omega)
  have : ((putCells encStr 0 zs.toArray cur).toList.take zs.length).take (Lib.compact ss).length = (zs.map encStr).take (Lib.compact ss).length := by rw [ht]
  rw [List.take_take, Nat.min_eq_left (by omega), ← List.map_take, hzs, List.take_left] at this
  rw [← hzs] at this
  exact this
theorem ru0 {w : World} {F : Go.Ai.Fz} {u : Value} {xs : List ByteArray} (h : Go.Ai.Rd w F (.sl (xs.map Go.Ai.encS)) u) (hl : xs.length < 100000000) :
  Calls Tryz.prog 146 #[u] w fun e w' => ∃ v, e = .returned v ∧ jb1 w' w.heap.size v (xs.map fun s => s.data.toList) ∧ Below w.heap.size w w' := by
 simp only [Go.Ai.Rd, List.length_map] at h
 obtain ⟨A, cap, sz, rfl, hle, hcap, hsz, hnil, hrd⟩ := h
 cases A with
 | none =>
  have hc := hnil rfl
  have hx : xs = [] := List.eq_nil_of_length_eq_zero (by omega)
  subst hx
  refine (Any.slices_Clone_string_nil Tryz.lays2_16 0 cap w).mono ?_
  rintro e w' ⟨rfl, rfl⟩
  exact ⟨_, rfl, .inl ⟨rfl, rfl⟩, Below.refl _ _⟩
 | some a =>
  obtain ⟨hsp, hrows⟩ := hrd a rfl
  have fin : ∀ (v' : Value) (w' : World), w'.ownsRow w.heap.size 9 1 v' xs.length (xs.map Value.string) → v' ≠ .slice none 0 0 → jb1 w' w.heap.size v' (xs.map fun s => s.data.toList) := by
   intro v' w' ho hne
   obtain ⟨_, ho⟩ := ho
   rcases ho with ⟨h1, _⟩ | ⟨g, cap', cur, rfl, k1, k2, k3, k4, k5, k6⟩
   ·exact absurd h1 hne
   ·refine .inr ⟨g, cap', cur, by simp, k1, k2, by simpa using k3, k4, k5, ?_⟩
    rw [List.length_map, ← rL0]
    simpa using k6
  by_cases hx : xs = []
  ·subst hx
   refine (Any.slices_Clone_string_zero Tryz.lays2_16 a cap w).mono ?_
   rintro e w' ⟨v', rfl, ho, hne, hb⟩
   exact ⟨v', rfl, fin v' w' ho hne, hb⟩
  ·obtain ⟨_, hc⟩ := me0 xs a.off hrows
   have hpos : 0 < xs.length := List.length_pos_iff.2 hx
   have hspot : a.spot = none := hsp (by omega)
   obtain ⟨b, off, sp⟩ := a
   simp only at hspot hc
   subst hspot
   refine (Any.slices_Clone_string Tryz.lays2_16 b off xs.length cap xs w (Nat.le_refl _) (by omega) (fun j hj => by have := hc j hj; rwa [Nat.mul_one] at this)).mono ?_
   rintro e w' ⟨v', rfl, ho, hne, hb⟩
   rw [List.take_length] at ho
   exact ⟨v', rfl, fin v' w' ho hne, hb⟩
def ofL (l : List UInt8) : ByteArray := ⟨l.toArray⟩
def qh0 (xs : List ByteArray) : List ByteArray := (Lib.compact ((xs.map fun s => s.data.toList).mergeSort leB)).map ofL
theorem xe1 (s : ByteArray) : ofL s.data.toList = s := rfl
theorem lo0 (zs : List (List UInt8)) (x : List UInt8) : x ∈ Lib.compact zs ↔ x ∈ zs := by
 have key : ∀ j, j < zs.length → ∃ i, i < zs.length ∧ Lib.keeps zs.toArray i = true ∧ zs[i]! = zs[j]! := by
  intro j
  induction j with
  | zero => exact fun h => ⟨0, h, by simp [Lib.keeps], rfl⟩
  | succ j ih =>
   intro h
   by_cases he : zs[j + 1]! = zs[j]!
   ·obtain ⟨i, h1, h2, h3⟩ := ih (by omega)
    exact ⟨i, h1, h2, h3.trans he.symm⟩
   ·exact ⟨j + 1, h, by simpa [Lib.keeps] using he, rfl⟩
 simp only [Lib.compact, Lib.compactUpTo, List.mem_map, List.mem_filter, List.mem_range]
 constructor
 ·rintro ⟨i, ⟨h1, _⟩, rfl⟩
  have : (zs.toArray)[i]! = zs[i] := by simp [h1]
  rw [this]; exact List.getElem_mem h1
 ·intro hx
  obtain ⟨j, hj, rfl⟩ := List.getElem_of_mem hx
  obtain ⟨i, h1, h2, h3⟩ := key j hj
  refine ⟨i, ⟨h1, h2⟩, ?_⟩
  have e : (zs.toArray)[i]! = zs[i]! := by simp
  rw [e, h3]; simp [hj]
theorem yR0 (xs : List ByteArray) (v : ByteArray) : v ∈ qh0 xs ↔ v ∈ xs := by
 simp only [qh0, List.mem_map, lo0, List.mem_mergeSort]
 constructor
 ·rintro ⟨a, ⟨s, hs, rfl⟩, rfl⟩; exact hs
 ·intro h; exact ⟨_, ⟨v, h, rfl⟩, rfl⟩
theorem yV0 (xs : List ByteArray) : (qh0 xs).length ≤ xs.length := by
 simp only [qh0, List.length_map]
 exact Nat.le_trans (fl0 _) (by simp)
theorem pg0 {w : World} {F : Go.Ai.Fz} {g : Nat} : ∀ (ys : List ByteArray) (o : Nat), (∀ j, j < ys.length → F g (o + j) ∧ w.cell? ⟨g, o + j, none⟩ = some (.string (ys.getD j ByteArray.empty))) → Go.Ai.RdRows w F g 1 o (ys.map Go.Ai.encS)
 | [], _, _ => by simp only [List.map_nil, Go.Ai.RdRows]
 | y :: ys, o, h => by
  simp only [List.map_cons, Go.Ai.RdRows, Go.Ai.encS, Go.Ai.RdCells, List.length_cons, List.length_nil]
  have h0 := h 0 (by simp)
  simp only [Nat.add_zero, List.getD_cons_zero] at h0
  refine ⟨trivial, ⟨h0.1, ⟨_, h0.2, by simp only [Go.Ai.Rd, Go.Ai.okv]; exact ⟨trivial, trivial⟩⟩, trivial⟩, pg0 ys (o + 1) (fun j hj => ?_)⟩
  have := h (j + 1) (by simpa using hj)
  rw [show o + (j + 1) = o + 1 + j by omega] at this
  simpa using this
set_option maxRecDepth 100000 in
theorem yw0 {w : World} {F : Go.Ai.Fz} {u : Value} {xs : List ByteArray} (h : Go.Ai.Rd w F (.sl (xs.map Go.Ai.encS)) u) (hl : xs.length < 100000000) :
  Calls Tryz.prog 119 #[u] w fun e w' => (∃ v, e = .returned v ∧ jb1 w' w.heap.size v (Lib.compact ((xs.map fun s => s.data.toList).mergeSort leB))) ∧ Below w.heap.size w w' := by
 go_enter Tryz.func119, Tryz.ntmps119
 go_wp2_with (first
  | (go_at_call 146; refine (ru0 h hl).mono ?_; rintro e w1 ⟨v, rfl, hr, hb⟩)
  | (go_at_call 179; refine (wA1 hr (by simpa using hl)).mono ?_; rintro e w2 ⟨rfl, hr2, hb2⟩)
  | (go_at_call 180; refine (dN0 hr2 (by simpa using hl)).mono ?_; rintro e w3 ⟨⟨v3, rfl, hr3⟩, hb3⟩))
 go_ret
 exact ⟨⟨v3, rfl, hr3⟩, hb.trans (hb2.trans hb3)⟩
theorem vS0 (xs : List ByteArray) (hl : xs.length < 100000000) : Go.Ai.Sat Tryz.prog 119 [Go.Ai.slV (xs.map Go.Ai.encS)] (Go.Ai.slV ((qh0 xs).map Go.Ai.encS)) := by
 refine ⟨⟨_, Tryz.func119, by decide +kernel, by intro h; cases h⟩, fun w F us hF hrep => ?_⟩
 simp only [Go.Ai.RepAVs, Go.Ai.RepAV, Go.Ai.RepAC] at hrep
 obtain ⟨u, _, rfl, h, rfl⟩ := hrep
 refine (yw0 h hl).mono ?_
 rintro e w' ⟨⟨v, rfl, hr⟩, hb⟩
 obtain ⟨ss, hss⟩ : ∃ ss, ss = Lib.compact ((xs.map fun s => s.data.toList).mergeSort leB) := ⟨_, rfl⟩
 have hsI : qh0 xs = ss.map ofL := by rw [hss]; rfl
 rw [← hss] at hr
 rw [hsI]
 rcases hr with ⟨rfl, rfl⟩ | ⟨g, cap, cur, rfl, hbg, hg, h1, h2, h3, h4⟩
 ·refine ⟨_, F, rfl, hb, fun _ _ h => h, fun _ _ h => .inl h, fun b o h => Nat.lt_of_lt_of_le (hF b o h) hb.size, ?_⟩
  simp only [Go.Ai.RepAV, Go.Ai.RepAC, Go.Ai.Rd, Go.Ai.slV, List.map_nil, List.length_nil]
  exact ⟨none, 0, 1, rfl, Nat.le_refl _, Nat.zero_le _, Nat.one_pos, fun _ => rfl, (fun a ha => by cases ha)⟩
 ·have hlt := (Array.getElem?_eq_some_iff.1 hg).1
  refine ⟨_, fun b o => F b o ∨ b = g, rfl, hb, fun _ _ h => .inl h, fun b o h => h.elim .inl (fun e => .inr (by omega)), fun b o h => h.elim (fun h => Nat.lt_of_lt_of_le (hF b o h) hb.size) (fun e => by omega), ?_⟩
  simp only [Go.Ai.RepAV, Go.Ai.RepAC, Go.Ai.Rd, Go.Ai.slV, List.length_map]
  refine ⟨some ⟨g, 0, none⟩, cap, 1, rfl, h1, h2, Nat.one_pos, (fun h => by cases h), fun a ha => ?_⟩
  obtain rfl := Option.some.inj ha
  refine ⟨fun _ => rfl, pg0 _ _ (fun j hj => ⟨.inr rfl, ?_⟩)⟩
  have hj' : j < ss.length := by simpa using hj
  have := (holds_of_block hg h4 j (by simpa using hj')).1
  rw [this]
  simp [hj', encStr, ofL]
theorem yl0 (w : World) (F : Go.Ai.Fz) (lb : Go.Ai.Lk) (g : Go.Ai.Gh) : ∀ (ys : List ByteArray), Go.Ai.RepCells w F lb g (Go.Ai.rowsOf Go.Ai.encS ys).flatten (ys.map Value.string) []
 | [] => ⟨rfl, rfl⟩
 | y :: ys => ⟨.string y, ys.map Value.string, [], [], rfl, rfl, ⟨by simp only [Go.Ai.RepAC, Go.Ai.Rd, Go.Ai.okv]; exact ⟨trivial, trivial⟩, rfl⟩, yl0 w F lb g ys⟩
theorem fX0 (xs : List ByteArray) (hl : xs.length < 100000000) : Go.Ai.SatO Tryz.prog 119 [Go.Ai.slV (xs.map Go.Ai.encS)] 9 1 (Go.Ai.rowsOf Go.Ai.encS (qh0 xs)) (.one (.own 0 (qh0 xs).length)) := by
 refine ⟨⟨_, Tryz.func119, by decide +kernel, by intro h; cases h⟩, Nat.one_pos, Go.Ai.rowsOf_cl, Go.Ai.rowsOf_noD, rfl, fun w F us hF hrep => ?_⟩
 simp only [Go.Ai.RepAVs, Go.Ai.RepAV, Go.Ai.RepAC] at hrep
 obtain ⟨u, _, rfl, h, rfl⟩ := hrep
 refine (yw0 h hl).mono ?_
 rintro e w' ⟨⟨v, rfl, hr⟩, hb⟩
 obtain ⟨ss, hss⟩ : ∃ ss, ss = Lib.compact ((xs.map fun s => s.data.toList).mergeSort leB) := ⟨_, rfl⟩
 have hsI : qh0 xs = ss.map ofL := by rw [hss]; rfl
 rw [← hss] at hr
 rw [hsI]
 rcases hr with ⟨rfl, rfl⟩ | ⟨g, cap, cur, rfl, hbg, hg, h1, h2, h3, h4⟩
 ·refine ⟨_, F, .slice none 0 0, [], rfl, ?_, ?_, List.nodup_nil, (fun b hb => by cases hb), (fun _ _ h => h), (fun _ _ h => .inl h), (fun b o h => Nat.lt_of_lt_of_le (hF b o h) hb.size), hb⟩
  ·exact ⟨rfl, _, rfl, ⟨by simp [Go.Ai.rowsOf], fun _ => rfl⟩⟩
  ·exact ⟨Nat.one_pos, Go.Ai.rowsOf_l (fun _ => rfl), [], [], ⟨rfl, .inl ⟨rfl, rfl⟩⟩, yl0 _ _ _ _ [], rfl⟩
 ·have hlt := (Array.getElem?_eq_some_iff.1 hg).1
  refine ⟨_, F, .slice (some ⟨g, 0, none⟩) ss.length cap, [g], rfl, ?_, ?_, by simp, (fun b hb' => ?_), (fun _ _ h => h), (fun _ _ h => .inl h), (fun b o h => Nat.lt_of_lt_of_le (hF b o h) hb.size), hb⟩
  ·exact ⟨rfl, _, rfl, ⟨by simp [Go.Ai.rowsOf], fun _ => rfl⟩⟩
  ·refine ⟨Nat.one_pos, Go.Ai.rowsOf_l (fun _ => rfl), (ss.map ofL).map Value.string, [], ⟨by simp [Go.Ai.rowsOf], .inr ⟨g, cap, cur, ?_, Nat.zero_le _, hg, ?_, h2, h3, ?_⟩⟩, yl0 _ _ _ _ _, rfl⟩
   ·simp [Go.Ai.rowsOf, Go.Ai.gA]
   ·simpa [Go.Ai.rowsOf] using h1
   ·have hm : (ss.map ofL).map Value.string = ss.map encStr := by rw [List.map_map]; rfl
    rw [hm, ← h4]
    simp [Go.Ai.rowsOf]
  ·simp only [List.mem_singleton] at hb'
   subst hb'
   exact ⟨hbg, hlt, fun o ho => by have := hF _ _ ho; omega⟩
end Go.Proofs
