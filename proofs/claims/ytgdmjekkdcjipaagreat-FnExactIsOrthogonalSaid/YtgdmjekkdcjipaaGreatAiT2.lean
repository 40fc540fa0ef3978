/- The library's sort of strings, as the names are sorted: SortNames, AllDistinct. -/
import Derived.Test.YtgdmjekkdcjipaaGreatAiW1
import Derived.Shelf.Sort.Plain
import Derived.Shelf.Slices.CompactS
import Derived.Shelf.Slices.Clone
import Derived.Shelf.Lay
import Derived.Sort.OwnSorted
import Derived.WalkKit
import Derived.Lib.Walk
import Derived.Test.YtgdmjekkdcjipaaGreatAiT0
import Derived.Test.YtgdmjekkdcjipaaGreatAiM3
set_option linter.unusedVariables false
set_option linter.unusedSimpArgs false
namespace Go.Proofs
open Go.Shelf Go.RowKit Go.Sort
shelf_lay Lays.n190 Nm 190 at Tryz as Tryz.lays190
shelf_lay Lays.n194 Nm 194 at Tryz as Tryz.lays194
shelf_lay Lays.n125 Nm 125 at Tryz as Tryz.lays125
shelf_lay Lays2.n16 Nm2 16 at Tryz as Tryz.lays2_16
theorem kC1 (p : Option Addr) (cap : Nat) (w : World) :
  Calls Tryz.prog 222 #[.slice p 0 cap, .int .i64 0, .int .i64 0] w fun e w' => e = .returned (.tuple #[]) ∧ w' = w := by
 go_enter Tryz.func222, Tryz.ntmps222
 go_wp2
 refine wp_loop_rounds 1 ?_
 rw [rounds_succ]
 go_wp2
 go_end0
 exact ⟨rfl, rfl⟩
set_option maxRecDepth 100000 in
theorem kc1 (p : Option Addr) (cap : Nat) (w : World) :
  Calls Tryz.prog 210 #[.slice p 0 cap, .int .i64 0, .int .i64 0, .int .i64 0] w fun e w' => e = .returned (.tuple #[]) ∧ w' = w := by
 go_enter Tryz.func210, Tryz.ntmps210
 go_wp2
 refine wp_loop_rounds 1 ?_
 rw [rounds_succ]
 go_wp2_with (first | (go_at_call 222; refine (kC1 p cap _).mono ?_; rintro e w' ⟨rfl, rfl⟩))
 refine bodyPost_ret (results_none rfl _ _ _) rfl ?_
 exact ⟨rfl, rfl⟩
set_option maxRecDepth 100000 in
theorem rJ0 (p : Option Addr) (cap : Nat) (w : World) :
  Calls Tryz.prog 179 #[.slice p 0 cap] w fun e w' => e = .returned (.tuple #[]) ∧ w' = w := by
 have hLen : ∀ w, Calls Tryz.prog 211 #[.int .u64 0] w fun e w' => e = .returned (.int .i64 0) ∧ w' = w := fun w => calls_of_every_depth fun D => AnyS.bits_LenIn Tryz.lays125 D 0 w (by omega) (by omega)
 go_enter Tryz.func179, Tryz.ntmps179
 go_wp2_with (first
  | (go_at_call 211; refine (hLen _).mono ?_; rintro e w' ⟨rfl, rfl⟩)
  | (go_at_call 210; refine (kc1 p cap _).mono ?_; rintro e w' ⟨rfl, rfl⟩))
 go_end0
 exact ⟨rfl, rfl⟩
abbrev leB : List UInt8 → List UInt8 → Bool := fun x y => decide (x ≤ y)
def cr0 (w : World) (base : Nat) (v : Value) (ss : List (List UInt8)) : Prop :=
 (ss = [] ∧ ∃ a c, v = .slice a 0 c) ∨ ∃ g cap cur e, v = .slice (some ⟨g, 0, none⟩) ss.length cap ∧ base ≤ g ∧ w.heap[g]? = some (.cells cur e (0, 0)) ∧ ss.length ≤ cap ∧ cap ≤ maxLen ∧ cur.size = cap * 1 ∧ cur.toList.take ss.length = ss.map encStr
theorem yc0 {w w' : World} {base g : Nat} (h : w.grownBy w' (some g)) (hb : base ≤ g) (hw : g < w.heap.size) : Below base w w' := by
 obtain ⟨h1, h2, h3, h4, h5⟩ := h
 exact ⟨h1, h2, h3, h4, fun k hk => h5 k (by omega) (fun e => by have := Option.some.inj e; omega)⟩
theorem yl1 {w : World} {base : Nat} {v : Value} {ss : List (List UInt8)} (h : cr0 w base v ss) (hl : ss.length < 100000000) :
  Calls Tryz.prog 179 #[v] w fun e w' => e = .returned (.tuple #[]) ∧ cr0 w' base v (ss.mergeSort leB) ∧ Below base w w' := by
 rcases h with ⟨rfl, a, c, rfl⟩ | ⟨g, cap, cur, e, rfl, hb, hg, h1, h2, h3, h4⟩
 ·refine (rJ0 a c w).mono ?_
  rintro e w' ⟨rfl, rfl⟩
  exact ⟨rfl, .inl ⟨by simp, a, c, rfl⟩, ⟨rfl, rfl, rfl, Nat.le_refl _, fun _ _ => rfl⟩⟩
 ·have hlt := (Array.getElem?_eq_some_iff.1 hg).1
  refine (Any.slices_Sort_string Tryz.lays190 g 0 cap ss w (holds_of_block hg h4) hlt (by omega)).mono ?_
  rintro e' w' ⟨rfl, n, os, rfl⟩
  refine ⟨rfl, .inr ?_, yc0 (grownBy_sorted _) hb hlt⟩
  have hlen : (ss.mergeSort leB).length = ss.length := by simp
  rw [hlen]
  exact ⟨g, cap, _, e, rfl, hb, heap_sorted _ hg, h1, h2, by simp [putCells, h3], by rw [← hlen]; exact take_putCells cur _ (by omega)⟩
theorem ln0 {w : World} {base : Nat} {v : Value} {ss : List (List UInt8)} (h : cr0 w base v ss) (hl : ss.length < 100000000) :
  Calls Tryz.prog 180 #[v] w fun e w' => (∃ a c, e = .returned (.slice a (Lib.compact ss).length c)) ∧ Below base w w' := by
 rcases h with ⟨rfl, a, c, rfl⟩ | ⟨g, cap, cur, e, rfl, hb, hg, h1, h2, h3, h4⟩
 ·refine (Any.slices_Compact_string_empty Tryz.lays194 a c w).mono ?_
  rintro e w' ⟨rfl, rfl⟩
  exact ⟨⟨a, c, rfl⟩, ⟨rfl, rfl, rfl, Nat.le_refl _, fun _ _ => rfl⟩⟩
 ·have hlt := (Array.getElem?_eq_some_iff.1 hg).1
  refine (Any.slices_Compact_string Tryz.lays194 g 0 cap ss w (holds_of_block hg h4) (by omega) h1).mono ?_
  rintro e' w' ⟨rfl, q, rfl⟩
  have := grownBy_sorted (w := w) (g := g) (n := q) (os := #[]) (Lib.compact ss ++ List.replicate (ss.length - (Lib.compact ss).length) []).toArray
  rw [grow_empty] at this
  exact ⟨⟨_, _, rfl⟩, yc0 this hb hlt⟩
theorem me0 {w : World} {F : Go.Ai.Fz} {b sz : Nat} : ∀ (xs : List ByteArray) (o : Nat), Go.Ai.RdRows w F b sz o (xs.map Go.Ai.encS) → (xs ≠ [] → sz = 1) ∧ ∀ j, j < xs.length → w.cell? ⟨b, o + j * 1, none⟩ = some (.string (xs.getD j ByteArray.empty))
 | [], o, _ => ⟨fun h => absurd rfl h, fun j hj => by simp at hj⟩
 | x :: xs, o, h => by
  simp only [List.map_cons, Go.Ai.RdRows, Go.Ai.encS, Go.Ai.RdCells, Go.Ai.Rd] at h
  obtain ⟨h1, ⟨_, ⟨v, h2, rfl, _⟩, _⟩, h3⟩ := h
  have hs : sz = 1 := by simpa using h1.symm
  subst hs
  obtain ⟨_, k⟩ := me0 xs (o + 1) h3
  refine ⟨fun _ => rfl, fun j hj => ?_⟩
  cases j with
  | zero => simpa using h2
  | succ j =>
   have := k j (by simpa using hj)
   rw [show o + 1 + j * 1 = o + (j + 1) * 1 by omega] at this
   simpa using this
theorem rL0 (xs : List ByteArray) : xs.map Value.string = (xs.map fun s => s.data.toList).map encStr := by
 induction xs with
 | nil => rfl
 | cons x xs ih =>
  simp only [List.map_cons, ih]
theorem zE1 {w : World} {F : Go.Ai.Fz} {u : Value} {xs : List ByteArray} (h : Go.Ai.Rd w F (.sl (xs.map Go.Ai.encS)) u) (hl : xs.length < 100000000) :
  Calls Tryz.prog 146 #[u] w fun e w' => ∃ v, e = .returned v ∧ cr0 w' w.heap.size v (xs.map fun s => s.data.toList) ∧ Below w.heap.size w w' := by
 simp only [Go.Ai.Rd, List.length_map] at h
 obtain ⟨A, cap, sz, rfl, hle, hcap, hsz, hnil, hrd⟩ := h
 cases A with
 | none =>
  have hc := hnil rfl
  have hx : xs = [] := List.eq_nil_of_length_eq_zero (by omega)
  subst hx
  refine (Any.slices_Clone_string_nil Tryz.lays2_16 0 cap w).mono ?_
  rintro e w' ⟨rfl, rfl⟩
  exact ⟨_, rfl, .inl ⟨rfl, none, 0, rfl⟩, Below.refl _ _⟩
 | some a =>
  obtain ⟨hsp, hrows⟩ := hrd a rfl
  have fin : ∀ (v' : Value) (w' : World), w'.ownsRow w.heap.size 9 1 v' xs.length (xs.map Value.string) → v' ≠ .slice none 0 0 → cr0 w' w.heap.size v' (xs.map fun s => s.data.toList) := by
   intro v' w' ho hne
   obtain ⟨_, ho⟩ := ho
   rcases ho with ⟨h1, _⟩ | ⟨g, cap', cur, rfl, k1, k2, k3, k4, k5, k6⟩
   ·exact absurd h1 hne
   ·refine .inr ⟨g, cap', cur, _, by simp, k1, k2, by simpa using k3, k4, k5, ?_⟩
    rw [List.length_map, ← rL0]
    simpa using k6
  by_cases hx : xs = []
  ·subst hx
   refine (Any.slices_Clone_string_zero Tryz.lays2_16 a cap w).mono ?_
   rintro e w' ⟨v', rfl, ho, hne, hb⟩
   exact ⟨v', rfl, fin v' w' ho hne, hb⟩
  ·obtain ⟨_, hc⟩ := me0 xs a.off hrows
   have hpos : 0 < xs.length := List.length_pos_iff.2 hx
   have hspot : a.spot = none := hsp (by omega)
   obtain ⟨b, off, sp⟩ := a
   simp only at hspot hc
   subst hspot
   refine (Any.slices_Clone_string Tryz.lays2_16 b off xs.length cap xs w (Nat.le_refl _) (by omega) (fun j hj => by have := hc j hj; rwa [Nat.mul_one] at this)).mono ?_
   rintro e w' ⟨v', rfl, ho, hne, hb⟩
   rw [List.take_length] at ho
   exact ⟨v', rfl, fin v' w' ho hne, hb⟩
def qi0 (xs : List ByteArray) : Nat := (Lib.compact ((xs.map fun s => s.data.toList).mergeSort leB)).length
set_option maxRecDepth 100000 in
theorem pt0 {w : World} {F : Go.Ai.Fz} {u : Value} {xs : List ByteArray} (h : Go.Ai.Rd w F (.sl (xs.map Go.Ai.encS)) u) (hl : xs.length < 100000000) :
  Calls Tryz.prog 119 #[u] w fun e w' => (∃ a c, e = .returned (.slice a (qi0 xs) c)) ∧ Below w.heap.size w w' := by
 go_enter Tryz.func119, Tryz.ntmps119
 go_wp2_with (first
  | (go_at_call 146; refine (zE1 h hl).mono ?_; rintro e w1 ⟨v, rfl, hr, hb⟩)
  | (go_at_call 179; refine (yl1 hr (by simpa using hl)).mono ?_; rintro e w2 ⟨rfl, hr2, hb2⟩)
  | (go_at_call 180; refine (ln0 hr2 (by simpa using hl)).mono ?_; rintro e w3 ⟨⟨a, c, rfl⟩, hb3⟩))
 go_ret
 exact ⟨⟨a, c, rfl⟩, hb.trans (hb2.trans hb3)⟩
theorem wt0 (xs : List ByteArray) (hl : xs.length < 100000000) : Go.Ai.Sat Tryz.prog 53 [Go.Ai.slV (xs.map Go.Ai.encS)] (Go.Ai.boolV (qi0 xs == xs.length)) := by
 refine ⟨⟨_, Tryz.func53, by decide +kernel, by intro h; cases h⟩, fun w F us hF hrep => ?_⟩
 simp only [Go.Ai.RepAVs, Go.Ai.RepAV, Go.Ai.RepAC] at hrep
 obtain ⟨u, _, rfl, h, rfl⟩ := hrep
 have h0 := h
 simp only [Go.Ai.Rd, List.length_map] at h0
 obtain ⟨A, cap, sz, rfl, hle, _⟩ := h0
 have hcl : (Lib.compact ((xs.map fun s => s.data.toList).mergeSort leB)).length = qi0 xs := rfl
 go_enter Tryz.func53, Tryz.ntmps53
 go_wp2_with (first
  | (go_at_call 119; refine (pt0 h hl).mono ?_; rintro e w1 ⟨⟨a, c, rfl⟩, hb⟩))
 go_ret
 refine ⟨_, F, rfl, hb, fun _ _ h => h, fun _ _ h => .inl h, fun b o h => Nat.lt_of_lt_of_le (hF b o h) hb.size, ?_⟩
 have hq : ((qi0 xs : Int) == (xs.length : Int)) = (qi0 xs == xs.length) := by
  rw [Bool.eq_iff_iff]; simp; omega
 show Go.Ai.RepAV w1 F Go.Ai.noLk Go.Ai.g0 (Go.Ai.boolV (qi0 xs == xs.length)) (.bool ((qi0 xs : Int) == (xs.length : Int)))
 rw [hq]
 simp only [Go.Ai.RepAV, Go.Ai.RepAC, Go.Ai.Rd]
 exact ⟨trivial, trivial⟩
theorem pC0 (d : Array (List UInt8)) (m : Nat) : (Lib.compactUpTo d m).length = m ↔ ∀ j, j < m → Lib.keeps d j = true := by
 simp only [Lib.compactUpTo, List.length_map]
 constructor
 ·intro h j hj
  have : ((List.range m).filter (Lib.keeps d)).length = (List.range m).length := by rw [h, List.length_range]
  exact List.length_filter_eq_length_iff.1 this j (List.mem_range.2 hj)
 ·intro h
  rw [List.filter_eq_self.2 (fun j hj => h j (List.mem_range.1 hj)), List.length_range]
theorem vh1 : ∀ a b c : List UInt8, leB a b = true → leB b c = true → leB a c = true := fun a b c h1 h2 => by simp only [leB, decide_eq_true_eq] at *; exact List.le_trans h1 h2
theorem kI1 : ∀ a b : List UInt8, (leB a b || leB b a) = true := fun a b => by simp only [leB, Bool.or_eq_true, decide_eq_true_eq]; exact List.le_total a b
theorem gD0 (l : List (List UInt8)) (hs : l.Pairwise fun a b => leB a b = true) : l.Nodup ↔ ∀ j, j < l.length → Lib.keeps l.toArray j = true := by
 have key : ∀ j, j < l.length → (Lib.keeps l.toArray j = true ↔ (j = 0 ∨ l[j]! ≠ l[j - 1]!)) := fun j _ => by simp [Lib.keeps]
 rw [List.pairwise_iff_getElem] at hs
 rw [List.Nodup, List.pairwise_iff_getElem]
 constructor
 ·intro h j hj
  rw [key j hj]
  rcases Nat.eq_zero_or_pos j with h0 | h0
  ·exact .inl h0
  ·right
   rw [getElem!_pos l j hj, getElem!_pos l (j - 1) (by omega)]
   exact fun e => h (j - 1) j (by omega) hj (by omega) e.symm
 ·intro h i j hi hj hij he
  have h1 := (key (i + 1) (by omega)).1 (h (i + 1) (by omega))
  rcases h1 with h1 | h1
  ·omega
  ·rw [getElem!_pos l (i + 1) (by omega), getElem!_pos l (i + 1 - 1) (by omega)] at h1
   simp only [Nat.add_sub_cancel] at h1
   have a1 := hs i (i + 1) (by omega) (by omega) (by omega)
   rcases Nat.lt_or_ge (i + 1) j with hlt | hge
   ·have a2 := hs (i + 1) j (by omega) hj hlt
    rw [← he] at a2
    simp only [leB, decide_eq_true_eq] at a1 a2
    exact h1 (List.le_antisymm a2 a1)
   ·have : j = i + 1 := by omega
    subst this
    exact h1 he.symm
theorem xE0 (xs : List ByteArray) : (qi0 xs == xs.length) = decide ((xs.map fun s => s.data.toList).Nodup) := by
 obtain ⟨l, hl⟩ : ∃ l, l = xs.map fun s => s.data.toList := ⟨_, rfl⟩
 have hlen : l.length = xs.length := by rw [hl, List.length_map]
 have hp := List.mergeSort_perm l leB
 have h1 := gD0 (l.mergeSort leB) (List.pairwise_mergeSort vh1 kI1 l)
 have h2 := pC0 (l.mergeSort leB).toArray (l.mergeSort leB).length
 have h3 : qi0 xs = (Lib.compactUpTo (l.mergeSort leB).toArray (l.mergeSort leB).length).length := by rw [hl]; rfl
 rw [← hl, Bool.eq_iff_iff, beq_iff_eq, decide_eq_true_eq, h3, ← hlen, ← hp.length_eq, h2, ← h1]
 exact hp.nodup_iff
end Go.Proofs
namespace Go.Ai
open Go.Proofs Go.RowKit
set_option maxRecDepth 100000
theorem xd0 (t : Tm) (h : t.size < 80000000) : Sat Tryz.prog 22 [tmV t] (boolV (distS t.vars)) := by
 have hv := zN0 t
 have hs := vU0 t [] (by simpa using (by omega : t.size < 90000000))
 rw [List.nil_append] at hs
 have hd := specAllDistinct_sat t.vars (by omega)
 generalize distS t.vars = r at hd ⊢
 generalize t.vars = vs at hv hs hd
 obtain ⟨k, n, s, ts⟩ := t
 refine soc zE0 zB0 Tryz.func22 ?_
 simp -implicitDefEqProofs (disch := omega) only [go_sem, Tm.enc]
 refine CallK.acc 1 hs ⟨by simp [go_sem], rfl, rfl, rfl⟩ rfl ?_
 simp -implicitDefEqProofs (disch := omega) only [go_sem, List.getElem?_cons_succ, List.getElem?_cons_zero, xH1]
 refine CallK.mk hd ?_
 simp -implicitDefEqProofs (disch := omega) only [go_sem]
theorem xV0 (t : Tm) (h : t.size < 80000000) : Sat Tryz.prog 21 [tmV t] (boolV (distS t.vars)) := by
 have hv := zN0 t
 have hs := qt0 t h
 have hd := wt0 t.vars (by omega)
 rw [xE0] at hd
 change Sat Tryz.prog 53 [slV (t.vars.map encS)] (boolV (distS t.vars)) at hd
 generalize distS t.vars = r at hd ⊢
 generalize t.vars = vs at hv hs hd
 obtain ⟨k, n, s, ts⟩ := t
 refine soc zE0 zB0 Tryz.func21 ?_
 simp -implicitDefEqProofs (disch := omega) only [go_sem, Tm.enc]
 refine CallK.mk hs ?_
 simp -implicitDefEqProofs (disch := omega) only [go_sem]
 refine CallK.mk hd ?_
 simp -implicitDefEqProofs (disch := omega) only [go_sem]
end Go.Ai
