/- strings.Join, as a contract on data. -/
import Derived.Test.YtkcfegkfbijedaaDoorAiTerm
import Derived.Test.YtkcfegkfbijedaaDoorAiSeat
import Derived.Test.YtkcfegkfbijedaaDoorAiRows
import Derived.Test.YtkcfegkfbijedaaDoorAiKinds
import Derived.Shelf.Strings.OnBuilder
import Derived.Shelf.Lay
import Derived.WalkKit
import Derived.Lib.Walk
namespace Go.Proofs
open Go.Shelf Go.RowKit
shelf_lay Lays.n156 Nm 156 at Tryd as Tryd.lays156
theorem builderX : Builder.Extra Tryd.prog Tryd.lays156_ren where
  sizeBuilder := by kernel_rfl
  liesBuilder := by kernel_rfl
  t5 := Tryd.underlying5
  a5 := Tryd.isAgg5
  z5 := Tryd.sizeOf5
  v5 := Tryd.zeroValue5
  infoByte := by kernel_rfl
  cellsByte := by kernel_rfl
  sizeByte := by kernel_rfl
  neB5 := by decide
theorem rd_strJ {w : World} {F : Go.Ai.Fz} {b sz : Nat} : ∀ (xs : List ByteArray) (o : Nat), Go.Ai.RdRows w F b sz o (xs.map Go.Ai.encS) → (xs ≠ [] → sz = 1) ∧ (∀ o', xs ≠ [] → F b o ∨ o' = o) ∧ ∀ (j : Nat) x, xs[j]? = some x → w.cell? ⟨b, o + j, none⟩ = some (.string x)
  | [], o, _ => ⟨fun h => absurd rfl h, fun _ h => absurd rfl h, fun j x hj => by simp at hj⟩
  | x :: xs, o, h => by
    simp only [List.map_cons, Go.Ai.RdRows, Go.Ai.encS, Go.Ai.RdCells, Go.Ai.Rd] at h
    obtain ⟨h1, ⟨hF, ⟨v, h2, rfl, _⟩, _⟩, h3⟩ := h
    have hs : sz = 1 := by simpa using h1.symm
    subst hs
    obtain ⟨_, _, k⟩ := rd_strJ xs (o + 1) h3
    refine ⟨fun _ => rfl, fun _ _ => .inl hF, fun j y hj => ?_⟩
    cases j with
    | zero => simp at hj; subst hj; simpa using h2
    | succ j =>
      have := k j y (by simpa using hj)
      rwa [show o + 1 + j = o + (j + 1) by omega] at this
end Go.Proofs
namespace Go.Ai
set_option linter.unusedVariables false
set_option linter.unusedSimpArgs false
open Go.Proofs Go.RowKit
set_option maxRecDepth 100000

def joinB (xs : List ByteArray) (sep : ByteArray) : ByteArray := ⟨(Lib.join (xs.map (·.data.toList)) sep.data.toList).toArray⟩
theorem stringsJoin_sat (xs : List ByteArray) (hne : xs ≠ []) (hl : xs.length < 1000000000) (sep : ByteArray) (hs : (joinB xs sep).size ≤ 1000000000) : Sat Tryd.prog 93 [slV (xs.map encS), strV sep] (strV (joinB xs sep)) := by
  refine ⟨⟨_, Tryd.func93, by decide +kernel, by intro h; cases h⟩, fun w F us hF hrep => ?_⟩
  simp only [RepAVs, RepAV, RepAC] at hrep
  obtain ⟨u, _, rfl, h, u2, _, rfl, h2, rfl⟩ := hrep
  simp only [Rd, List.length_map] at h h2
  obtain ⟨rfl, _⟩ := h2
  obtain ⟨A, cap, sz, rfl, hle, hcap, hsz, hnil, hrd⟩ := h
  have hlp : 0 < xs.length := List.length_pos_iff.2 hne
  cases A with
  | none => have := hnil rfl; omega
  | some a =>
    obtain ⟨hsp, hrows⟩ := hrd a rfl
    obtain ⟨bk, o, sp⟩ := a
    have hsp : sp = none := hsp (by omega)
    subst hsp
    obtain ⟨_, k2, k3⟩ := rd_strJ xs o hrows
    have hbk : bk < w.heap.size := hF.lt bk o ((k2 (o + 1) hne).resolve_right (by omega))
    have hsz2 : (Lib.join (xs.map (·.data.toList)) sep.data.toList).length ≤ 140737488355328 := by
      have e : (joinB xs sep).size = (Lib.join (xs.map (·.data.toList)) sep.data.toList).length := by simp [joinB, ByteArray.size]
      omega
    refine (Any.strings_Join Tryd.lays156 builderX bk o cap xs sep w k3 hbk (by omega) hle hsz2).mono ?_
    rintro e w' ⟨rfl, hb⟩
    refine ⟨_, F, rfl, hb, fun _ _ h => h, fun _ _ h => .inl h, fun b o h => Nat.lt_of_lt_of_le (hF.lt b o h) hb.size, ?_⟩
    simp only [RepAV, RepAC, Rd]
    exact ⟨rfl, trivial⟩
theorem implJoin_sat (xs : List ByteArray) (hne : xs ≠ []) (hl : xs.length < 1000000000) (sep : ByteArray) (hs : (joinB xs sep).size ≤ 1000000000) : Sat Tryd.prog 83 [slV (xs.map encS), strV sep] (strV (joinB xs sep)) := by
  have hi := stringsJoin_sat xs hne hl sep hs
  generalize joinB xs sep = r at hi ⊢
  refine sat_of_code tbOk mixed Tryd.func83 rfl rfl rfl (by decide +kernel) (by decide +kernel) (Nat.le_of_ble_eq_true rfl) ?_
  simp -implicitDefEqProofs (disch := omega) only [go_sem]
  refine CallK.mk hi ?_
  simp -implicitDefEqProofs (disch := omega) only [go_sem]
end Go.Ai
