/- A row as data where its cells are frozen. -/
import Derived.Test.YtmddjojbaompiaaGreatAiRows
set_option linter.unusedVariables false
set_option linter.unusedSimpArgs false
namespace Go.Ai
open Go.RowKit
variable {w : World} {F F1 : Fz} {lb : Lk} {g : Gh} {l : Nat} {e : TypeId} {sz : Nat} {rows : List (List AC)} {fz : Bool}
theorem row_show {rows' : List (List C)} (hrows : rows.map (fun r => r.map unN) = rows'.map (fun r => r.map .c)) (h : RepLB w F lb g l (.arr e sz rows fz)) (up : ∀ b o, F b o → F1 b o)
  (hF : ∀ b o, b ∈ blkOf (g.hd l) → o < rows.length * sz → F1 b o) : Rd w F1 (.sl rows') (g.hd l) := by
 obtain ⟨hsz, hrl, xs, S, hown, hcells, _⟩ := h
 have hlr : rows'.length = rows.length := by have := congrArg List.length hrows; rw [List.length_map, List.length_map] at this; exact this.symm
 have hl' : ∀ r, r ∈ rows' → r.length = sz := by
  intro r hr
  have : r.map AC.c ∈ rows.map (fun r => r.map unN) := by rw [hrows]; exact List.mem_map.2 ⟨r, hr, rfl⟩
  obtain ⟨q, hq1, hq2⟩ := List.mem_map.1 this
  have := congrArg List.length hq2
  rw [List.length_map, List.length_map] at this
  rw [← this]; exact hrl q hq1
 have hun := RepACs.mono (w' := w) ⟨up, fun _ _ _ => rfl⟩ (Keeps.refl lb g) _ _ (RepCells.unN hcells)
 rw [← map_unN_flatten, hrows] at hun
 simp only [Rd]
 rcases hown.2 with ⟨k1, k2⟩ | ⟨gg, cap, cur, k1, _, hh, hle, hcm, _, _⟩
 ·refine ⟨none, 0, 1, by rw [k1, hlr, k2], by omega, Nat.zero_le _, Nat.one_pos, fun _ => rfl, fun a ha => by cases ha⟩
 ·refine ⟨some ⟨gg, 0, none⟩, cap, sz, by rw [k1, hlr], by omega, hcm, hsz, fun h => (by cases h), fun a ha => ?_⟩
  obtain rfl := Option.some.inj ha
  refine ⟨fun _ => rfl, rows_rd rows' xs 0 hl' hun (fun j hj => ?_) (fun j u hj => ?_)⟩
  ·rw [Nat.zero_add]
   exact hF gg j (by rw [k1]; simp [blkOf, Value.ownBlock]) (by rw [← hlr]; exact hj)
  ·have := hown.cells (g := gg) (by rw [k1]; rfl) j u hj
   rwa [addr_add] at this
end Go.Ai
