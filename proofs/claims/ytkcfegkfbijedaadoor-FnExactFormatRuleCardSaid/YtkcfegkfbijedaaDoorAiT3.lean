/- Numbers as texts, on both sides: FormatInt. -/
import Derived.Test.YtkcfegkfbijedaaDoorAiTerm
import Derived.Test.YtkcfegkfbijedaaDoorAiSeat
import Derived.Test.YtkcfegkfbijedaaDoorAiRows
import Derived.Test.YtkcfegkfbijedaaDoorAiKinds
import Derived.Shelf.Strconv.Itoa3
import Derived.Shelf.Lay
import Derived.WalkKit
import Derived.Lib.Walk
namespace Go.Proofs
open Go.Shelf Go.RowKit Go.Sort
shelf_lay LaysM.n171 Nm 171 at Tryd as Tryd.lays171
end Go.Proofs
namespace Go.Ai
set_option linter.unusedVariables false
set_option linter.unusedSimpArgs false
open Go.Proofs Go.RowKit
set_option maxRecDepth 100000

def itoaB (n : Int) : ByteArray := ⟨(Lib.itoa n).toArray⟩
theorem tabIs_of {w : World} {F : Fz} (h : TblOk w F) : Lib.TabIs Tryd.prog w "internal/strconv.uint64pow10" .u64 Lib.pow10Tab := by
  obtain ⟨_, e, fr, hh⟩ := h 0 _ (List.mem_singleton.2 rfl)
  have hg : Tryd.prog.globalNamed "internal/strconv.uint64pow10" = some 0 := by kernel_rfl
  unfold Lib.TabIs World.var?
  rw [hg]
  simp only [Option.bind_some, hh]
  simp [Lib.pow10Tab]
theorem below_grown2 (w : World) (k : Nat) (os : Array Obj) : Below w.heap.size w (Sort.grow (w.drewN k) os) := by
  refine ⟨rfl, rfl, rfl, ?_, fun b hb => ?_⟩
  · simp [Sort.grow, World.drewN]
  · simp [Sort.grow, World.drewN, Array.getElem?_append, hb]
theorem strconvItoa_sat (n : Int) (h0 : -9223372036854775808 ≤ n) (h1 : n ≤ 9223372036854775807) : Sat Tryd.prog 50 [intV n] (strV (itoaB n)) := by
  refine ⟨⟨_, Tryd.func50, by decide +kernel, by intro h; cases h⟩, fun w F us hF hrep => ?_⟩
  simp only [RepAVs, RepAV, RepAC] at hrep
  obtain ⟨u, _, rfl, h, rfl⟩ := hrep
  simp only [Rd] at h
  obtain ⟨rfl, _⟩ := h
  refine (Any.strconv_Itoa Tryd.lays171 n h0 h1 w (tabIs_of hF.tb)).mono ?_
  rintro e w' ⟨rfl, k, os, rfl⟩
  have hb := below_grown2 w k os
  refine ⟨_, F, rfl, hb, fun _ _ h => h, fun _ _ h => .inl h, fun b o h => Nat.lt_of_lt_of_le (hF b o h) hb.size, ?_⟩
  simp only [RepAV, RepAC, Rd]
  exact ⟨rfl, trivial⟩
theorem implFormatInt_sat (n : Int) (h0 : -9223372036854775808 ≤ n) (h1 : n ≤ 9223372036854775807) : Sat Tryd.prog 32 [intV n] (strV (itoaB n)) := by
  have hi := strconvItoa_sat n h0 h1
  generalize itoaB n = r at hi ⊢
  refine sat_of_code tbOk mixed Tryd.func32 rfl rfl rfl (by decide +kernel) (by decide +kernel) (Nat.le_of_ble_eq_true rfl) ?_
  simp -implicitDefEqProofs (disch := omega) only [go_sem]
  refine CallK.mk hi ?_
  simp -implicitDefEqProofs (disch := omega) only [go_sem]

def digs (u : Nat) : List UInt8 := if u = 0 then [] else Lib.decDigits u
theorem digs_step (u : Nat) (h : 0 < u) : digs u = digs (u / 10) ++ [UInt8.ofNat (48 + u % 10)] := by
  unfold digs
  rw [if_neg (by omega), Lib.decDigits]
  split
  · rename_i h10
    rw [if_pos (by omega)]
    simp [Nat.mod_eq_of_lt h10]
  · rename_i h10
    rw [if_neg (by omega)]
def byteS (m : Nat) : ByteArray := ⟨#[UInt8.ofNat m]⟩
theorem bytesOf_one (m : Int) (k : Nat) (h : m = k) : bytesOf [[.c (.v (.int .u8 m))]] = byteS k := by
  subst h
  rfl
/-- What is left to be told, and what stands already. -/
def FmtI (n : Int) (x : Int × ByteArray) : Prop :=
  (Lib.decDigits n.natAbs = digs x.1.natAbs ++ x.2.data.toList) ∧ (n < 0 → x.1 ≤ 0) ∧ (0 ≤ n → 0 ≤ x.1) ∧ 2 * x.2.size + x.1.natAbs ≤ n.natAbs + (if x.1 = 0 then 1 else 0)
theorem fmt_step (n : Int) (h0 : -9223372036854775808 ≤ n) (h1 : n ≤ 9223372036854775807) (x : Int × ByteArray) (hx : FmtI n x) (h : x.1 ≠ 0) : FmtI n (x.1.tdiv 10, byteS (48 + x.1.natAbs % 10) ++ x.2) ∧ (x.1.tdiv 10).natAbs < x.1.natAbs ∧ (x.1.tdiv 10).natAbs = x.1.natAbs / 10 := by
  obtain ⟨a, b, c, d⟩ := hx
  have e : (x.1.tdiv 10).natAbs = x.1.natAbs / 10 := by rw [Int.natAbs_tdiv]; rfl
  have hs : 0 ≤ x.1 → 0 ≤ x.1.tdiv 10 := fun h => Int.tdiv_nonneg h (by omega)
  have hs2 : x.1 ≤ 0 → x.1.tdiv 10 ≤ 0 := fun h => by
    have := Int.tdiv_nonneg (a := -x.1) (b := 10) (by omega) (by omega)
    rw [Int.neg_tdiv] at this
    omega
  refine ⟨⟨?_, fun hn => hs2 (b hn), fun hn => hs (c hn), ?_⟩, by omega, e⟩
  · rw [a, digs_step x.1.natAbs (by omega)]
    simp [e, byteS]
  · have hsz : (byteS (48 + x.1.natAbs % 10) ++ x.2).size = 1 + x.2.size := by
      rw [ByteArray.size_append]; rfl
    rw [if_neg h] at d
    simp only [hsz]
    split
    · omega
    · rename_i h2; omega
theorem fmt_end (n : Int) (hn : n ≠ 0) (x : Int × ByteArray) (hx : FmtI n x) (h : x.1 = 0) : (n < 0 → itoaB n = byteS 45 ++ x.2) ∧ (¬ n < 0 → itoaB n = x.2) := by
  obtain ⟨a, _, _, _⟩ := hx
  rw [h] at a
  have a : Lib.decDigits n.natAbs = x.2.data.toList := a
  refine ⟨fun hlt => ?_, fun hge => ?_⟩
  · unfold itoaB Lib.itoa
    rw [if_pos hlt, a]
    apply ByteArray.ext
    simp [byteS]
  · unfold itoaB Lib.itoa
    rw [if_neg hge, show n.toNat = n.natAbs by omega, a]
theorem dig_val (m : Int) : (m.tmod 10 < 0 → IntKind.u8.wrap (IntKind.i64.wrap (48 + IntKind.i64.wrap (0 - m.tmod 10))) = ((48 + m.natAbs % 10 : Nat) : Int)) ∧
    (m.tmod 10 < 0 → False → True) ∧ (¬ m.tmod 10 < 0 → IntKind.u8.wrap (IntKind.i64.wrap (48 + m.tmod 10)) = ((48 + m.natAbs % 10 : Nat) : Int)) := by
  have hm : (0 ≤ m ∧ m.tmod 10 = ((m.natAbs % 10 : Nat) : Int)) ∨ (m < 0 ∧ m.tmod 10 = -((m.natAbs % 10 : Nat) : Int)) := by
    rcases Int.lt_or_le m 0 with h | h
    · right
      refine ⟨h, ?_⟩
      obtain ⟨x, rfl⟩ : ∃ x : Int, m = -x := ⟨-m, by omega⟩
      rw [Int.neg_tmod, Int.tmod_eq_emod_of_nonneg (by omega)]
      omega
    · left
      exact ⟨h, by rw [Int.tmod_eq_emod_of_nonneg h]; omega⟩
  have hk : m.natAbs % 10 < 10 := Nat.mod_lt _ (by omega)
  generalize m.natAbs % 10 = k at hm hk
  generalize m.tmod 10 = d at hm
  refine ⟨fun h => ?_, fun _ h => h.elim, fun h => ?_⟩
  · rw [IntWalk.i64_in (0 - d) (by omega), IntWalk.i64_in _ (by omega), IntWalk.u8_in _ (by omega)]
    omega
  · rw [IntWalk.i64_in _ (by omega), IntWalk.u8_in _ (by omega)]
    omega
theorem specFormatInt_sat (n : Int) (h0 : -9223372036854775808 ≤ n) (h1 : n ≤ 9223372036854775807) : Sat Tryd.prog 29 [intV n] (strV (itoaB n)) := by
  obtain ⟨r, hr⟩ : ∃ r, r = itoaB n := ⟨_, rfl⟩
  rw [← hr]
  have hend := fmt_end n
  rw [← hr] at hend
  refine sat_of_code tbOk mixed Tryd.func29 rfl rfl rfl (by decide +kernel) (by decide +kernel) (Nat.le_of_ble_eq_true rfl) ?_
  simp -implicitDefEqProofs (disch := omega) only [go_sem]
  refine ⟨fun h => ?_, fun h => ?_⟩
  · subst h
    rw [hr]
    simp [itoaB, Lib.itoa, Lib.decDigits]
  · have hn : n ≠ 0 := by simpa using h
    refine loopA_rule (ι := Int × ByteArray) (fun x => mk 31 [(0, intV x.1), (3, boolV (decide (n < 0))), (4, strV x.2)] []) (FmtI n) (fun x => x.1.natAbs) (n, ⟨#[]⟩) ⟨by simp [digs, show ¬ n.natAbs = 0 by omega], fun h => by simp only; omega, fun h => h, by simp only [ByteArray.size]; simp⟩ ?_ tbOk mixed (by decide +kernel) ?_
    · exact le_mk (by simp [go_sem]) (by simp [go_sem])
    · rintro ⟨m, o⟩ hx
      by_cases hm : m = 0
      · have hb := hend hn (m, o) hx hm
        subst hm
        have hz := hx.2.2.2
        simp only [if_true] at hz
        simp -implicitDefEqProofs (disch := omega) only [go_sem]
        exact ⟨fun hlt => ⟨by show ((1 + o.size : Nat) : Int) ≤ _; omega, fun _ => by rw [hb.1 hlt]; rfl⟩, fun hge => by rw [hb.2 hge]⟩
      · have hst := fmt_step n h0 h1 (m, o) hx hm
        have hmb : (m != 0) = true := by simpa using hm
        have hdv := dig_val m
        simp only at hst
        obtain ⟨a, b, c, d⟩ := hx
        simp only [if_neg hm] at b c d
        have hsz : ∀ k, (byteS k).size = 1 := fun _ => rfl
        simp -implicitDefEqProofs (disch := omega) only [go_sem, hmb]
        refine ⟨by omega, fun _ => ⟨fun hneg => ?_, fun hpos => ?_⟩⟩
        · rw [hdv.1 hneg, bytesOf_one _ _ rfl, hsz]
          exact ⟨by simp [isByte], fun _ => ⟨by omega, fun _ => ⟨by omega, fun _ => ⟨(m.tdiv 10, _), hst.1, hst.2.1, le_mk (by simp [go_sem]) (by simp [go_sem])⟩⟩⟩⟩
        · rw [hdv.2.2 hpos, bytesOf_one _ _ rfl, hsz]
          exact ⟨by simp [isByte], fun _ => ⟨by omega, fun _ => ⟨by omega, fun _ => ⟨(m.tdiv 10, _), hst.1, hst.2.1, le_mk (by simp [go_sem]) (by simp [go_sem])⟩⟩⟩⟩
end Go.Ai
