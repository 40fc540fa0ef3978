/- The symbol at a position, on both sides; the law on SymbolAt. -/
import Derived.Test.YtkcfegkfbijedaaGreatDoorAiT3
import Derived.Test.YtkcfegkfbijedaaGreatDoorAiY1
import Derived.Test.YtkcfegkfbijedaaGreatDoorAiD1
namespace Go.Ai
set_option linter.unusedVariables false
set_option linter.unusedSimpArgs false
open Go.Proofs Go.RowKit
set_option maxRecDepth 100000

def symT : Tm → ByteArray
  | .mk k n s ts => if k = 1 then ⟨#[]⟩ else if k = 3 then itoaB n else s ++ ⟨#[47]⟩ ++ itoaB ts.length
def symAt (t : Tm) (p : List Int) : ByteArray := match atp p t with
  | some u => symT u
  | none => ⟨#[]⟩
theorem atp_wf : ∀ (p : List Int) (t u : Tm), t.wf → atp p t = some u → u.wf
  | [], t, u, h, e => by cases e; exact h
  | i :: p, .mk k n s ts, u, h, e => by
    simp only [atp] at e
    split at e
    · rename_i hc
      simp only [Bool.and_eq_true, decide_eq_true_eq] at hc
      refine atp_wf p _ u ?_ e
      simp only [Tm.wf] at h
      have := (wfs_iff ts).1 h.2.2.2.2
      exact this _ (by rw [List.getD_eq_getElem?_getD, List.getElem?_eq_getElem (by omega)]; exact List.getElem_mem _)
    · cases e
theorem wf_int {n : Int} (h : (Lit.int .i64 n).wf = true) : -9223372036854775808 ≤ n ∧ n ≤ 9223372036854775807 := by
  simp only [Lit.wf, decide_eq_true_eq, Bool.and_eq_true] at h
  first | exact h | (simp [IntKind.min, IntKind.max, IntKind.signed, IntKind.bits, IntKind.fits] at h; omega)
theorem decDigits_len : ∀ (k u : Nat), u ≤ k → (Lib.decDigits u).length ≤ u + 1
  | 0, u, h => by
    rw [Lib.decDigits, dif_pos (by omega)]; simp
  | k + 1, u, h => by
    rw [Lib.decDigits]
    split
    · simp
    · have := decDigits_len k (u / 10) (by omega)
      simp only [List.length_append, List.length_cons, List.length_nil]
      omega
theorem itoaB_len (n : Nat) : (itoaB n).size ≤ n + 1 := by
  have := decDigits_len n n (Nat.le_refl _)
  unfold itoaB Lib.itoa
  rw [if_neg (by omega)]
  simpa [ByteArray.size] using this
theorem implSymbolAt_sat (t : Tm) (ht : t.wf) (hz : t.size < 1048577) (p : List Int) (hp : p.length < 100000000) : Sat Tryz.prog 53 [tmV t, slV (p.map encI)] (strV (symAt t p)) := by
  have ha := implAt_sat t hz p hp
  obtain ⟨r, hr⟩ : ∃ r, r = symAt t p := ⟨_, rfl⟩
  rw [← hr]
  unfold symAt at hr
  cases hq : atp p t with
  | none =>
    rw [hq] at ha hr
    simp only at hr
    subst hr
    obtain ⟨k, n, s, ts⟩ := t
    refine sat_of_code tbOk mixed Tryz.func53 rfl rfl rfl (by decide +kernel) (by decide +kernel) (Nat.le_of_ble_eq_true rfl) ?_
    simp -implicitDefEqProofs (disch := omega) only [go_sem, Tm.enc]
    refine CallK.mk ha ?_
    simp -implicitDefEqProofs (disch := omega) only [go_sem, Option.getD_none, Option.isSome_none, zeroT, Tm.enc]
  | some u =>
    rw [hq] at ha hr
    simp only at hr
    have hu := atp_wf p t u ht hq
    have huz := atp_size p t u hq
    obtain ⟨k, n, s, ts⟩ := t
    obtain ⟨k2, n2, s2, ts2⟩ := u
    simp only [Tm.wf] at hu
    have hn := wf_int hu.2.1
    have hl := len_sizes ts2
    simp only [Tm.size] at huz hz
    have h1 := implFormatInt_sat n2 hn.1 hn.2
    have h2 := implFormatInt_sat (ts2.length : Int) (by omega) (by omega)
    have hl2 := itoaB_len ts2.length
    have hr : r = if k2 = 1 then ⟨#[]⟩ else if k2 = 3 then itoaB n2 else s2 ++ ⟨#[47]⟩ ++ itoaB ts2.length := hr
    generalize itoaB n2 = r1 at h1 hr
    generalize itoaB ts2.length = r2 at h2 hr hl2
    refine sat_of_code tbOk mixed Tryz.func53 rfl rfl rfl (by decide +kernel) (by decide +kernel) (Nat.le_of_ble_eq_true rfl) ?_
    simp -implicitDefEqProofs (disch := omega) only [go_sem, Tm.enc]
    refine CallK.mk ha ?_
    simp -implicitDefEqProofs (disch := omega) only [go_sem, Option.getD_some, Option.isSome_some, Tm.enc]
    refine ⟨fun h => by rw [hr, if_pos h], fun hk => ?_⟩
    rw [if_neg (by simpa using hk)] at hr
    refine ⟨fun h => ?_, fun hk3 => ?_⟩
    · refine CallK.mk h1 ?_
      simp -implicitDefEqProofs (disch := omega) only [go_sem]
      rw [hr, if_pos h]
    · rw [if_neg (by simpa using hk3)] at hr
      refine ⟨by show ((s2.size + 1 : Nat) : Int) ≤ _; omega, fun _ => CallK.mk h2 ?_⟩
      simp -implicitDefEqProofs (disch := omega) only [go_sem]
      rw [hr]
      exact ⟨by show ((s2.size + 1 + r2.size : Nat) : Int) ≤ _; omega, fun _ => rfl⟩
theorem specSymbolAt_sat (t : Tm) (ht : t.wf) (hz : t.size < 1048577) (p : List Int) (hp : p.length < 100000000) : Sat Tryz.prog 41 [tmV t, slV (p.map encI)] (strV (symAt t p)) := by
  have ha := specTermAtp_sat t hz p hp
  obtain ⟨r, hr⟩ : ∃ r, r = symAt t p := ⟨_, rfl⟩
  rw [← hr]
  unfold symAt at hr
  cases hq : atp p t with
  | none =>
    rw [hq] at ha hr
    simp only at hr
    subst hr
    obtain ⟨k, n, s, ts⟩ := t
    refine sat_of_code tbOk mixed Tryz.func41 rfl rfl rfl (by decide +kernel) (by decide +kernel) (Nat.le_of_ble_eq_true rfl) ?_
    simp -implicitDefEqProofs (disch := omega) only [go_sem, Tm.enc]
    refine CallK.mk ha ?_
    simp -implicitDefEqProofs (disch := omega) only [go_sem, Option.getD_none, Option.isSome_none, zeroT, Tm.enc]
  | some u =>
    rw [hq] at ha hr
    simp only at hr
    have hu := atp_wf p t u ht hq
    have huz := atp_size p t u hq
    obtain ⟨k, n, s, ts⟩ := t
    obtain ⟨k2, n2, s2, ts2⟩ := u
    simp only [Tm.wf] at hu
    have hn := wf_int hu.2.1
    have hl := len_sizes ts2
    simp only [Tm.size] at huz hz
    have h1 := specFormatInt_sat n2 hn.1 hn.2
    have h2 := specFormatInt_sat (ts2.length : Int) (by omega) (by omega)
    have hl2 := itoaB_len ts2.length
    have hr : r = if k2 = 1 then ⟨#[]⟩ else if k2 = 3 then itoaB n2 else s2 ++ ⟨#[47]⟩ ++ itoaB ts2.length := hr
    generalize itoaB n2 = r1 at h1 hr
    generalize itoaB ts2.length = r2 at h2 hr hl2
    refine sat_of_code tbOk mixed Tryz.func41 rfl rfl rfl (by decide +kernel) (by decide +kernel) (Nat.le_of_ble_eq_true rfl) ?_
    simp -implicitDefEqProofs (disch := omega) only [go_sem, Tm.enc]
    refine CallK.mk ha ?_
    simp -implicitDefEqProofs (disch := omega) only [go_sem, Option.getD_some, Option.isSome_some, Tm.enc]
    refine ⟨fun h => by rw [hr, if_pos h], fun hk => ?_⟩
    rw [if_neg (by simpa using hk)] at hr
    refine ⟨fun h => ?_, fun hk3 => ?_⟩
    · refine CallK.mk h1 ?_
      simp -implicitDefEqProofs (disch := omega) only [go_sem]
      rw [hr, if_pos h]
    · rw [if_neg (by simpa using hk3)] at hr
      refine ⟨by show ((s2.size + 1 : Nat) : Int) ≤ _; omega, fun _ => CallK.mk h2 ?_⟩
      simp -implicitDefEqProofs (disch := omega) only [go_sem]
      rw [hr]
      exact ⟨by show ((s2.size + 1 + r2.size : Nat) : Int) ≤ _; omega, fun _ => rfl⟩
end Go.Ai
