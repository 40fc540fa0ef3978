/- Marks: what laws.markText gives; slices of texts and numbers that are overwritten with marks, and looked at again. -/
import Derived.Test.YtdjleacnjijbjaaAiMarks
import Derived.Test.YtdjleacnjijbjaaAiC1
import Derived.Test.YtdjleacnjijbjaaAiKinds
namespace Go.Ai
set_option linter.unusedVariables false
set_option linter.unusedSimpArgs false
open Go.Proofs
set_option maxRecDepth 100000

def mdig (k : Int) : ByteArray := bytesOf [[.c (.v (.int .u8 (IntKind.u8.wrap (48 + k.tmod 10))))]]
theorem mdig_size (k : Int) : (mdig k).size = 1 := rfl
def mloop : Nat → Int → ByteArray → ByteArray
  | 0, _, out => out
  | f + 1, k, out => if 0 < k then mloop f (k.tdiv 10) (mdig k ++ out) else out
def mtext (k : Int) : ByteArray := if k ≤ 0 then ⟨⟨[109, 48]⟩⟩ else ⟨⟨[109]⟩⟩ ++ mloop k.toNat k ⟨⟨[]⟩⟩

theorem markText_sat (k : Int) (hk : k ≤ 1000000000) : Sat Try.prog 115 [intV k] (strV (mtext k)) := by
  obtain ⟨r, hr⟩ : ∃ r, r = mtext k := ⟨_, rfl⟩
  rw [← hr]
  unfold mtext at hr
  refine sat_of_code tbOk mixed Try.func115 rfl rfl rfl (by decide +kernel) (by decide +kernel) (Nat.le_of_ble_eq_true rfl) ?_
  simp -implicitDefEqProofs (disch := omega) only [go_sem, ↓reduceIte, reduceCtorEq, Nat.reduceEqDiff, Nat.reduceLT, Nat.reduceLeDiff, Nat.reduceAdd, Nat.reduceSub, Nat.reduceMul, IntWalk.i64_in, AV.one.injEq, AC.c.injEq, C.v.injEq, Value.int.injEq, Value.bool.injEq, beq_self_eq_true, bne_self_eq_false]
  refine ⟨fun h => ?_, fun h => ?_⟩
  · rw [hr, if_pos h]
  · rw [if_neg (by omega)] at hr
    refine loopA_rule (ι := Nat × Int × ByteArray) (fun i => mk 20 [(0, intV i.2.1), (3, strV i.2.2)] []) (fun i => i.2.1.toNat ≤ i.1 ∧ 0 ≤ i.2.1 ∧ i.2.1 ≤ 1000000000 ∧ i.2.2.size + i.2.1.toNat ≤ 1000000000 ∧ mloop i.1 i.2.1 i.2.2 = mloop k.toNat k ⟨⟨[]⟩⟩) (fun i => i.2.1.toNat) (k.toNat, k, ⟨⟨[]⟩⟩) ?_ ?_ tbOk mixed (by decide +kernel) ?_
    · exact ⟨Nat.le_refl _, by simp only; omega, hk, by simp [ByteArray.size]; omega, rfl⟩
    · exact le_mk (by simp [go_sem]) (by simp [go_sem])
    · rintro ⟨f, k', out⟩ ⟨h1, h2, h3, h4, h5⟩
      simp only at h1 h2 h3 h4 h5
      have hm : 0 ≤ k'.tmod 10 ∧ k'.tmod 10 < 10 := ⟨Int.tmod_nonneg _ h2, Int.tmod_lt_of_pos _ (by omega)⟩
      have hd : 0 ≤ k'.tdiv 10 ∧ k'.tdiv 10 * 10 ≤ k' := by
        refine ⟨Int.tdiv_nonneg h2 (by omega), ?_⟩
        have := Int.tmod_add_mul_tdiv k' 10
        omega
      simp -implicitDefEqProofs (disch := omega) only [go_sem, ↓reduceIte, reduceCtorEq, Nat.reduceEqDiff, Nat.reduceLT, Nat.reduceLeDiff, Nat.reduceAdd, Nat.reduceSub, Nat.reduceMul, IntWalk.i64_in, AV.one.injEq, AC.c.injEq, C.v.injEq, Value.int.injEq, Value.bool.injEq, beq_self_eq_true, bne_self_eq_false]
      refine ⟨fun h => ?_, fun h => ?_⟩
      · have hs := mdig_size k'
        cases f with
        | zero => omega
        | succ f =>
          simp only [mloop, if_pos h] at h5
          have e : bytesOf [[.c (.v (.int .u8 (IntKind.u8.wrap (48 + k'.tmod 10))))]] = mdig k' := rfl
          rw [e]
          refine ⟨by omega, fun _ => ⟨by simp [isByte], fun _ => ⟨by omega, fun _ => ⟨by omega, fun _ => ⟨(f, k'.tdiv 10, mdig k' ++ out), ⟨?_, hd.1, ?_, ?_, h5⟩, ?_, le_mk (by simp [go_sem]) (by simp [go_sem])⟩⟩⟩⟩⟩
          · simp only; omega
          · simp only; omega
          · simp only [ByteArray.size_append]; omega
          · simp only; omega
      · cases f with
        | zero =>
          simp only [mloop] at h5
          subst h5
          have e1 : (⟨#[109]⟩ : ByteArray).size = 1 := rfl
          exact ⟨by omega, fun _ => by rw [hr]⟩
        | succ f =>
          simp only [mloop, if_neg h] at h5
          subst h5
          have e1 : (⟨#[109]⟩ : ByteArray).size = 1 := rfl
          exact ⟨by omega, fun _ => by rw [hr]⟩

/-! ### Marked texts and numbers -/
def marksS : List ByteArray → Int → List ByteArray
  | [], _ => []
  | _ :: xs, k => mtext k :: marksS xs (k + 1)
def marksI : List Int → Int → List Int
  | [], _ => []
  | _ :: xs, k => k :: marksI xs (k + 1)
theorem marksS_len : ∀ (xs : List ByteArray) (k : Int), (marksS xs k).length = xs.length
  | [], _ => rfl
  | _ :: xs, k => by simp [marksS, marksS_len xs]
theorem marksI_len : ∀ (xs : List Int) (k : Int), (marksI xs k).length = xs.length
  | [], _ => rfl
  | _ :: xs, k => by simp [marksI, marksI_len xs]

theorem drop_marksS : ∀ (xs : List ByteArray) (k : Int) (i : Nat), i < xs.length → ∃ h : i < (marksS xs k).length, (marksS xs k)[i] = mtext (k + i)
  | [], _, _, h => by simp at h
  | _ :: xs, k, 0, _ => ⟨by simp [marksS], by simp [marksS]⟩
  | _ :: xs, k, i + 1, h => by
    obtain ⟨h1, h2⟩ := drop_marksS xs (k + 1) i (by simpa using h)
    exact ⟨by simpa [marksS] using h1, by simp only [marksS, List.getElem_cons_succ, h2]; congr 1; omega⟩
theorem drop_marksI : ∀ (xs : List Int) (k : Int) (i : Nat), i < xs.length → ∃ h : i < (marksI xs k).length, (marksI xs k)[i] = k + i
  | [], _, _, h => by simp at h
  | _ :: xs, k, 0, _ => ⟨by simp [marksI], by simp [marksI]⟩
  | _ :: xs, k, i + 1, h => by
    obtain ⟨h1, h2⟩ := drop_marksI xs (k + 1) i (by simpa using h)
    exact ⟨by simpa [marksI] using h1, by simp only [marksI, List.getElem_cons_succ, h2]; omega⟩
end Go.Ai
