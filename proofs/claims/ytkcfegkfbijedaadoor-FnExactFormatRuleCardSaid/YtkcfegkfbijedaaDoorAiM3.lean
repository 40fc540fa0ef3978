/- Marks: what laws.markText gives; slices of texts and numbers that are overwritten with marks, and looked at again. -/
import Derived.Test.YtkcfegkfbijedaaDoorAiMarks
import Derived.Test.YtkcfegkfbijedaaDoorAiC1
import Derived.Test.YtkcfegkfbijedaaDoorAiKinds
namespace Go.Ai
set_option linter.unusedVariables false
set_option linter.unusedSimpArgs false
open Go.Proofs
set_option maxRecDepth 100000

def mdig (k : Int) : ByteArray := bytesOf [[.c (.v (.int .u8 (IntKind.u8.wrap (48 + k.tmod 10))))]]
theorem mdig_size (k : Int) : (mdig k).size = 1 := rfl
def mloop : Nat → Int → ByteArray → ByteArray
  | 0, _, out => out
  | f + 1, k, out => if 0 < k then mloop f (k.tdiv 10) (mdig k ++ out) else out
def mtext (k : Int) : ByteArray := if k ≤ 0 then ⟨⟨[109, 48]⟩⟩ else ⟨⟨[109]⟩⟩ ++ mloop k.toNat k ⟨⟨[]⟩⟩

theorem markText_sat (k : Int) (hk : k ≤ 1000000000) : Sat Tryd.prog 56 [intV k] (strV (mtext k)) := by
  obtain ⟨r, hr⟩ : ∃ r, r = mtext k := ⟨_, rfl⟩
  rw [← hr]
  unfold mtext at hr
  refine sat_of_code tbOk mixed Tryd.func56 rfl rfl rfl (by decide +kernel) (by decide +kernel) (Nat.le_of_ble_eq_true rfl) ?_
  simp -implicitDefEqProofs (disch := omega) only [go_sem]
  refine ⟨fun h => ?_, fun h => ?_⟩
  · rw [hr, if_pos h]
  · rw [if_neg (by omega)] at hr
    refine loopA_rule (ι := Nat × Int × ByteArray) (fun i => mk 20 [(0, intV i.2.1), (3, strV i.2.2)] []) (fun i => i.2.1.toNat ≤ i.1 ∧ 0 ≤ i.2.1 ∧ i.2.1 ≤ 1000000000 ∧ i.2.2.size + i.2.1.toNat ≤ 1000000000 ∧ mloop i.1 i.2.1 i.2.2 = mloop k.toNat k ⟨⟨[]⟩⟩) (fun i => i.2.1.toNat) (k.toNat, k, ⟨⟨[]⟩⟩) ?_ ?_ tbOk mixed (by decide +kernel) ?_
    · exact ⟨Nat.le_refl _, by simp only; omega, hk, by simp [ByteArray.size]; omega, rfl⟩
    · exact le_mk (by simp [go_sem]) (by simp [go_sem])
    · rintro ⟨f, k', out⟩ ⟨h1, h2, h3, h4, h5⟩
      simp only at h1 h2 h3 h4 h5
      have hm : 0 ≤ k'.tmod 10 ∧ k'.tmod 10 < 10 := ⟨Int.tmod_nonneg _ h2, Int.tmod_lt_of_pos _ (by omega)⟩
      have hd : 0 ≤ k'.tdiv 10 ∧ k'.tdiv 10 * 10 ≤ k' := by
        refine ⟨Int.tdiv_nonneg h2 (by omega), ?_⟩
        have := Int.tmod_add_mul_tdiv k' 10
        omega
      simp -implicitDefEqProofs (disch := omega) only [go_sem]
      refine ⟨fun h => ?_, fun h => ?_⟩
      · have hs := mdig_size k'
        cases f with
        | zero => omega
        | succ f =>
          simp only [mloop, if_pos h] at h5
          have e : bytesOf [[.c (.v (.int .u8 (IntKind.u8.wrap (48 + k'.tmod 10))))]] = mdig k' := rfl
          rw [e]
          refine ⟨by omega, fun _ => ⟨by simp [isByte], fun _ => ⟨by omega, fun _ => ⟨by omega, fun _ => ⟨(f, k'.tdiv 10, mdig k' ++ out), ⟨?_, hd.1, ?_, ?_, h5⟩, ?_, le_mk (by simp [go_sem]) (by simp [go_sem])⟩⟩⟩⟩⟩
          · simp only; omega
          · simp only; omega
          · simp only [ByteArray.size_append]; omega
          · simp only; omega
      · cases f with
        | zero =>
          simp only [mloop] at h5
          subst h5
          have e1 : (⟨#[109]⟩ : ByteArray).size = 1 := rfl
          exact ⟨by omega, fun _ => by rw [hr]⟩
        | succ f =>
          simp only [mloop, if_neg h] at h5
          subst h5
          have e1 : (⟨#[109]⟩ : ByteArray).size = 1 := rfl
          exact ⟨by omega, fun _ => by rw [hr]⟩

/-! ### Marked texts and numbers -/
def marksS : List ByteArray → Int → List ByteArray
  | [], _ => []
  | _ :: xs, k => mtext k :: marksS xs (k + 1)
def marksI : List Int → Int → List Int
  | [], _ => []
  | _ :: xs, k => k :: marksI xs (k + 1)
theorem marksS_len : ∀ (xs : List ByteArray) (k : Int), (marksS xs k).length = xs.length
  | [], _ => rfl
  | _ :: xs, k => by simp [marksS, marksS_len xs]
theorem marksI_len : ∀ (xs : List Int) (k : Int), (marksI xs k).length = xs.length
  | [], _ => rfl
  | _ :: xs, k => by simp [marksI, marksI_len xs]

theorem drop_marksS : ∀ (xs : List ByteArray) (k : Int) (i : Nat), i < xs.length → ∃ h : i < (marksS xs k).length, (marksS xs k)[i] = mtext (k + i)
  | [], _, _, h => by simp at h
  | _ :: xs, k, 0, _ => ⟨by simp [marksS], by simp [marksS]⟩
  | _ :: xs, k, i + 1, h => by
    obtain ⟨h1, h2⟩ := drop_marksS xs (k + 1) i (by simpa using h)
    exact ⟨by simpa [marksS] using h1, by simp only [marksS, List.getElem_cons_succ, h2]; congr 1; omega⟩
theorem drop_marksI : ∀ (xs : List Int) (k : Int) (i : Nat), i < xs.length → ∃ h : i < (marksI xs k).length, (marksI xs k)[i] = k + i
  | [], _, _, h => by simp at h
  | _ :: xs, k, 0, _ => ⟨by simp [marksI], by simp [marksI]⟩
  | _ :: xs, k, i + 1, h => by
    obtain ⟨h1, h2⟩ := drop_marksI xs (k + 1) i (by simpa using h)
    exact ⟨by simpa [marksI] using h1, by simp only [marksI, List.getElem_cons_succ, h2]; omega⟩
end Go.Ai
/- Marks on data of any type: what the mark functions make of it. -/
namespace Go.Ai
set_option linter.unusedVariables false
set_option linter.unusedSimpArgs false
open Go.Proofs

mutual
def mkC : C → Int → C × Int
  | .v (.int kd _), k => (.v (.int kd k), k + 1)
  | .v (.string _), k => (.v (.string (mtext k)), k + 1)
  | .v x, k => (.v x, k)
  | .sl rows, k => (.sl (mkRows rows k).1, (mkRows rows k).2)
def mkCells : List C → Int → List C × Int
  | [], k => ([], k)
  | c :: cs, k => ((mkC c k).1 :: (mkCells cs (mkC c k).2).1, (mkCells cs (mkC c k).2).2)
def mkRows : List (List C) → Int → List (List C) × Int
  | [], k => ([], k)
  | r :: rs, k => ((mkCells r k).1 :: (mkRows rs (mkCells r k).2).1, (mkRows rs (mkCells r k).2).2)
end
/-- Only what lies behind the slices is marked. -/
def mkTop : List C → Int → List C × Int
  | [], k => ([], k)
  | .v x :: cs, k => (.v x :: (mkTop cs k).1, (mkTop cs k).2)
  | .sl rows :: cs, k => (.sl (mkRows rows k).1 :: (mkTop cs (mkRows rows k).2).1, (mkTop cs (mkRows rows k).2).2)

theorem mkRows_len : ∀ (rows : List (List C)) (k : Int), (mkRows rows k).1.length = rows.length
  | [], _ => rfl
  | r :: rs, k => by simp [mkRows, mkRows_len rs]
theorem mkCells_len : ∀ (cs : List C) (k : Int), (mkCells cs k).1.length = cs.length
  | [], _ => rfl
  | c :: cs, k => by simp [mkCells, mkCells_len cs]

/-- The number before the i-th row. -/
def kAt (rows : List (List C)) (k : Int) (i : Nat) : Int := (mkRows (rows.take i) k).2
theorem kAt_zero (rows : List (List C)) (k : Int) : kAt rows k 0 = k := rfl
theorem kAt_all (rows : List (List C)) (k : Int) : kAt rows k rows.length = (mkRows rows k).2 := by simp [kAt]
theorem mkRows_at : ∀ (rows : List (List C)) (k : Int) (i : Nat) (h : i < rows.length), ∃ h' : i < (mkRows rows k).1.length, (mkRows rows k).1[i] = (mkCells rows[i] (kAt rows k i)).1 ∧ kAt rows k (i + 1) = (mkCells rows[i] (kAt rows k i)).2
  | [], _, _, h => by simp at h
  | r :: rs, k, 0, _ => ⟨by simp [mkRows], by simp [mkRows, kAt], by simp [mkRows, kAt]⟩
  | r :: rs, k, i + 1, h => by
    obtain ⟨h1, h2, h3⟩ := mkRows_at rs (mkCells r k).2 i (by simpa using h)
    exact ⟨by simpa [mkRows] using h1, by simpa [mkRows, kAt] using h2, by simpa [mkRows, kAt] using h3⟩

mutual
def cnt : C → Nat
  | .v (.int _ _) => 1
  | .v (.string _) => 1
  | .v _ => 0
  | .sl rows => cntRows rows
def cntCells : List C → Nat
  | [] => 0
  | c :: cs => cnt c + cntCells cs
def cntRows : List (List C) → Nat
  | [] => 0
  | r :: rs => cntCells r + cntRows rs
end
mutual
theorem mkC_cnt : ∀ (c : C) (k : Int), (mkC c k).2 = k + cnt c
  | .v x, k => by
    cases x <;> simp [mkC, cnt]
  | .sl rows, k => by simp only [mkC, cnt]; exact mkRows_cnt rows k
theorem mkCells_cnt : ∀ (cs : List C) (k : Int), (mkCells cs k).2 = k + cntCells cs
  | [], k => by simp [mkCells, cntCells]
  | c :: cs, k => by
    simp only [mkCells, cntCells]
    rw [mkCells_cnt cs, mkC_cnt c]; omega
theorem mkRows_cnt : ∀ (rows : List (List C)) (k : Int), (mkRows rows k).2 = k + cntRows rows
  | [], k => by simp [mkRows, cntRows]
  | r :: rs, k => by
    simp only [mkRows, cntRows]
    rw [mkRows_cnt rs, mkCells_cnt r]; omega
end
def cntTop : List C → Nat
  | [] => 0
  | .v _ :: cs => cntTop cs
  | .sl rows :: cs => cntRows rows + cntTop cs
theorem mkTop_cnt : ∀ (cs : List C) (k : Int), (mkTop cs k).2 = k + cntTop cs
  | [], k => by simp [mkTop, cntTop]
  | .v x :: cs, k => by simp only [mkTop, cntTop]; exact mkTop_cnt cs k
  | .sl rows :: cs, k => by
    simp only [mkTop, cntTop]
    rw [mkTop_cnt cs, mkRows_cnt]; omega
theorem cntTop_le : ∀ cs : List C, cntTop cs ≤ cntCells cs
  | [] => Nat.le_refl _
  | .v x :: cs => by simp only [cntTop, cntCells]; have := cntTop_le cs; omega
  | .sl rows :: cs => by simp only [cntTop, cntCells, cnt]; have := cntTop_le cs; omega
theorem cntRows_take : ∀ (rows : List (List C)) (i : Nat), cntRows (rows.take i) ≤ cntRows rows
  | [], i => by simp
  | r :: rs, 0 => by simp [cntRows]
  | r :: rs, i + 1 => by simp only [List.take_succ_cons, cntRows]; have := cntRows_take rs i; omega
theorem kAt_cnt (rows : List (List C)) (k : Int) (i : Nat) : kAt rows k i = k + cntRows (rows.take i) := mkRows_cnt _ _
theorem cntRows_get : ∀ (rows : List (List C)) (i : Nat) (h : i < rows.length), cntRows (rows.take i) + cntCells rows[i] ≤ cntRows rows
  | [], _, h => by simp at h
  | r :: rs, 0, _ => by simp [cntRows]
  | r :: rs, i + 1, h => by
    have := cntRows_get rs i (by simpa using h)
    simp only [List.take_succ_cons, cntRows, List.getElem_cons_succ]; omega

/-! ### How many marks, by size -/
mutual
def csz : C → Nat
  | .v (.string s) => s.size
  | .v _ => 0
  | .sl rows => cszRows rows
def cszCells : List C → Nat
  | [] => 0
  | c :: cs => csz c + cszCells cs
def cszRows : List (List C) → Nat
  | [] => 0
  | r :: rs => 1 + cszCells r + cszRows rs
end
mutual
/-- No row is wider than 64 cells. -/
def nar : C → Prop
  | .v _ => True
  | .sl rows => narRows rows
def narCells : List C → Prop
  | [] => True
  | c :: cs => nar c ∧ narCells cs
def narRows : List (List C) → Prop
  | [] => True
  | r :: rs => r.length ≤ 64 ∧ narCells r ∧ narRows rs
end
mutual
theorem cnt_le : ∀ (c : C), nar c → cnt c ≤ 64 * csz c + 1
  | .v x, _ => by cases x <;> simp [cnt]
  | .sl rows, h => by simp only [cnt, csz]; have := cntRows_le rows h; omega
theorem cntCells_le : ∀ (cs : List C), narCells cs → cntCells cs ≤ 64 * cszCells cs + cs.length
  | [], _ => by simp [cntCells]
  | c :: cs, h => by
    simp only [cntCells, cszCells, List.length_cons]
    have := cnt_le c h.1
    have := cntCells_le cs h.2
    omega
theorem cntRows_le : ∀ (rows : List (List C)), narRows rows → cntRows rows ≤ 64 * cszRows rows
  | [], _ => by simp [cntRows]
  | r :: rs, h => by
    simp only [cntRows, cszRows]
    have := cntCells_le r h.2.1
    have := cntRows_le rs h.2.2
    have := h.1
    omega
end
theorem cszRows_map {α : Type} (ec : α → List C) (f : α → Nat) (h : ∀ x, cszCells (ec x) = f x) (xs : List α) : cszRows (xs.map ec) = szL f xs := by
  induction xs with
  | nil => rfl
  | cons x xs ih => simp only [List.map_cons, cszRows, szL, ih, h]
theorem narRows_map {α : Type} (ec : α → List C) (h : ∀ x, (ec x).length ≤ 64 ∧ narCells (ec x)) (xs : List α) : narRows (xs.map ec) := by
  induction xs with
  | nil => trivial
  | cons x xs ih => exact ⟨(h x).1, (h x).2, ih⟩
theorem cszCells_append : ∀ (a b : List C), cszCells (a ++ b) = cszCells a + cszCells b
  | [], _ => by simp [cszCells]
  | c :: a, b => by simp only [List.cons_append, cszCells, cszCells_append a b]; omega
theorem narCells_append : ∀ (a b : List C), narCells a → narCells b → narCells (a ++ b)
  | [], _, _, h => h
  | c :: a, b, h, k => ⟨h.1, narCells_append a b h.2 k⟩
theorem Tm.csz : ∀ t : Tm, cszCells t.enc = t.size := by
  refine Tm.ind (fun k n s ts ih => ?_)
  have : cszRows (Tm.encs ts) = Tm.sizes ts := by
    induction ts with
    | nil => rfl
    | cons a ts ih2 => simp only [Tm.encs, cszRows, Tm.sizes, ih a (by simp), ih2 (fun b hb => ih b (by simp [hb]))]
  simp [Tm.enc, Tm.size, cszCells, Ai.csz, this]
theorem Tm.nar : ∀ t : Tm, narCells t.enc := by
  refine Tm.ind (fun k n s ts ih => ?_)
  have : narRows (Tm.encs ts) := by
    induction ts with
    | nil => trivial
    | cons a ts ih2 => exact ⟨by rw [enc_len]; omega, ih a (by simp), ih2 (fun b hb => ih b (by simp [hb]))⟩
  exact ⟨trivial, trivial, trivial, this, trivial⟩

theorem cszE_I (x : Int) : cszCells (encI x) = szI x := rfl
theorem cszE_S (x : ByteArray) : cszCells (encS x) = szS x := by simp [encS, szS, cszCells, csz]
theorem cszE_B (x : Bool) : cszCells (encB x) = szB x := by simp [encB, szB, cszCells, csz]
theorem narE_I (x : Int) : narCells (encI x) := ⟨trivial, trivial⟩
theorem narE_S (x : ByteArray) : narCells (encS x) := ⟨trivial, trivial⟩
theorem narE_B (x : Bool) : narCells (encB x) := ⟨trivial, trivial⟩
theorem cszL_of {α : Type} {ec : α → List C} {f : α → Nat} (h : ∀ x, cszCells (ec x) = f x) (xs : List α) : cszCells (encL ec xs) = szL f xs := by
  simp only [encL, cszCells, csz, Nat.add_zero]; exact cszRows_map ec f h xs
theorem narL_of {α : Type} {ec : α → List C} (h : ∀ x, (ec x).length ≤ 64 ∧ narCells (ec x)) (xs : List α) : narCells (encL ec xs) := ⟨narRows_map ec h xs, trivial⟩

/-! ### Terms, as the pattern for the others -/
theorem mkCells_tm (k n : Int) (s : ByteArray) (ts : List Tm) (i : Int) : mkCells (Tm.enc (.mk k n s ts)) i = ([.v (.int .i64 i), .v (.int .i64 (i + 1)), .v (.string (mtext (i + 1 + 1))), .sl (mkRows (Tm.encs ts) (i + 1 + 1 + 1)).1], (mkRows (Tm.encs ts) (i + 1 + 1 + 1)).2) := by
  simp [Tm.enc, mkCells, mkC]
end Go.Ai
/- Marks on terms. -/
namespace Go.Ai
set_option linter.unusedVariables false
set_option linter.unusedSimpArgs false
open Go.Proofs
set_option maxRecDepth 100000

theorem markTermS_nil (k : Int) : Sat Tryd.prog 42 [slV [], intV k] (intV k) := by
  refine sat_of_code tbOk mixed Tryd.func42 rfl rfl rfl (by decide +kernel) (by decide +kernel) (Nat.le_of_ble_eq_true rfl) ?_
  simp -implicitDefEqProofs (disch := omega) only [go_sem]
  refine loopA_rule (ι := Unit) (fun _ => mk 42 [(0, slV []), (1, intV k), (5, intV 0)] []) (fun _ => True) (fun _ => 0) () trivial ?_ tbOk mixed (by decide +kernel) ?_
  · exact le_mk (by simp [go_sem]) (by simp [go_sem])
  · intro _ _
    simp -implicitDefEqProofs (disch := omega) only [go_sem]
    intro h; omega
theorem markTermS_1 (xs : List Tm) (k : Int) (h0 : 0 ≤ k) (h1 : (mkRows (xs.map Tm.enc) k).2 ≤ 100000000) (hl : xs.length ≤ maxLen)
    (ih : ∀ t, t ∈ xs → ∀ k : Int, 0 ≤ k → (mkRows (Tm.encs t.args) k).2 ≤ 100000000 → SatM Tryd.prog 42 [.one (.m (.sl (Tm.encs t.args))), intV k] [.one (.m (.sl (mkRows (Tm.encs t.args) k).1)), intV k] (intV (mkRows (Tm.encs t.args) k).2)) :
    SatM Tryd.prog 42 [.one (.m (.sl (xs.map Tm.enc))), intV k] [.one (.m (.sl (mkRows (xs.map Tm.enc) k).1)), intV k] (intV (mkRows (xs.map Tm.enc) k).2) := by
  cases hx : xs with
  | nil => simpa [mkRows] using satM_nil (rest := [intV k]) rfl rfl (markTermS_nil k)
  | cons x0 xs0 =>
    rw [← hx]
    simp only [maxLen] at hl
    obtain ⟨rows, hrows⟩ : ∃ rows, rows = xs.map Tm.enc := ⟨_, rfl⟩
    have lr : rows.length = xs.length := by rw [hrows]; simp
    rw [← hrows] at h1 ⊢
    refine satM_slice 9001 4 tbOk mixed Tryd.func42 rfl rfl rfl (by decide +kernel) (by decide +kernel) (Nat.le_of_ble_eq_true rfl) rfl rfl (by rw [hrows, hx]; simp) (by rw [hrows]; simp [enc_len]) (fun e => ?_)
    simp -implicitDefEqProofs (disch := omega) only [go_sem]
    obtain ⟨G, hG⟩ : ∃ G, G = rows.map fun q => q.map mC := ⟨_, rfl⟩
    obtain ⟨Fr, hFr⟩ : ∃ Fr, Fr = (mkRows rows k).1.map fun q => q.map mC := ⟨_, rfl⟩
    have lG : G.length = rows.length := by rw [hG]; simp
    have lF : Fr.length = G.length := by rw [hFr, lG]; simp [mkRows_len]
    have iF : ∀ lb r, r ∈ Fr → ∀ a, a ∈ r → inC lb a := fun lb => by rw [hFr]; exact mrows_in lb
    have iG : ∀ lb r, r ∈ G → ∀ a, a ∈ r → inC lb a := fun lb => by rw [hG]; exact mrows_in lb
    have nF : noD Fr = true := by rw [hFr]; exact mrows_noD
    have nG : noD G = true := by rw [hG]; exact mrows_noD
    rw [← hG]
    refine loopW_rule (ι := Nat) (fun i => mk 42 [(0, .one (.own 9001 rows.length)), (1, intV (kAt rows k i)), (5, intV i)] [(9001, .arr e 4 (turnR Fr G i) false)] [.one (.own 9001 rows.length)]) (fun i => i ≤ rows.length) (fun i => rows.length - i) 0 (Nat.zero_le _) ?_ tbOk mixed (by decide +kernel) ?_
    · exact le_mk (by simp [go_sem, kAt_zero]) (by simp only [leB, lookB_cons, if_true, inB, turnR_zero, true_and, and_true]; exact iG _)
    · intro i hi
      have hlen := turnR_len (i := i) lF (by omega)
      rcases Nat.lt_or_ge i rows.length with hlt | hge
      · have hi' : i < G.length := by omega
        obtain ⟨hm, eM, eK⟩ := mkRows_at rows k i hlt
        have hb1 := kAt_cnt rows k i
        have hb2 := cntRows_get rows i hlt
        have hb3 := mkRows_cnt rows k
        have hb4 := mkCells_cnt rows[i] (kAt rows k i)
        have ex : rows[i] = Tm.enc (xs[i]'(by omega)) := by simp [hrows]
        have hmem : xs[i]'(by omega) ∈ xs := List.getElem_mem _
        have hih := ih _ hmem
        generalize xs[i]'(by omega) = x at ex hih hmem
        obtain ⟨xk, xn, xs', xt⟩ := x
        simp only [Tm.args] at hih
        rw [ex] at eM eK hb2 hb4
        rw [mkCells_tm] at eM eK hb4
        generalize hK : kAt rows k i = K at eM eK hb1 hb4
        have hKn : 0 ≤ K := by omega
        have hc3 := mkRows_cnt (Tm.encs xt) (K + 1 + 1 + 1)
        have eG : G[i] = [iC xk, iC xn, sC xs', .m (.sl (Tm.encs xt))] := by simp [hG, ex, Tm.enc, mC]
        have eF : Fr[i]'(by omega) = [iC K, iC (K + 1), sC (mtext (K + 1 + 1)), .m (.sl (mkRows (Tm.encs xt) (K + 1 + 1 + 1)).1)] := by simp [hFr, eM, mC]
        have hfin := turnS_turnR lF hi'
        rw [eF] at hfin
        have sl := fun r => turnS_len lF hi' r
        have sg := fun r => turnS_get lF hi' r
        rw [turnR_eq lF hi' eG]
        refine ⟨_, wk_takeS (l := 9001) (T := 9103) (c := 3) lF hi' rfl rfl rfl (by exact turnS_noD nF nG rfl), ?_⟩
        simp -implicitDefEqProofs (disch := omega) only [go_sem, sl, sg, turnS_set, lG, hlt, List.forall_mem_cons, List.not_mem_nil]
        refine CallK.bor (markText_sat _ (by omega)) rfl ?_
        simp -implicitDefEqProofs (disch := omega) only [go_sem, sl, sg, turnS_set, lG, hlt, List.forall_mem_cons, List.not_mem_nil]
        refine CallK.mut (hih (K + 1 + 1 + 1) (by omega) (by omega)) ?_
        simp -implicitDefEqProofs (disch := omega) only [go_sem, sl, sg, turnS_set, lG, hlt, List.forall_mem_cons, List.not_mem_nil]
        refine ⟨i + 1, hlt, by omega, (wk_giveS (l := 9001) (T := 9103) (c := 3) lF hi' rfl rfl rfl).trans (le_mk (by simp [go_sem, eK]) ?_)⟩
        simp only [leB, lookB_cons, if_true, inB, true_and, and_true]
        exact ⟨by rw [← hfin]; rfl, turnR_in (iF _) (iG _)⟩
      · have : i = rows.length := by omega
        subst this
        refine ⟨_, Wk.refl _, ?_⟩
        simp -implicitDefEqProofs (disch := omega) only [go_sem, hlen, lG, Nat.lt_irrefl, kAt_all]
        exact turnedRow_mk rfl (by rw [turnR_end lF lG.symm, hFr]) (by rw [mkRows_len]) rfl

theorem markTermS_tm : ∀ (t : Tm), t.wf → ∀ k : Int, 0 ≤ k → (mkRows (Tm.encs t.args) k).2 ≤ 100000000 → SatM Tryd.prog 42 [.one (.m (.sl (Tm.encs t.args))), intV k] [.one (.m (.sl (mkRows (Tm.encs t.args) k).1)), intV k] (intV (mkRows (Tm.encs t.args) k).2) := by
  refine Tm.ind (fun k n s ts ih hw k0 h0 h1 => ?_)
  simp only [Tm.args, encs_map] at h1 ⊢
  have hws := (wfs_iff ts).1 hw.2.2.2.2
  exact markTermS_1 ts k0 h0 h1 hw.2.2.2.1 (fun t ht k h0 h1 => ih t ht (hws t ht) k h0 h1)
theorem markTermS_sat (ts : List Tm) (hw : wfL Tm.wf ts) (k : Int) (h0 : 0 ≤ k) (h1 : (mkRows (ts.map Tm.enc) k).2 ≤ 100000000) : SatM Tryd.prog 42 [.one (.m (.sl (ts.map Tm.enc))), intV k] [.one (.m (.sl (mkRows (ts.map Tm.enc) k).1)), intV k] (intV (mkRows (ts.map Tm.enc) k).2) :=
  markTermS_1 ts k h0 h1 hw.1 (fun t ht k h0 h1 => markTermS_tm t (hw.2 t ht) k h0 h1)

/-! ### laws.heldTermS -/
theorem markTerm_sat (k n : Int) (s : ByteArray) (ts : List Tm) (hw : (Tm.mk k n s ts).wf) (i : Int) (h0 : 0 ≤ i) (h1 : (mkRows (Tm.encs ts) i).2 ≤ 100000000) : SatM Tryd.prog 19 [.agg [iC k, iC n, sC s, .m (.sl (Tm.encs ts))], intV i] [.agg [iC k, iC n, sC s, .m (.sl (mkRows (Tm.encs ts) i).1)], intV i] (intV (mkRows (Tm.encs ts) i).2) := by
  refine satM_of_code 9000 tbOk mixed Tryd.func19 rfl rfl rfl (by decide +kernel) (by decide +kernel) (Nat.le_of_ble_eq_true rfl) rfl rfl rfl ?_
  simp -implicitDefEqProofs (disch := omega) only [go_sem]
  refine CallK.mut (markTermS_tm (.mk k n s ts) hw i h0 h1) ?_
  simp -implicitDefEqProofs (disch := omega) only [go_sem, Tm.args]
end Go.Ai
/- What laws.toTerm and laws.toTermS give is owned. -/
namespace Go.Ai
set_option linter.unusedVariables false
set_option linter.unusedSimpArgs false
open Go.Proofs
set_option maxRecDepth 100000

theorem toTermF_1 (k n : Int) (s : ByteArray) (ts : List Tm) (ih : SatF Tryd.prog 30 [tmsV ts] (tmsV ts)) :
    SatF Tryd.prog 8 [tmV (.mk k n s ts)] (tmV (.mk k n s ts)) := by
  refine satF_of_code [tmV (.mk k n s ts)] rfl (fun _ h => by cases h) tbOk mixed Tryd.func8 rfl rfl rfl (by decide +kernel) (by decide +kernel) (Nat.le_of_ble_eq_true rfl) ?_
  simp -implicitDefEqProofs (disch := omega) only [go_sem, Tm.enc]
  refine CallK.own ih rfl ?_
  simp -implicitDefEqProofs (disch := omega) only [go_sem, Tm.enc]

theorem toTermSF_1 (ts : List Tm) (hl : ts.length < 1048577) (ih : ∀ t, t ∈ ts → SatF Tryd.prog 8 [tmV t] (tmV t)) : SatF Tryd.prog 30 [tmsV ts] (tmsV ts) := by
  obtain ⟨rows, hrows⟩ : ∃ rows, rows = ts.map Tm.enc := ⟨_, rfl⟩
  have lr : rows.length = ts.length := by rw [hrows]; simp
  rw [tmsV, encs_map, ← hrows]
  refine satF_of_code [slV rows] rfl (fun _ h => by cases h) tbOk mixed Tryd.func30 rfl rfl rfl (by decide +kernel) (by decide +kernel) (Nat.le_of_ble_eq_true rfl) ?_
  simp -implicitDefEqProofs (disch := omega) only [go_sem, lr]
  refine ⟨⟨by omega, by omega⟩, fun _ => ?_⟩
  obtain ⟨Z, hZ⟩ : ∃ Z, Z = List.replicate ts.length zT := ⟨_, rfl⟩
  obtain ⟨Fr, hFr⟩ : ∃ Fr, Fr = rows.map fun q => q.map dC := ⟨_, rfl⟩
  have lZ : Z.length = ts.length := by rw [hZ]; simp
  have lF : Fr.length = Z.length := by rw [hFr, lZ]; simp [lr]
  have iF : ∀ lb r, r ∈ Fr → ∀ a, a ∈ r → inC lb a := fun lb => by rw [hFr]; exact drows_in lb
  have iZ : ∀ lb r, r ∈ Z → ∀ a, a ∈ r → inC lb a := fun lb => by rw [hZ]; exact rep_in (by simp [zT, inC])
  rw [← hZ]
  refine loopA_rule (ι := Nat) (fun i => mk 23 [(0, slV rows), (3, .one (.own 7 ts.length)), (4, intV i)] [(7, .arr 30 4 (turnR Fr Z i) false)]) (fun i => i ≤ ts.length) (fun i => ts.length - i) 0 (Nat.zero_le _) ?_ tbOk mixed (by decide +kernel) ?_
  · exact le_mk (by simp [go_sem]) (by simp only [leB, lookB_cons, if_true, inB, turnR_zero, true_and, and_true]; exact iZ _)
  · intro i hi
    have hlen := turnR_len (i := i) lF (by omega)
    rcases Nat.lt_or_ge i ts.length with hlt | hge
    · have hi' : i < Z.length := by omega
      have hg : rows.getD i [] = (ts[i]).enc := by rw [hrows]; exact map_getD hlt
      have eZ : Z[i] = zT := by simp [hZ]
      have eF : Fr[i]'(by omega) = (ts[i]).enc.map dC := by simp [hFr, hrows]
      have hih := ih _ (List.getElem_mem hlt)
      generalize ts[i] = x at hg eF hih
      obtain ⟨xk, xn, xs, xt⟩ := x
      have hfin := turnS_turnR lF hi'
      rw [eF] at hfin
      have sl := fun r => turnS_len lF hi' r
      have sg := fun r => turnS_get lF hi' r
      rw [turnR_eq lF hi' eZ]
      simp -implicitDefEqProofs (disch := omega) only [go_sem, hg, hlt, lr, lZ, sl, sg, turnS_set, enc_len]
      refine CallK.own hih rfl ?_
      simp -implicitDefEqProofs (disch := omega) only [go_sem, hg, hlt, lr, lZ, sl, sg, turnS_set, Tm.enc, List.forall_mem_cons, List.not_mem_nil]
      refine ⟨i + 1, hlt, by omega, (wk_moveS (l := 7) (c := 3) lF hi' rfl rfl rfl rfl).trans (le_mk (by simp [go_sem]) ?_)⟩
      simp only [leB, lookB_cons, if_true, inB, true_and, and_true]
      exact ⟨by rw [← hfin]; rfl, turnR_in (iF _) (iZ _)⟩
    · have : i = ts.length := by omega
      subst this
      simp -implicitDefEqProofs (disch := omega) only [go_sem, hlen, lZ, lr, Nat.lt_irrefl]
      rw [turnR_end lF lZ.symm, hFr]
      exact ⟨drows_isO, drows_toC⟩
theorem toTermF_sat : ∀ (t : Tm), t.size < 1048577 → SatF Tryd.prog 8 [tmV t] (tmV t) := by
  refine Tm.ind (fun k n s ts ih h => toTermF_1 k n s ts (toTermSF_1 ts ?_ (fun t ht => ih t ht ?_)))
  · have := len_sizes ts; simp only [Tm.size] at h; omega
  · have := size_mem ts t ht; simp only [Tm.size] at h; omega
theorem toTermSF_sat (ts : List Tm) (h : Tm.sizes ts < 1048577) : SatF Tryd.prog 30 [tmsV ts] (tmsV ts) :=
  toTermSF_1 ts (by have := len_sizes ts; omega) (fun t ht => toTermF_sat t (by have := size_mem ts t ht; omega))
end Go.Ai
