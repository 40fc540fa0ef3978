/- Terms as texts. -/
import Derived.Test.YtkcfegkfbijedaaDoorAiFR1
import Derived.Test.YtkcfegkfbijedaaDoorAiT3
import Derived.Test.YtkcfegkfbijedaaDoorAiU2
namespace Go.Ai
set_option linter.unusedVariables false
set_option linter.unusedSimpArgs false
open Go.Proofs
set_option maxRecDepth 100000

abbrev sSep : ByteArray := ⟨#[44, 32]⟩
abbrev sOpen : ByteArray := ⟨#[40]⟩
abbrev sClose : ByteArray := ⟨#[41]⟩
mutual
def Tm.text : Tm → ByteArray
  | .mk k n s ts => if k = 3 then itoaB n else if ts = [] then s else s ++ sOpen ++ joinB (Tm.texts ts) sSep ++ sClose
def Tm.texts : List Tm → List ByteArray
  | [] => []
  | a :: ts => a.text :: Tm.texts ts
end
theorem texts_map : ∀ (ts : List Tm), Tm.texts ts = ts.map Tm.text
  | [] => rfl
  | a :: ts => by simp only [Tm.texts, List.map_cons, texts_map ts]
theorem bytes_app (a b : ByteArray) : (a ++ b).data.toList = a.data.toList ++ b.data.toList := by simp
theorem join_snoc (xs : List (List UInt8)) (hne : xs ≠ []) (y sep : List UInt8) : Lib.join (xs ++ [y]) sep = Lib.join xs sep ++ sep ++ y := by
  cases xs with
  | nil => exact absurd rfl hne
  | cons x r => rw [List.cons_append, Lib.join_cons, Lib.join_cons]; simp [Lib.joinTail]
theorem joinB_snoc (xs : List ByteArray) (hne : xs ≠ []) (y sep : ByteArray) : joinB (xs ++ [y]) sep = joinB xs sep ++ sep ++ y := by
  apply ByteArray.ext
  apply Array.toList_inj.1
  rw [bytes_app, bytes_app]
  simp only [joinB, List.map_append, List.map_cons, List.map_nil]
  rw [join_snoc _ (by simpa using hne)]
theorem joinB_one (y sep : ByteArray) : joinB [y] sep = y := by
  apply ByteArray.ext
  apply Array.toList_inj.1
  simp [joinB, Lib.join_one]
theorem itoa_small (n : Int) (h0 : 0 ≤ n) (h1 : n ≤ 3) : (itoaB n).size = 1 := by
  have : n = 0 ∨ n = 1 ∨ n = 2 ∨ n = 3 := by omega
  rcases this with rfl | rfl | rfl | rfl <;> simp [itoaB, Lib.itoa, Lib.decDigits, ByteArray.size]
def lensB (xs : List ByteArray) : Nat := (xs.map fun x => x.size + 2).sum
theorem joinB_size (xs : List ByteArray) : (joinB xs sSep).size ≤ lensB xs := by
  cases xs with
  | nil => simp [joinB, Lib.join_nil, ByteArray.size]
  | cons x r =>
    have h := Lib.join_length x.data.toList (r.map (·.data.toList)) sSep.data.toList
    have e : (joinB (x :: r) sSep).size = (Lib.join ((x :: r).map (·.data.toList)) sSep.data.toList).length := by simp [joinB, ByteArray.size]
    rw [e, List.map_cons, h]
    have h2 : ∀ (l : List ByteArray), Lib.lens (l.map (·.data.toList)) + 2 * l.length = lensB l := by
      intro l
      induction l with
      | nil => rfl
      | cons a l ih =>
        have e1 : Lib.lens ((a :: l).map (·.data.toList)) = a.size + Lib.lens (l.map (·.data.toList)) := by
          have : a.data.toList.length = a.size := by rw [Array.length_toList]; rfl
          rw [← this]
          simp only [Lib.lens, List.map_cons, List.sum_cons]
        have e2 : lensB (a :: l) = (a.size + 2) + lensB l := rfl
        rw [e1, e2, List.length_cons]
        omega
    have h3 := h2 (x :: r)
    rw [List.map_cons, List.length_cons] at h3
    rw [List.length_map]
    have e4 : sSep.data.toList.length = 2 := rfl
    rw [e4]
    omega
theorem node_k3 (n : Int) (s : ByteArray) (ts : List Tm) (h : (Tm.mk 3 n s ts).nodes = true) : 0 ≤ n ∧ n ≤ 3 := by
  simp only [Tm.nodes, nodeB, Bool.and_eq_true] at h
  simp at h
  omega
theorem node_name (k n : Int) (s : ByteArray) (ts : List Tm) (hk : ¬ k = 3) (h : (Tm.mk k n s ts).nodes = true) : 1 ≤ s.size ∧ s.size ≤ 8 := by
  simp only [Tm.nodes, nodeB, Bool.and_eq_true] at h
  have h := h.1
  split at h
  · simp only [Bool.and_eq_true, nameB, decide_eq_true_eq] at h; omega
  · split at h
    · simp only [Bool.and_eq_true, nameB, decide_eq_true_eq] at h; omega
    · split at h
      · rename_i hk3; exact absurd (by simpa using hk3) hk
      · cases h
mutual
theorem text_size : ∀ (t : Tm), t.nodes = true → t.text.size + 2 ≤ 14 * t.cnt ∧ 1 ≤ t.text.size
  | .mk k n s ts, h => by
    simp only [Tm.text, Tm.cnt]
    by_cases hk : k = 3
    · subst hk
      obtain ⟨h0, h1⟩ := node_k3 n s ts h
      rw [if_pos rfl, itoa_small n h0 h1]; omega
    · rw [if_neg hk]
      obtain ⟨h1, h2⟩ := node_name k n s ts hk h
      simp only [Tm.nodes, Bool.and_eq_true] at h
      have ih := texts_size ts h.2
      have hj := joinB_size (Tm.texts ts)
      split
      · omega
      · have e1 : sOpen.size = 1 := rfl
        have e2 : sClose.size = 1 := rfl
        rw [ByteArray.size_append, ByteArray.size_append, ByteArray.size_append, e1, e2]; omega
theorem texts_size : ∀ (ts : List Tm), Tm.nodess ts = true → lensB (Tm.texts ts) ≤ 14 * Tm.cnts ts
  | [], _ => by simp [Tm.texts, lensB]
  | a :: ts, h => by
    simp only [Tm.nodess, Bool.and_eq_true] at h
    have h1 := (text_size a h.1).1
    have h2 := texts_size ts h.2
    simp only [Tm.texts, lensB, List.map_cons, List.sum_cons, Tm.cnts] at h2 ⊢
    omega
end
theorem texts_take (ts : List Tm) (i : Nat) (h : i < ts.length) : Tm.texts (ts.take (i + 1)) = Tm.texts (ts.take i) ++ [ts[i].text] := by
  rw [texts_map, texts_map, List.take_add_one, List.getElem?_eq_getElem h, List.map_append]; rfl
theorem cnts_takeT (ts : List Tm) (i : Nat) (h : i < ts.length) : Tm.cnts (ts.take i) + ts[i].cnt ≤ Tm.cnts ts := by
  have e := List.take_append_drop i ts
  have h1 := cnts_app (ts.take i) (ts.drop i)
  rw [e, List.drop_eq_getElem_cons h] at h1
  simp only [Tm.cnts] at h1
  omega
theorem nodess_take (ts : List Tm) (i : Nat) (h : Tm.nodess ts = true) : Tm.nodess (ts.take i) = true := by
  rw [nodess_all] at h ⊢
  exact List.all_eq_true.2 fun x hx => List.all_eq_true.1 h x (List.mem_of_mem_take hx)
abbrev textSat (f : FuncId) (t : Tm) : Prop := t.nodes = true → t.cnt ≤ 60 → t.size < 1048577 → Sat Tryd.prog f [tmV t] (strV t.text)
theorem implText_1 (k n : Int) (s : ByteArray) (ts : List Tm) (ih : ∀ t, t ∈ ts → textSat 74 t) : textSat 74 (.mk k n s ts) := by
  intro hn hc hz
  have hts := text_size _ hn
  have hkn := fun (h : k = 3) => node_k3 n s ts (h ▸ hn)
  have hss := node_name k n s ts
  have hi := fun (h : k = 3) => implFormatInt_sat n (by have := hkn h; omega) (by have := hkn h; omega)
  have hn0 := hn
  simp only [Tm.nodes, Bool.and_eq_true] at hn
  simp only [Tm.cnt] at hc
  simp only [Tm.size] at hz
  have hl := len_sizes ts
  have htx := texts_size ts hn.2
  have hjs := joinB_size (Tm.texts ts)
  have hjo := fun (h : Tm.texts ts ≠ []) => implJoin_sat (Tm.texts ts) h (by rw [texts_map, List.length_map]; omega) sSep (by omega)
  have hsz : ∀ t, t ∈ ts → t.size < s.size + Tm.sizes ts := fun t ht => by have := size_mem ts t ht; omega
  obtain ⟨r, hr⟩ : ∃ r, r = (Tm.mk k n s ts).text := ⟨_, rfl⟩
  rw [← hr] at hts ⊢
  simp only [Tm.text] at hr
  refine sat_of_code tbOk mixed Tryd.func74 rfl rfl rfl (by decide +kernel) (by decide +kernel) (Nat.le_of_ble_eq_true rfl) ?_
  simp -implicitDefEqProofs (disch := omega) only [go_sem, Tm.enc, enc_len]
  refine ⟨fun hk => CallK.mk (hi hk) ?_, fun hk => ⟨fun h0 => ?_, fun h0 => ?_⟩⟩
  · simp -implicitDefEqProofs (disch := omega) only [go_sem]
    rw [hr, if_pos hk]
  · have : ts = [] := List.eq_nil_of_length_eq_zero (by omega)
    rw [hr, if_neg (by simpa using hk), if_pos this]
  · have hlp : 0 < ts.length := by have : ¬ (ts.length : Int) = 0 := by simpa using h0
                                   omega
    have hne : ¬ ts = [] := fun e => by rw [e] at hlp; simp at hlp
    rw [if_neg (by simpa using hk), if_neg hne] at hr
    have hjo := hjo (by rw [texts_map]; simpa using hne)
    have hs8 := hss (by simpa using hk) hn0
    refine loopA_rule (ι := Nat) (fun i => mk 38 [(1, .one (.ptr 1 0)), (3, .one (.own 9000 i)), (19, slV (Tm.encs ts)), (20, intV ts.length), (21, intV i)] [(1, .var [iC k, iC n, sC s, tC ts]), (9000, .arr 9 1 (rowsOf encS (Tm.texts (ts.take i))) false)])
      (fun i => i ≤ ts.length) (fun i => ts.length - i) 0 (Nat.zero_le _) ?_ tbOk mixed (by decide +kernel) ?_
    · refine (wk_nil (t := 3) 9000 9 1 rfl (by decide) rfl (by decide)).trans ?_
      exact le_mk (by simp [go_sem]) (by simp [go_sem, Tm.texts, rowsOf])
    · intro i hi
      have hle : (Tm.texts (ts.take i)).length = i := by rw [texts_map, List.length_map, List.length_take]; omega
      rcases Nat.lt_or_ge i ts.length with hlt | hge
      · have hg := encs_getD ts i hlt
        have htk := texts_take ts i hlt
        have hnt := hn.2
        rw [nodess_all] at hnt
        have hcm : ts[i].cnt ≤ Tm.cnts ts := by have := cnts_takeT ts i hlt; omega
        have hih := ih _ (List.getElem_mem hlt) (List.all_eq_true.1 hnt _ (List.getElem_mem hlt)) (by omega) (by have := hsz _ (List.getElem_mem hlt); omega)
        generalize ts[i].text = x at htk hih
        generalize ts[i] = a at hg hih
        obtain ⟨ak, an, as', at_⟩ := a
        simp only [Tm.enc] at hg
        simp -implicitDefEqProofs (disch := omega) only [go_sem, hg, hlt, enc_len, hle]
        refine CallK.mk hih ?_
        simp -implicitDefEqProofs (disch := omega) only [go_sem, hg, hlt, enc_len, hle]
        refine ⟨⟨by simp, by omega, by omega⟩, fun _ => ⟨i + 1, hlt, by omega, ?_⟩⟩
        have e1 : rowsOf encS (Tm.texts (ts.take i)) ++ [[sC x]] = rowsOf encS (Tm.texts (ts.take (i + 1))) := by rw [htk]; exact rowsOf_snoc (ec := encS) x
        rw [e1]
        exact le_mk (by simp [go_sem]) (by simp [go_sem])
      · have : i = ts.length := by omega
        subst this
        rw [List.take_length] at hle ⊢
        have f40 : (#[40] : Array UInt8).size = 1 := rfl
        have f41 : (#[41] : Array UInt8).size = 1 := rfl
        have hq : r.size = s.size + 1 + (joinB (Tm.texts ts) sSep).size + 1 := by
          rw [hr, ByteArray.size_append, ByteArray.size_append, ByteArray.size_append]; rfl
        generalize joinB (Tm.texts ts) sSep = jj at hjo hr hjs hq
        simp -implicitDefEqProofs (disch := omega) only [go_sem, Nat.lt_irrefl, enc_len, hle]
        refine ⟨by rw [f40]; omega, fun _ => CallK.mk hjo ?_⟩
        simp -implicitDefEqProofs (disch := omega) only [go_sem]
        exact ⟨by rw [f40]; omega, fun _ => ⟨by rw [f40, f41]; omega, fun _ => by rw [hr]⟩⟩
theorem implText_sat : ∀ (t : Tm), textSat 74 t := Tm.ind (fun k n s ts ih => implText_1 k n s ts ih)
/-- What is written before the i-th argument. -/
def outT (s : ByteArray) (ts : List Tm) (i : Nat) : ByteArray := if i = 0 then s else s ++ sOpen ++ joinB (Tm.texts (ts.take i)) sSep
theorem outT_size (s : ByteArray) (ts : List Tm) (i : Nat) : (outT s ts i).size ≤ s.size + 1 + lensB (Tm.texts (ts.take i)) := by
  unfold outT
  split
  · omega
  · have h := joinB_size (Tm.texts (ts.take i))
    have e1 : sOpen.size = 1 := rfl
    rw [ByteArray.size_append, ByteArray.size_append, e1]; omega
theorem e40 : (#[40] : Array UInt8).size = 1 := rfl
theorem e41 : (#[41] : Array UInt8).size = 1 := rfl
theorem e44 : (#[44, 32] : Array UInt8).size = 2 := rfl
theorem outT_step (s : ByteArray) (ts : List Tm) (i : Nat) (h : i < ts.length) : outT s ts (i + 1) = outT s ts i ++ (if i = 0 then sOpen else sSep) ++ ts[i].text := by
  unfold outT
  rw [if_neg (by omega), texts_take ts i h]
  by_cases hi : i = 0
  · subst hi
    simp only [if_true, List.take_zero, Tm.texts, List.nil_append, joinB_one]
  · rw [if_neg hi, if_neg hi, joinB_snoc _ (by
      rw [texts_map]
      intro e
      have := congrArg List.length e
      rw [List.length_map, List.length_take, List.length_nil] at this
      omega)]
    simp only [ByteArray.append_assoc]
theorem specText_1 (k n : Int) (s : ByteArray) (ts : List Tm) (ih : ∀ t, t ∈ ts → textSat 59 t) : textSat 59 (.mk k n s ts) := by
  intro hn hc hz
  have hts := text_size _ hn
  have hkn := fun (h : k = 3) => node_k3 n s ts (h ▸ hn)
  have hss := node_name k n s ts
  have hi := fun (h : k = 3) => specFormatInt_sat n (by have := hkn h; omega) (by have := hkn h; omega)
  have hn0 := hn
  simp only [Tm.nodes, Bool.and_eq_true] at hn
  simp only [Tm.cnt] at hc
  simp only [Tm.size] at hz
  have hl := len_sizes ts
  have hsz : ∀ t, t ∈ ts → t.size < s.size + Tm.sizes ts := fun t ht => by have := size_mem ts t ht; omega
  obtain ⟨r, hr⟩ : ∃ r, r = (Tm.mk k n s ts).text := ⟨_, rfl⟩
  rw [← hr] at hts ⊢
  simp only [Tm.text] at hr
  refine sat_of_code tbOk mixed Tryd.func59 rfl rfl rfl (by decide +kernel) (by decide +kernel) (Nat.le_of_ble_eq_true rfl) ?_
  simp -implicitDefEqProofs (disch := omega) only [go_sem, Tm.enc, enc_len]
  refine ⟨fun hk => CallK.mk (hi hk) ?_, fun hk => ?_⟩
  · simp -implicitDefEqProofs (disch := omega) only [go_sem]
    rw [hr, if_pos hk]
  · rw [if_neg (by simpa using hk)] at hr
    have hs8 := hss (by simpa using hk) hn0
    refine loopA_rule (ι := Nat) (fun i => mk 40 [(1, .one (.ptr 1 0)), (3, strV (outT s ts i)), (4, intV i)] [(1, .var [iC k, iC n, sC s, tC ts])])
      (fun i => i ≤ ts.length) (fun i => ts.length - i) 0 (Nat.zero_le _) ?_ tbOk mixed (by decide +kernel) ?_
    · exact le_mk (by simp [go_sem, outT]) (by simp [go_sem])
    · intro i hi
      have hos := outT_size s ts i
      have htx := texts_size (ts.take i) (nodess_take ts i hn.2)
      rcases Nat.lt_or_ge i ts.length with hlt | hge
      · have hg := encs_getD ts i hlt
        have hst := outT_step s ts i hlt
        have hnt := hn.2
        rw [nodess_all] at hnt
        have hcm := cnts_takeT ts i hlt
        have hxs := text_size _ (List.all_eq_true.1 hnt _ (List.getElem_mem hlt))
        have hih := ih _ (List.getElem_mem hlt) (List.all_eq_true.1 hnt _ (List.getElem_mem hlt)) (by omega) (by have := hsz _ (List.getElem_mem hlt); omega)
        generalize ts[i].text = x at hst hih hxs
        generalize outT s ts i = o at hos hst
        generalize ts[i] = a at hg hih hcm hxs
        obtain ⟨ak, an, as', at_⟩ := a
        simp only [Tm.enc] at hg
        have hi0 : o.size ≤ 1000 := by omega
        simp -implicitDefEqProofs (disch := omega) only [go_sem, hg, hlt, enc_len]
        refine ⟨fun h0 => ⟨by rw [e40]; omega, fun _ => CallK.mk hih ?_⟩, fun h0 => ⟨by rw [e44]; omega, fun _ => CallK.mk hih ?_⟩⟩
        · have h0 : i = 0 := by omega
          subst h0
          simp only [if_true] at hst
          simp -implicitDefEqProofs (disch := omega) only [go_sem, hg, hlt, enc_len]
          refine ⟨by rw [e40]; omega, fun _ => ⟨1, by omega, by omega, ?_⟩⟩
          rw [hst]
          exact le_mk (by simp [go_sem]) (by simp [go_sem])
        · have h0 : ¬ i = 0 := by have : ¬ (i : Int) = 0 := by simpa using h0
                                  omega
          rw [if_neg h0] at hst
          simp -implicitDefEqProofs (disch := omega) only [go_sem, hg, hlt, enc_len]
          refine ⟨by rw [e44]; omega, fun _ => ⟨i + 1, by omega, by omega, ?_⟩⟩
          rw [hst]
          exact le_mk (by simp [go_sem]) (by simp [go_sem])
      · have : i = ts.length := by omega
        subst this
        rw [List.take_length] at htx
        rw [List.take_length] at hos
        have ho : (outT s ts ts.length).size ≤ 1000 := by omega
        simp -implicitDefEqProofs (disch := omega) only [go_sem, Nat.lt_irrefl, enc_len]
        refine ⟨fun h0 => ⟨by rw [e41]; omega, fun _ => ?_⟩, fun h0 => ?_⟩
        · rw [hr, if_neg (fun e => by rw [e] at h0; simp at h0), outT, if_neg (by omega), List.take_length]
        · have : ts = [] := List.eq_nil_of_length_eq_zero (by omega)
          rw [hr, if_pos this, outT, if_pos (by omega)]
theorem specText_sat : ∀ (t : Tm), textSat 59 t := Tm.ind (fun k n s ts ih => specText_1 k n s ts ih)
end Go.Ai
