/- Names, terms, signatures, sorts, rules and definitions: plain data, no program in sight. -/
import Derived.Test.YtmddjojbaompiaaGreatAiD1
import Derived.Test.YtmddjojbaompiaaGreatAiI3
import Derived.Test.YtmddjojbaompiaaGreatAiW1
import Derived.Test.YtmddjojbaompiaaGreatAiG1
import Derived.Test.YtmddjojbaompiaaGreatAiI2
set_option linter.unusedVariables false
set_option linter.unusedSimpArgs false
namespace Go.Ai
theorem eqS_eq (a b : ByteArray) : eqS a b = true ↔ a = b := by
 unfold eqS
 rw [bytes_toList, bytes_toList, beq_iff_eq]
 exact ⟨fun h => ByteArray.ext (Array.toList_inj.1 h), fun h => by rw [h]⟩
theorem eqS_ne (a b : ByteArray) : eqS a b = false ↔ a ≠ b := by
 rw [← Bool.not_eq_true, eqS_eq]
abbrev sE : ByteArray := ⟨#[]⟩
abbrev sWord : ByteArray := ⟨#[119, 111, 114, 100]⟩
def ldB (b : UInt8) : Bool := (decide (97 ≤ b.toNat) && decide (b.toNat ≤ 122)) || (decide (48 ≤ b.toNat) && decide (b.toNat ≤ 57))
def nameB (lo hi : Nat) (s : ByteArray) : Bool := decide (1 ≤ s.size) && decide (s.size ≤ 8) && decide (lo ≤ (s.data.getD 0 0).toNat) && decide ((s.data.getD 0 0).toNat ≤ hi) && (s.data.toList.drop 1).all ldB
abbrev isNm (s : ByteArray) : Bool := nameB 97 122 s
abbrev isVn (s : ByteArray) : Bool := nameB 65 90 s
theorem bytes_drop (s : ByteArray) (i : Nat) (h : i < s.size) : (s.data.toList.drop i).all ldB = (ldB (s.data.getD i 0) && (s.data.toList.drop (i + 1)).all ldB) := by
 have h' : i < s.data.toList.length := by rw [Array.length_toList]; exact h
 rw [List.drop_eq_getElem_cons h', List.all_cons]
 have : s.data.toList[i] = s.data.getD i 0 := by
  have h2 : i < s.data.size := h
  rw [Array.getElem_toList, Array.getD, dif_pos h2]
  rfl
 rw [this]
theorem bytes_end (s : ByteArray) (i : Nat) (h : s.size ≤ i) : (s.data.toList.drop i).all ldB = true := by
 have h' : s.data.toList.length ≤ i := by rw [Array.length_toList]; exact h
 rw [List.drop_of_length_le h']; rfl
mutual
def Tm.cnt : Tm → Nat
 | .mk _ _ _ ts => 1 + Tm.cnts ts
def Tm.cnts : List Tm → Nat
 | [] => 0
 | a :: ts => a.cnt + Tm.cnts ts
end
mutual
def Tm.dep : Tm → Nat
 | .mk _ _ _ ts => Tm.deps ts + 1
def Tm.deps : List Tm → Nat
 | [] => 0
 | a :: ts => max a.dep (Tm.deps ts)
end
def nodeB (k n : Int) (s : ByteArray) (l : Nat) : Bool :=
 if k == 1 then isVn s && (n == 0) && (l == 0) else if k == 2 then isNm s && (n == 0) else if k == 3 then eqS s sE && decide (0 ≤ n) && decide (n ≤ 3) && (l == 0) else false
mutual
def Tm.nodes : Tm → Bool
 | .mk k n s ts => nodeB k n s ts.length && Tm.nodess ts
def Tm.nodess : List Tm → Bool
 | [] => true
 | a :: ts => a.nodes && Tm.nodess ts
end
def Tm.valid (t : Tm) : Bool := decide (t.cnt ≤ 60) && decide (t.dep ≤ 16) && t.nodes
mutual
theorem cnt_size : ∀ (t : Tm), t.cnt ≤ 1 + t.size
 | .mk k n s ts => by have := cnts_size ts; simp only [Tm.cnt, Tm.size]; omega
theorem cnts_size : ∀ (ts : List Tm), Tm.cnts ts ≤ Tm.sizes ts
 | [] => by simp [Tm.cnts]
 | a :: ts => by
  have h1 := cnt_size a
  have h2 := cnts_size ts
  simp only [Tm.cnts, Tm.sizes]; omega
end
mutual
theorem dep_cnt : ∀ (t : Tm), t.dep ≤ t.cnt
 | .mk k n s ts => by have := deps_cnts ts; simp only [Tm.cnt, Tm.dep]; omega
theorem deps_cnts : ∀ (ts : List Tm), Tm.deps ts ≤ Tm.cnts ts
 | [] => by simp [Tm.deps]
 | a :: ts => by
  have h1 := dep_cnt a
  have h2 := deps_cnts ts
  simp only [Tm.cnts, Tm.deps]; omega
end
theorem cnts_app : ∀ (a b : List Tm), Tm.cnts (a ++ b) = Tm.cnts a + Tm.cnts b
 | [], b => by simp [Tm.cnts]
 | x :: a, b => by simp only [List.cons_append, Tm.cnts, cnts_app a b]; omega
theorem deps_app : ∀ (a b : List Tm), Tm.deps (a ++ b) = max (Tm.deps a) (Tm.deps b)
 | [], b => by simp [Tm.deps]
 | x :: a, b => by simp only [List.cons_append, Tm.deps, deps_app a b]; omega
theorem nodess_all (ts : List Tm) : Tm.nodess ts = ts.all Tm.nodes := by
 induction ts with
 | nil => rfl
 | cons a ts ih => simp [Tm.nodess, ih]
def lfN (c : Nat) (l : Int) : Int := if (c : Int) ≤ l then l - c else -1
def opD : GOp := ⟨sE, [], sE⟩
def fop : List GOp → ByteArray → Option GOp
 | [], _ => none
 | o :: os, s => if eqS o.na s then some o else fop os s
def findOp (sg : GSignature) (s : ByteArray) : Option GOp := if isBi s then some ⟨s, [sWord, sWord], sWord⟩ else fop sg.op s
def fvs : List GVarSort → ByteArray → Option ByteArray
 | [], _ => none
 | v :: vs, s => if eqS v.na s then some v.so else fvs vs s
mutual
def Tm.sort (sg : GSignature) (vs : List GVarSort) : Tm → ByteArray
 | .mk k n s ts => if k == 3 then sWord else if k == 1 then (fvs vs s).getD sE else if k == 2 then
   (match findOp sg s with
    | none => sE
    | some o => if o.ar.length == ts.length && Tm.sorts sg vs ts o.ar then o.re else sE) else sE
def Tm.sorts (sg : GSignature) (vs : List GVarSort) : List Tm → List ByteArray → Bool
 | a :: ts, x :: xs => (!eqS (a.sort sg vs) sE && eqS (a.sort sg vs) x) && Tm.sorts sg vs ts xs
 | _, _ => true
end
mutual
def Tm.inf (sg : GSignature) : Tm → ByteArray → List GVarSort → List GVarSort × Bool
 | .mk k n s ts, so, vs => if k == 1 then
   (match fvs vs s with
    | some x => (vs, eqS x so)
    | none => (vs ++ [⟨s, so⟩], true)) else Tm.infs sg ts (if k == 2 then ((findOp sg s).getD opD).ar else []) vs
def Tm.infs (sg : GSignature) : List Tm → List ByteArray → List GVarSort → List GVarSort × Bool
 | [], _, vs => (vs, true)
 | a :: ts, xs, vs => if (a.inf sg (xs.headD sE) vs).2 then Tm.infs sg ts xs.tail (a.inf sg (xs.headD sE) vs).1 else ([], false)
end
def inferV (sg : GSignature) (t : Tm) (so : ByteArray) : List GVarSort × Bool :=
 if (t.inf sg so []).2 && !eqS so sE && eqS (t.sort sg (t.inf sg so []).1) so then ((t.inf sg so []).1, true) else ([], false)
mutual
def Tm.bi : Tm → Bool
 | .mk k n s ts => (k == 2 && isBi s) || Tm.bis ts
def Tm.bis : List Tm → Bool
 | [] => false
 | a :: ts => a.bi || Tm.bis ts
end
def hasS (xs : List ByteArray) (s : ByteArray) : Bool := xs.any fun x => eqS x s
def wout (xs ys : List ByteArray) : List ByteArray := xs.filter fun x => !hasS ys x
def guardK (k : Int) : Bool := decide (1 ≤ k) && decide (k ≤ 3)
def guardS (sg : GSignature) (vs : List GVarSort) (g : GGuard) : Bool :=
 g.le.valid && g.ri.valid && guardK g.kd && !eqS (g.le.sort sg vs) sE && eqS (g.ri.sort sg vs) (g.le.sort sg vs) && (!(g.kd == 3) || eqS (g.le.sort sg vs) sWord)
def Tm.kind : Tm → Int
 | .mk k _ _ _ => k
def Tm.name : Tm → ByteArray
 | .mk _ _ s _ => s
def ruleB (sg : GSignature) (r : GRule) : Bool :=
 isNm r.na && r.le.valid && r.ri.valid && (r.le.kind == 2) && !r.le.bi && decide (r.gu.length ≤ 2) &&
 (inferV sg r.le ((findOp sg r.le.name).getD opD).re).2 && eqS (r.ri.sort sg (inferV sg r.le ((findOp sg r.le.name).getD opD).re).1) ((findOp sg r.le.name).getD opD).re &&
 r.ri.vars.all (hasS r.le.vars) && r.gu.all (guardS sg (inferV sg r.le ((findOp sg r.le.name).getD opD).re).1)
end Go.Ai
/- Names: IsName, IsVarName. -/
namespace Go.Ai
open Go.Proofs
set_option maxRecDepth 100000
theorem specLower_sat (b : Int) : Sat Tryz.prog 156 [.one (.c (.v (.int .u8 b)))] (boolV (decide (97 ≤ b) && decide (b ≤ 122))) := by
 refine sat_of_code tbOk mixed Tryz.func156 rfl rfl rfl (by decide +kernel) (by decide +kernel) (Nat.le_of_ble_eq_true rfl) ?_
 simp -implicitDefEqProofs (disch := omega) only [go_sem]
 grind
theorem specDigit_sat (b : Int) : Sat Tryz.prog 196 [.one (.c (.v (.int .u8 b)))] (boolV (decide (48 ≤ b) && decide (b ≤ 57))) := by
 refine sat_of_code tbOk mixed Tryz.func196 rfl rfl rfl (by decide +kernel) (by decide +kernel) (Nat.le_of_ble_eq_true rfl) ?_
 simp -implicitDefEqProofs (disch := omega) only [go_sem]
 grind
def ldI (b : Int) : Bool := (decide (97 ≤ b) && decide (b ≤ 122)) || (decide (48 ≤ b) && decide (b ≤ 57))
theorem ldI_eq (b : UInt8) : ldB b = ldI (b.toNat : Int) := by
 unfold ldB ldI
 rw [Bool.eq_iff_iff]
 simp only [Bool.or_eq_true, Bool.and_eq_true, decide_eq_true_eq]
 omega
theorem specRest_sat (s : ByteArray) (hs : s.size < 100000000) : Sat Tryz.prog 157 [strV s] (boolV ((s.data.toList.drop 1).all ldB && (decide (1 ≤ s.size) && decide (s.size ≤ 8)))) := by
 refine sat_of_code tbOk mixed Tryz.func157 rfl rfl rfl (by decide +kernel) (by decide +kernel) (Nat.le_of_ble_eq_true rfl) ?_
 simp -implicitDefEqProofs (disch := omega) only [go_sem]
 obtain ⟨r, hr⟩ : ∃ r, r = (s.data.toList.drop 1).all ldB := ⟨_, rfl⟩
 rw [← hr]
 refine loopA_rule (ι := Nat) (fun i => mk 25 [(0, strV s), (3, intV i)] []) (fun i => i ≤ s.size + 1 ∧ (s.data.toList.drop i).all ldB = r) (fun i => s.size + 1 - i) 1 ⟨by omega, hr.symm⟩ ?_ tbOk mixed (by decide +kernel) ?_
 ·exact le_mk (by simp [go_sem]) (by simp [go_sem])
 ·rintro i ⟨hi, he⟩
  rcases Nat.lt_or_ge i s.size with hlt | hge
  ·rw [bytes_drop s i hlt, ldI_eq] at he
   simp -implicitDefEqProofs (disch := omega) only [go_sem, hlt]
   obtain ⟨b, hb⟩ : ∃ b : Int, b = ((s.data.getD i 0).toNat : Int) := ⟨_, rfl⟩
   rw [← hb] at he ⊢
   unfold ldI at he
   refine CallK.mk (specLower_sat _) ?_
   simp -implicitDefEqProofs (disch := omega) only [go_sem, hlt, ← hb]
   refine ⟨fun h1 => CallK.mk (specDigit_sat _) ?_, fun h1 => ⟨i + 1, ⟨by omega, by simpa only [h1, Bool.true_or, Bool.true_and] using he⟩, by omega, le_mk (by simp [go_sem]) (by simp [go_sem])⟩⟩
   rw [h1] at he
   simp -implicitDefEqProofs (disch := omega) only [go_sem, hlt, ← hb]
   refine ⟨fun h2 => ?_, fun h2 => ⟨i + 1, ⟨by omega, by simpa only [h2, Bool.false_or, Bool.true_and] using he⟩, by omega, le_mk (by simp [go_sem]) (by simp [go_sem])⟩⟩
   simp only [h2, Bool.false_or, Bool.false_and] at he
   rw [← he]; rfl
  ·rw [bytes_end s i hge] at he
   simp -implicitDefEqProofs (disch := omega) only [go_sem, Nat.not_lt.2 hge]
   refine CallK.mk (l1In_sat _ _ _) ?_
   simp -implicitDefEqProofs (disch := omega) only [go_sem]
   grind
theorem nameB_def (lo hi : Nat) (s : ByteArray) : nameB lo hi s = (decide (1 ≤ s.size) && decide (s.size ≤ 8) && decide (lo ≤ (s.data.getD 0 0).toNat) && decide ((s.data.getD 0 0).toNat ≤ hi) && (s.data.toList.drop 1).all ldB) := rfl
theorem empty_size (s : ByteArray) : (s.toList == (⟨#[]⟩ : ByteArray).toList) = (s.size == 0) := by
 rw [bytes_toList, bytes_toList]
 obtain ⟨⟨l⟩⟩ := s
 cases l <;> rfl
theorem specIsName_sat (s : ByteArray) (hs : s.size < 100000000) : Sat Tryz.prog 87 [strV s] (boolV (isNm s)) := by
 obtain ⟨r, hr⟩ : ∃ r, r = isNm s := ⟨_, rfl⟩
 rw [← hr]
 rw [isNm, nameB_def] at hr
 refine sat_of_code tbOk mixed Tryz.func87 rfl rfl rfl (by decide +kernel) (by decide +kernel) (Nat.le_of_ble_eq_true rfl) ?_
 simp -implicitDefEqProofs (disch := omega) only [go_sem, empty_size]
 refine ⟨fun h1 => ⟨by grind, fun _ => CallK.mk (specLower_sat _) ?_⟩, fun h1 => by grind⟩
 simp -implicitDefEqProofs (disch := omega) only [go_sem]
 refine ⟨fun h2 => CallK.mk (specRest_sat s hs) ?_, fun h2 => by grind⟩
 simp -implicitDefEqProofs (disch := omega) only [go_sem]
 grind
theorem specIsVarName_sat (s : ByteArray) (hs : s.size < 100000000) : Sat Tryz.prog 166 [strV s] (boolV (isVn s)) := by
 obtain ⟨r, hr⟩ : ∃ r, r = isVn s := ⟨_, rfl⟩
 rw [← hr]
 rw [isVn, nameB_def] at hr
 refine sat_of_code tbOk mixed Tryz.func166 rfl rfl rfl (by decide +kernel) (by decide +kernel) (Nat.le_of_ble_eq_true rfl) ?_
 simp -implicitDefEqProofs (disch := omega) only [go_sem, empty_size]
 refine ⟨fun h1 => ⟨by grind, fun _ => ⟨fun h2 => ⟨by grind, fun _ => ⟨fun h3 => CallK.mk (specRest_sat s hs) ?_, fun h3 => by grind⟩⟩, fun h2 => by grind⟩⟩, fun h1 => by grind⟩
 simp -implicitDefEqProofs (disch := omega) only [go_sem]
 grind
theorem implNamed_sat (s : ByteArray) (hs : s.size < 100000000) (lo hi : Nat) : Sat Tryz.prog 138 [strV s, .one (.c (.v (.int .u8 lo))), .one (.c (.v (.int .u8 hi)))] (boolV (nameB lo hi s)) := by
 obtain ⟨r, hr⟩ : ∃ r, r = nameB lo hi s := ⟨_, rfl⟩
 rw [← hr]
 rw [nameB_def] at hr
 refine sat_of_code tbOk mixed Tryz.func138 rfl rfl rfl (by decide +kernel) (by decide +kernel) (Nat.le_of_ble_eq_true rfl) ?_
 simp -implicitDefEqProofs (disch := omega) only [go_sem]
 refine ⟨fun h1 => ⟨fun h2 => ⟨by omega, fun _ => ⟨fun h3 => ⟨by omega, fun _ => ⟨fun h4 => by grind, fun h4 => ?_⟩⟩, fun h3 => by grind⟩⟩, fun h2 => by grind⟩, fun h1 => by grind⟩
 have hr : r = (s.data.toList.drop 1).all ldB := by grind
 refine loopA_rule (ι := Nat) (fun i => mk 56 [(0, strV s), (7, intV i)] []) (fun i => i ≤ s.size + 1 ∧ (s.data.toList.drop i).all ldB = r) (fun i => s.size + 1 - i) 1 ⟨by omega, hr.symm⟩ ?_ tbOk mixed (by decide +kernel) ?_
 ·exact le_mk (by simp [go_sem]) (by simp [go_sem])
 ·rintro i ⟨hi, he⟩
  rcases Nat.lt_or_ge i s.size with hlt | hge
  ·rw [bytes_drop s i hlt, ldI_eq] at he
   obtain ⟨b, hb⟩ : ∃ b : Int, b = ((s.data.getD i 0).toNat : Int) := ⟨_, rfl⟩
   rw [← hb] at he
   unfold ldI at he
   simp -implicitDefEqProofs (disch := omega) only [go_sem, hlt, ← hb]
   have hgo : (b ≤ 122 ∧ 97 ≤ b ∨ b ≤ 57 ∧ 48 ≤ b) → (s.data.toList.drop (i + 1)).all ldB = r := by grind
   have hno : ¬ (b ≤ 122 ∧ 97 ≤ b ∨ b ≤ 57 ∧ 48 ≤ b) → false = r := by grind
   refine ⟨fun h5 => ⟨fun h6 => ⟨fun h7 => ⟨fun h8 => hno (by omega), fun h8 => ?_⟩, fun h7 => hno (by omega)⟩, fun h6 => ?_⟩, fun h5 => ⟨fun h7 => ⟨fun h8 => hno (by omega), fun h8 => ?_⟩, fun h7 => hno (by omega)⟩⟩
   all_goals exact ⟨i + 1, ⟨by omega, hgo (by omega)⟩, by omega, le_mk (by simp [go_sem]) (by simp [go_sem])⟩
  ·rw [bytes_end s i hge] at he
   simp -implicitDefEqProofs (disch := omega) only [go_sem, Nat.not_lt.2 hge]
   exact he
theorem implIsName_sat (s : ByteArray) (hs : s.size < 100000000) : Sat Tryz.prog 70 [strV s] (boolV (isNm s)) := by
 have h := implNamed_sat s hs 97 122
 refine sat_of_code tbOk mixed Tryz.func70 rfl rfl rfl (by decide +kernel) (by decide +kernel) (Nat.le_of_ble_eq_true rfl) ?_
 simp -implicitDefEqProofs (disch := omega) only [go_sem]
 refine CallK.mk h ?_
 simp -implicitDefEqProofs (disch := omega) only [go_sem]
theorem implIsVarName_sat (s : ByteArray) (hs : s.size < 100000000) : Sat Tryz.prog 94 [strV s] (boolV (isVn s)) := by
 have h := implNamed_sat s hs 65 90
 refine sat_of_code tbOk mixed Tryz.func94 rfl rfl rfl (by decide +kernel) (by decide +kernel) (Nat.le_of_ble_eq_true rfl) ?_
 simp -implicitDefEqProofs (disch := omega) only [go_sem]
 refine CallK.mk h ?_
 simp -implicitDefEqProofs (disch := omega) only [go_sem]
end Go.Ai
/- Valid terms: IsValidTerm. -/
namespace Go.Ai
open Go.Proofs
set_option maxRecDepth 100000
theorem cnts_snoc (ts : List Tm) (i : Nat) (h : i < ts.length) : Tm.cnts (ts.take (i + 1)) = Tm.cnts (ts.take i) + ts[i].cnt := by
 rw [List.take_add_one, List.getElem?_eq_getElem h, cnts_app]; simp [Tm.cnts]
theorem deps_snoc (ts : List Tm) (i : Nat) (h : i < ts.length) : Tm.deps (ts.take (i + 1)) = max (Tm.deps (ts.take i)) ts[i].dep := by
 rw [List.take_add_one, List.getElem?_eq_getElem h, deps_app]; simp [Tm.deps]
theorem cnts_take (ts : List Tm) (i : Nat) : Tm.cnts (ts.take i) ≤ Tm.cnts ts := by
 have := cnts_app (ts.take i) (ts.drop i)
 rw [List.take_append_drop] at this; omega
theorem deps_take (ts : List Tm) (i : Nat) : Tm.deps (ts.take i) ≤ Tm.deps ts := by
 have := deps_app (ts.take i) (ts.drop i)
 rw [List.take_append_drop] at this; omega
theorem nodess_drop (ts : List Tm) (i : Nat) (h : i < ts.length) : Tm.nodess (ts.drop i) = (ts[i].nodes && Tm.nodess (ts.drop (i + 1))) := by
 rw [List.drop_eq_getElem_cons h]; simp only [Tm.nodess]
theorem implCount_1 (k n : Int) (s : ByteArray) (ts : List Tm) (hl : Tm.sizes ts < 80000000) (ih : ∀ t, t ∈ ts → Sat Tryz.prog 139 [tmV t] (intV t.cnt)) : Sat Tryz.prog 139 [tmV (.mk k n s ts)] (intV (Tm.mk k n s ts).cnt) := by
 have hts := len_sizes ts
 have hcs := cnts_size ts
 refine sat_of_code tbOk mixed Tryz.func139 rfl rfl rfl (by decide +kernel) (by decide +kernel) (Nat.le_of_ble_eq_true rfl) ?_
 simp -implicitDefEqProofs (disch := omega) only [go_sem, Tm.enc]
 refine loopA_rule (ι := Nat) (fun i => mk 19 [(3, intV (1 + Tm.cnts (ts.take i) : Nat)), (7, tmsV ts), (8, intV ts.length), (9, intV i)] [])
  (fun i => i ≤ ts.length) (fun i => ts.length - i) 0 (Nat.zero_le _) ?_ tbOk mixed (by decide +kernel) ?_
 ·exact le_mk (by simp [go_sem, Tm.cnts]) (by simp [go_sem])
 ·intro i hi
  have hct := cnts_take ts i
  rcases Nat.lt_or_ge i ts.length with hlt | hge
  ·have hg := encs_getD ts i hlt
   have hsn := cnts_snoc ts i hlt
   have hct2 := cnts_take ts (i + 1)
   simp -implicitDefEqProofs (disch := omega) only [go_sem, hg, hlt, enc_len]
   refine CallK.mk (ih _ (List.getElem_mem hlt)) ?_
   simp -implicitDefEqProofs (disch := omega) only [go_sem]
   exact ⟨i + 1, hlt, by omega, le_mk (by simp [go_sem]; omega) (by simp [go_sem])⟩
  ·have : i = ts.length := by omega
   subst this
   simp -implicitDefEqProofs (disch := omega) only [go_sem, Nat.lt_irrefl, List.take_length, Tm.cnt]
theorem implCountT_sat : ∀ (t : Tm), t.size < 80000000 → Sat Tryz.prog 139 [tmV t] (intV t.cnt) := by
 refine Tm.ind (fun k n s ts ih h => implCount_1 k n s ts (by simp only [Tm.size] at h; omega) (fun t ht => ih t ht ?_))
 have := size_mem ts t ht; simp only [Tm.size] at h; omega
theorem implDepth_1 (k n : Int) (s : ByteArray) (ts : List Tm) (hl : Tm.sizes ts < 80000000) (ih : ∀ t, t ∈ ts → Sat Tryz.prog 140 [tmV t] (intV t.dep)) : Sat Tryz.prog 140 [tmV (.mk k n s ts)] (intV (Tm.mk k n s ts).dep) := by
 have hts := len_sizes ts
 have hcs := cnts_size ts
 have hds := deps_cnts ts
 refine sat_of_code tbOk mixed Tryz.func140 rfl rfl rfl (by decide +kernel) (by decide +kernel) (Nat.le_of_ble_eq_true rfl) ?_
 simp -implicitDefEqProofs (disch := omega) only [go_sem, Tm.enc]
 refine loopA_rule (ι := Nat) (fun i => mk 20 [(3, intV (Tm.deps (ts.take i))), (7, tmsV ts), (8, intV ts.length), (9, intV i)] [])
  (fun i => i ≤ ts.length) (fun i => ts.length - i) 0 (Nat.zero_le _) ?_ tbOk mixed (by decide +kernel) ?_
 ·exact le_mk (by simp [go_sem, Tm.deps]) (by simp [go_sem])
 ·intro i hi
  have hct := deps_take ts i
  rcases Nat.lt_or_ge i ts.length with hlt | hge
  ·have hg := encs_getD ts i hlt
   have hsn := deps_snoc ts i hlt
   have hct2 := deps_take ts (i + 1)
   simp -implicitDefEqProofs (disch := omega) only [go_sem, hg, hlt, enc_len]
   refine CallK.mk (ih _ (List.getElem_mem hlt)) ?_
   simp -implicitDefEqProofs (disch := omega) only [go_sem]
   refine ⟨i + 1, hlt, by omega, le_mk (by simp [go_sem]; split <;> omega) (by simp [go_sem])⟩
  ·have : i = ts.length := by omega
   subst this
   rw [List.take_length] at hct ⊢
   simp -implicitDefEqProofs (disch := omega) only [go_sem, Nat.lt_irrefl, Tm.dep, Int.natCast_add, Int.natCast_one]
theorem implDepth_sat : ∀ (t : Tm), t.size < 80000000 → Sat Tryz.prog 140 [tmV t] (intV t.dep) := by
 refine Tm.ind (fun k n s ts ih h => implDepth_1 k n s ts (by simp only [Tm.size] at h; omega) (fun t ht => ih t ht ?_))
 have := size_mem ts t ht; simp only [Tm.size] at h; omega
theorem implNodes_1 (k n : Int) (s : ByteArray) (ts : List Tm) (hl : s.size + Tm.sizes ts < 80000000) (ih : ∀ t, t ∈ ts → Sat Tryz.prog 141 [tmV t] (boolV t.nodes)) : Sat Tryz.prog 141 [tmV (.mk k n s ts)] (boolV (Tm.mk k n s ts).nodes) := by
 have hts := len_sizes ts
 obtain ⟨r, hr⟩ : ∃ r, r = (Tm.mk k n s ts).nodes := ⟨_, rfl⟩
 rw [← hr]
 simp only [Tm.nodes, nodeB, eqS] at hr
 have hnil : ts.length = 0 → Tm.nodess ts = true := fun h => by rw [List.eq_nil_of_length_eq_zero h]; rfl
 have hz : ((ts.length : Int) == 0) = (ts.length == 0) := by cases ts <;> simp <;> omega
 refine sat_of_code tbOk mixed Tryz.func141 rfl rfl rfl (by decide +kernel) (by decide +kernel) (Nat.le_of_ble_eq_true rfl) ?_
 simp -implicitDefEqProofs (disch := omega) only [go_sem, Tm.enc, hz]
 refine ⟨fun h1 => ⟨fun h2 => ⟨fun h3 => CallK.mk (implIsVarName_sat s (by omega)) ?_, fun h3 => by grind⟩, fun h2 => by grind⟩, fun h1 => ⟨fun h2 => ?_, fun h2 => ⟨fun h3 => ⟨fun h4 => CallK.mk (implIsName_sat s (by omega)) ?_, fun h4 => by grind⟩, fun h3 => by grind⟩⟩⟩
 ·simp -implicitDefEqProofs (disch := omega) only [go_sem]
  have := hnil h3
  grind
 ·have hw := implIsWord_sat (.mk k n s ts) (by simp only [Tm.size]; omega)
  refine CallK.mk hw ?_
  simp -implicitDefEqProofs (disch := omega) only [go_sem]
  simp only [isWd, eqS]
  grind
 ·simp -implicitDefEqProofs (disch := omega) only [go_sem]
  refine ⟨fun h5 => by grind, fun h5 => ?_⟩
  have hr : r = Tm.nodess ts := by grind
  refine loopA_rule (ι := Nat) (fun i => mk 49 [(39, tmsV ts), (40, intV ts.length), (41, intV i)] [])
   (fun i => i ≤ ts.length ∧ Tm.nodess (ts.drop i) = r) (fun i => ts.length - i) 0 ⟨Nat.zero_le _, by simp [hr]⟩ ?_ tbOk mixed (by decide +kernel) ?_
  ·exact le_mk (by simp [go_sem]) (by simp [go_sem])
  ·rintro i ⟨hi, he⟩
   rcases Nat.lt_or_ge i ts.length with hlt | hge
   ·have hg := encs_getD ts i hlt
    rw [nodess_drop ts i hlt] at he
    simp -implicitDefEqProofs (disch := omega) only [go_sem, hg, hlt, enc_len]
    refine CallK.mk (ih _ (List.getElem_mem hlt)) ?_
    simp -implicitDefEqProofs (disch := omega) only [go_sem]
    exact ⟨fun h => by rw [h] at he; rw [← he]; simp, fun h => ⟨i + 1, ⟨hlt, by rw [h] at he; simpa using he⟩, by omega, le_mk (by simp [go_sem]) (by simp [go_sem])⟩⟩
   ·have : i = ts.length := by omega
    subst this
    rw [List.drop_length] at he
    simp -implicitDefEqProofs (disch := omega) only [go_sem, Nat.lt_irrefl]
    exact he
theorem implNodes_sat : ∀ (t : Tm), t.size < 80000000 → Sat Tryz.prog 141 [tmV t] (boolV t.nodes) := by
 refine Tm.ind (fun k n s ts ih h => implNodes_1 k n s ts (by simp only [Tm.size] at h; omega) (fun t ht => ih t ht ?_))
 have := size_mem ts t ht; simp only [Tm.size] at h; omega
theorem specLeft_1 (k n : Int) (s : ByteArray) (ts : List Tm) (hl : Tm.sizes ts < 80000000) (l : Int) (h0 : 0 ≤ l) (h1 : l < 80000000) (ih : ∀ t, t ∈ ts → ∀ l : Int, 0 ≤ l → l < 80000000 → Sat Tryz.prog 158 [tmV t, intV l] (intV (lfN t.cnt l))) : Sat Tryz.prog 158 [tmV (.mk k n s ts), intV l] (intV (lfN (Tm.mk k n s ts).cnt l)) := by
 have hts := len_sizes ts
 refine sat_of_code tbOk mixed Tryz.func158 rfl rfl rfl (by decide +kernel) (by decide +kernel) (Nat.le_of_ble_eq_true rfl) ?_
 simp -implicitDefEqProofs (disch := omega) only [go_sem, Tm.enc]
 refine loopA_rule (ι := Nat) (fun i => mk 27 [(1, intV (lfN (1 + Tm.cnts (ts.take i)) l)), (2, .one (.ptr 2 0)), (5, intV i)] [(2, .var [iC k, iC n, sC s, tC ts])])
  (fun i => i ≤ ts.length) (fun i => ts.length - i) 0 (Nat.zero_le _) ?_ tbOk mixed (by decide +kernel) ?_
 ·refine le_mk (by simp [go_sem, Tm.cnts, lfN]; omega) (by simp [go_sem])
 ·intro i hi
  have hct := cnts_take ts i
  rcases Nat.lt_or_ge i ts.length with hlt | hge
  ·have hg := encs_getD ts i hlt
   have hsn := cnts_snoc ts i hlt
   have hct2 := cnts_take ts (i + 1)
   obtain ⟨v, hv⟩ : ∃ v, v = lfN (1 + Tm.cnts (ts.take i)) l := ⟨_, rfl⟩
   have hfin : ¬ v ≥ 0 → v = lfN (1 + Tm.cnts ts) l := by rw [hv]; unfold lfN; intro h; split at h <;> split <;> omega
   have hnext : v ≥ 0 → lfN ts[i].cnt v = lfN (1 + Tm.cnts (ts.take (i + 1))) l := by rw [hv, hsn]; unfold lfN; intro h; split at h <;> (split <;> split <;> omega)
   have hvl : v < 80000000 := by rw [hv]; unfold lfN; split <;> omega
   rw [← hv]
   simp -implicitDefEqProofs (disch := omega) only [go_sem, hg, hlt, enc_len, Tm.cnt]
   refine ⟨fun h => CallK.mk (ih _ (List.getElem_mem hlt) v h hvl) ?_, fun h => hfin h⟩
   rw [hnext h]
   simp -implicitDefEqProofs (disch := omega) only [go_sem]
   exact ⟨i + 1, hlt, by omega, le_mk (by simp [go_sem]) (by simp [go_sem])⟩
  ·have : i = ts.length := by omega
   subst this
   simp -implicitDefEqProofs (disch := omega) only [go_sem, Nat.lt_irrefl, List.take_length, Tm.cnt]
theorem specLeft_sat : ∀ (t : Tm), t.size < 80000000 → ∀ l : Int, 0 ≤ l → l < 80000000 → Sat Tryz.prog 158 [tmV t, intV l] (intV (lfN t.cnt l)) := by
 refine Tm.ind (fun k n s ts ih h l h0 h1 => specLeft_1 k n s ts (by simp only [Tm.size] at h; omega) l h0 h1 (fun t ht => ih t ht ?_))
 have := size_mem ts t ht; simp only [Tm.size] at h; omega
theorem specMax_sat (a b : Int) : Sat Tryz.prog 188 [intV a, intV b] (intV (if a > b then a else b)) := by
 refine sat_of_code tbOk mixed Tryz.func188 rfl rfl rfl (by decide +kernel) (by decide +kernel) (Nat.le_of_ble_eq_true rfl) ?_
 simp -implicitDefEqProofs (disch := omega) only [go_sem]
 grind
theorem specDepth_1 (k n : Int) (s : ByteArray) (ts : List Tm) (hl : Tm.sizes ts < 80000000) (ih : ∀ t, t ∈ ts → Sat Tryz.prog 159 [tmV t] (intV t.dep)) : Sat Tryz.prog 159 [tmV (.mk k n s ts)] (intV (Tm.mk k n s ts).dep) := by
 have hts := len_sizes ts
 have hcs := cnts_size ts
 have hds := deps_cnts ts
 refine sat_of_code tbOk mixed Tryz.func159 rfl rfl rfl (by decide +kernel) (by decide +kernel) (Nat.le_of_ble_eq_true rfl) ?_
 simp -implicitDefEqProofs (disch := omega) only [go_sem, Tm.enc]
 refine loopA_rule (ι := Nat) (fun i => mk 22 [(1, .one (.ptr 1 0)), (3, intV (Tm.deps (ts.take i))), (4, intV i)] [(1, .var [iC k, iC n, sC s, tC ts])])
  (fun i => i ≤ ts.length) (fun i => ts.length - i) 0 (Nat.zero_le _) ?_ tbOk mixed (by decide +kernel) ?_
 ·exact le_mk (by simp [go_sem, Tm.deps]) (by simp [go_sem])
 ·intro i hi
  have hct := deps_take ts i
  rcases Nat.lt_or_ge i ts.length with hlt | hge
  ·have hg := encs_getD ts i hlt
   have hsn := deps_snoc ts i hlt
   have hct2 := deps_take ts (i + 1)
   simp -implicitDefEqProofs (disch := omega) only [go_sem, hg, hlt, enc_len]
   refine CallK.mk (ih _ (List.getElem_mem hlt)) ?_
   simp -implicitDefEqProofs (disch := omega) only [go_sem]
   refine CallK.mk (specMax_sat _ _) ?_
   simp -implicitDefEqProofs (disch := omega) only [go_sem]
   refine ⟨i + 1, hlt, by omega, le_mk (by simp [go_sem]; split <;> omega) (by simp [go_sem])⟩
  ·have : i = ts.length := by omega
   subst this
   rw [List.take_length] at hct ⊢
   simp -implicitDefEqProofs (disch := omega) only [go_sem, Nat.lt_irrefl, Tm.dep, Int.natCast_add, Int.natCast_one]
theorem specDepth_sat : ∀ (t : Tm), t.size < 80000000 → Sat Tryz.prog 159 [tmV t] (intV t.dep) := by
 refine Tm.ind (fun k n s ts ih h => specDepth_1 k n s ts (by simp only [Tm.size] at h; omega) (fun t ht => ih t ht ?_))
 have := size_mem ts t ht; simp only [Tm.size] at h; omega
theorem specNode_sat (k n : Int) (s : ByteArray) (ts : List Tm) (hl : s.size + Tm.sizes ts < 80000000) : Sat Tryz.prog 197 [tmV (.mk k n s ts)] (boolV (nodeB k n s ts.length)) := by
 have hts := len_sizes ts
 obtain ⟨r, hr⟩ : ∃ r, r = nodeB k n s ts.length := ⟨_, rfl⟩
 rw [← hr]
 simp only [nodeB, eqS] at hr
 have hz : ((ts.length : Int) == 0) = (ts.length == 0) := by cases ts <;> simp <;> omega
 refine sat_of_code tbOk mixed Tryz.func197 rfl rfl rfl (by decide +kernel) (by decide +kernel) (Nat.le_of_ble_eq_true rfl) ?_
 simp -implicitDefEqProofs (disch := omega) only [go_sem, Tm.enc, hz]
 refine ⟨fun h1 => CallK.mk (specIsVarName_sat s (by omega)) ?_, fun h1 => ⟨fun h2 => CallK.mk (specIsName_sat s (by omega)) ?_, fun h2 => ⟨fun h3 => ⟨fun h4 => CallK.mk (l1In_sat _ _ _) ?_, fun h4 => by grind⟩, fun h3 => by grind⟩⟩⟩
 all_goals
  simp -implicitDefEqProofs (disch := omega) only [go_sem, hz]
  grind
theorem specAll_1 (k n : Int) (s : ByteArray) (ts : List Tm) (hl : s.size + Tm.sizes ts < 80000000) (ih : ∀ t, t ∈ ts → Sat Tryz.prog 160 [tmV t] (boolV t.nodes)) : Sat Tryz.prog 160 [tmV (.mk k n s ts)] (boolV (Tm.mk k n s ts).nodes) := by
 have hts := len_sizes ts
 have hnode := specNode_sat k n s ts hl
 obtain ⟨r, hr⟩ : ∃ r, r = (Tm.mk k n s ts).nodes := ⟨_, rfl⟩
 rw [← hr]
 simp only [Tm.nodes] at hr
 generalize nodeB k n s ts.length = nb at hnode hr
 refine sat_of_code tbOk mixed Tryz.func160 rfl rfl rfl (by decide +kernel) (by decide +kernel) (Nat.le_of_ble_eq_true rfl) ?_
 simp -implicitDefEqProofs (disch := omega) only [go_sem, Tm.enc]
 refine loopA_rule (ι := Nat) (fun i => mk 20 [(1, .one (.ptr 1 0)), (3, intV i)] [(1, .var [iC k, iC n, sC s, tC ts])])
  (fun i => i ≤ ts.length ∧ Tm.nodess (ts.drop i) = Tm.nodess ts) (fun i => ts.length - i) 0 ⟨Nat.zero_le _, by simp⟩ ?_ tbOk mixed (by decide +kernel) ?_
 ·exact le_mk (by simp [go_sem]) (by simp [go_sem])
 ·rintro i ⟨hi, he⟩
  rcases Nat.lt_or_ge i ts.length with hlt | hge
  ·have hg := encs_getD ts i hlt
   rw [nodess_drop ts i hlt] at he
   simp -implicitDefEqProofs (disch := omega) only [go_sem, hg, hlt, enc_len]
   refine CallK.mk (ih _ (List.getElem_mem hlt)) ?_
   simp -implicitDefEqProofs (disch := omega) only [go_sem]
   exact ⟨fun h => by rw [h] at he; rw [hr, ← he]; simp, fun h => ⟨i + 1, ⟨hlt, by rw [h] at he; simpa using he⟩, by omega, le_mk (by simp [go_sem]) (by simp [go_sem])⟩⟩
  ·have : i = ts.length := by omega
   subst this
   rw [List.drop_length] at he
   simp -implicitDefEqProofs (disch := omega) only [go_sem, Nat.lt_irrefl]
   refine CallK.mk hnode ?_
   simp -implicitDefEqProofs (disch := omega) only [go_sem]
   rw [hr, ← he]; simp [Tm.nodess]
theorem specAll_sat : ∀ (t : Tm), t.size < 80000000 → Sat Tryz.prog 160 [tmV t] (boolV t.nodes) := by
 refine Tm.ind (fun k n s ts ih h => specAll_1 k n s ts (by simp only [Tm.size] at h; omega) (fun t ht => ih t ht ?_))
 have := size_mem ts t ht; simp only [Tm.size] at h; omega
theorem implValid_sat (t : Tm) (h : t.size < 80000000) : Sat Tryz.prog 71 [tmV t] (boolV t.valid) := by
 have h1 := implCountT_sat t h
 have h2 := implDepth_sat t h
 have h3 := implNodes_sat t h
 have hv : t.valid = (decide (t.cnt ≤ 60) && decide (t.dep ≤ 16) && t.nodes) := rfl
 obtain ⟨r, hr⟩ : ∃ r, r = t.valid := ⟨_, rfl⟩
 rw [← hr]
 rw [← hr] at hv
 generalize t.cnt = c at h1 hv
 generalize t.dep = d at h2 hv
 generalize t.nodes = b at h3 hv
 obtain ⟨k, n, s, ts⟩ := t
 refine sat_of_code tbOk mixed Tryz.func71 rfl rfl rfl (by decide +kernel) (by decide +kernel) (Nat.le_of_ble_eq_true rfl) ?_
 simp -implicitDefEqProofs (disch := omega) only [go_sem, Tm.enc]
 refine CallK.mk h1 ?_
 simp -implicitDefEqProofs (disch := omega) only [go_sem]
 refine ⟨fun k1 => CallK.mk h2 ?_, fun k1 => by grind⟩
 simp -implicitDefEqProofs (disch := omega) only [go_sem]
 refine ⟨fun k2 => CallK.mk h3 ?_, fun k2 => by grind⟩
 simp -implicitDefEqProofs (disch := omega) only [go_sem]
 grind
theorem specValid_sat (t : Tm) (h : t.size < 80000000) : Sat Tryz.prog 88 [tmV t] (boolV t.valid) := by
 have h1 := specLeft_sat t h 60 (by omega) (by omega)
 have h2 := specDepth_sat t h
 have h3 := specAll_sat t h
 have hv : t.valid = (decide (t.cnt ≤ 60) && decide (t.dep ≤ 16) && t.nodes) := rfl
 have hcv : lfN t.cnt 60 ≥ 0 ↔ t.cnt ≤ 60 := by unfold lfN; split <;> omega
 obtain ⟨r, hr⟩ : ∃ r, r = t.valid := ⟨_, rfl⟩
 rw [← hr]
 rw [← hr] at hv
 generalize lfN t.cnt 60 = l at h1 hcv
 generalize t.cnt = c at hcv hv
 generalize t.dep = d at h2 hv
 generalize t.nodes = b at h3 hv
 obtain ⟨k, n, s, ts⟩ := t
 refine sat_of_code tbOk mixed Tryz.func88 rfl rfl rfl (by decide +kernel) (by decide +kernel) (Nat.le_of_ble_eq_true rfl) ?_
 simp -implicitDefEqProofs (disch := omega) only [go_sem, Tm.enc]
 refine CallK.mk h1 ?_
 simp -implicitDefEqProofs (disch := omega) only [go_sem]
 refine ⟨fun k1 => CallK.mk h2 ?_, fun k1 => by grind⟩
 simp -implicitDefEqProofs (disch := omega) only [go_sem]
 refine ⟨fun k2 => CallK.mk h3 ?_, fun k2 => by grind⟩
 simp -implicitDefEqProofs (disch := omega) only [go_sem]
 grind
end Go.Ai
