/- Names, terms, signatures, sorts, rules and definitions: plain data, no program in sight. -/
import Derived.Test.YtgdmjekkdcjipaaGreatAiD1
import Derived.Test.YtgdmjekkdcjipaaGreatAiI3
import Derived.Test.YtgdmjekkdcjipaaGreatAiW1
import Derived.Test.YtgdmjekkdcjipaaGreatAiG1
import Derived.Test.YtgdmjekkdcjipaaGreatAiI2
set_option linter.unusedVariables false
set_option linter.unusedSimpArgs false
namespace Go.Ai
theorem zw0 (a b : ByteArray) : eqS a b = true ↔ a = b := by
 unfold eqS
 rw [qE0, qE0, beq_iff_eq]
 exact ⟨fun h => ByteArray.ext (Array.toList_inj.1 h), fun h => by rw [h]⟩
theorem dU0 (a b : ByteArray) : eqS a b = false ↔ a ≠ b := by
 rw [← Bool.not_eq_true, zw0]
abbrev sE : ByteArray := ⟨#[]⟩
abbrev kn0 : ByteArray := ⟨#[119, 111, 114, 100]⟩
def ldB (b : UInt8) : Bool := (decide (97 ≤ b.toNat) && decide (b.toNat ≤ 122)) || (decide (48 ≤ b.toNat) && decide (b.toNat ≤ 57))
def mX0 (lo hi : Nat) (s : ByteArray) : Bool := decide (1 ≤ s.size) && decide (s.size ≤ 8) && decide (lo ≤ (s.data.getD 0 0).toNat) && decide ((s.data.getD 0 0).toNat ≤ hi) && (s.data.toList.drop 1).all ldB
abbrev mQ0 (s : ByteArray) : Bool := mX0 97 122 s
abbrev vF1 (s : ByteArray) : Bool := mX0 65 90 s
theorem fi0 (s : ByteArray) (i : Nat) (h : i < s.size) : (s.data.toList.drop i).all ldB = (ldB (s.data.getD i 0) && (s.data.toList.drop (i + 1)).all ldB) := by
 have h' : i < s.data.toList.length := by rw [Array.length_toList]; exact h
 rw [List.drop_eq_getElem_cons h', List.all_cons]
 have : s.data.toList[i] = s.data.getD i 0 := by
  have h2 : i < s.data.size := h
  rw [Array.getElem_toList, Array.getD, dif_pos h2]
  rfl
 rw [this]
theorem dE0 (s : ByteArray) (i : Nat) (h : s.size ≤ i) : (s.data.toList.drop i).all ldB = true := by
 have h' : s.data.toList.length ≤ i := by rw [Array.length_toList]; exact h
 rw [List.drop_of_length_le h']; rfl
mutual
def Tm.cnt : Tm → Nat
 | .mk _ _ _ ts => 1 + Tm.cnts ts
def Tm.cnts : List Tm → Nat
 | [] => 0
 | a :: ts => a.cnt + Tm.cnts ts
end
mutual
def Tm.dep : Tm → Nat
 | .mk _ _ _ ts => Tm.deps ts + 1
def Tm.deps : List Tm → Nat
 | [] => 0
 | a :: ts => max a.dep (Tm.deps ts)
end
def pY0 (k n : Int) (s : ByteArray) (l : Nat) : Bool :=
 if k == 1 then vF1 s && (n == 0) && (l == 0) else if k == 2 then mQ0 s && (n == 0) else if k == 3 then eqS s sE && decide (0 ≤ n) && decide (n ≤ 3) && (l == 0) else false
mutual
def Tm.nodes : Tm → Bool
 | .mk k n s ts => pY0 k n s ts.length && Tm.nodess ts
def Tm.nodess : List Tm → Bool
 | [] => true
 | a :: ts => a.nodes && Tm.nodess ts
end
def Tm.valid (t : Tm) : Bool := decide (t.cnt ≤ 60) && decide (t.dep ≤ 16) && t.nodes
mutual
theorem kU0 : ∀ (t : Tm), t.cnt ≤ 1 + t.size
 | .mk k n s ts => by have := cnts_size ts; simp only [Tm.cnt, Tm.size]; omega
theorem cnts_size : ∀ (ts : List Tm), Tm.cnts ts ≤ Tm.sizes ts
 | [] => by simp [Tm.cnts]
 | a :: ts => by
  have h1 := kU0 a
  have h2 := cnts_size ts
  simp only [Tm.cnts, Tm.sizes]; omega
end
mutual
theorem jn1 : ∀ (t : Tm), t.dep ≤ t.cnt
 | .mk k n s ts => by have := deps_cnts ts; simp only [Tm.cnt, Tm.dep]; omega
theorem deps_cnts : ∀ (ts : List Tm), Tm.deps ts ≤ Tm.cnts ts
 | [] => by simp [Tm.deps]
 | a :: ts => by
  have h1 := jn1 a
  have h2 := deps_cnts ts
  simp only [Tm.cnts, Tm.deps]; omega
end
theorem bb0 : ∀ (a b : List Tm), Tm.cnts (a ++ b) = Tm.cnts a + Tm.cnts b
 | [], b => by simp [Tm.cnts]
 | x :: a, b => by simp only [List.cons_append, Tm.cnts, bb0 a b]; omega
theorem bf0 : ∀ (a b : List Tm), Tm.deps (a ++ b) = max (Tm.deps a) (Tm.deps b)
 | [], b => by simp [Tm.deps]
 | x :: a, b => by simp only [List.cons_append, Tm.deps, bf0 a b]; omega
def lfN (c : Nat) (l : Int) : Int := if (c : Int) ≤ l then l - c else -1
def opD : GOp := ⟨sE, [], sE⟩
def fop : List GOp → ByteArray → Option GOp
 | [], _ => none
 | o :: os, s => if eqS o.na s then some o else fop os s
def zI0 (sg : GSignature) (s : ByteArray) : Option GOp := if fY0 s then some ⟨s, [kn0, kn0], kn0⟩ else fop sg.op s
def fvs : List GVarSort → ByteArray → Option ByteArray
 | [], _ => none
 | v :: vs, s => if eqS v.na s then some v.so else fvs vs s
mutual
def Tm.sort (sg : GSignature) (vs : List GVarSort) : Tm → ByteArray
 | .mk k n s ts => if k == 3 then kn0 else if k == 1 then (fvs vs s).getD sE else if k == 2 then
   (match zI0 sg s with
    | none => sE
    | some o => if o.ar.length == ts.length && Tm.sorts sg vs ts o.ar then o.re else sE) else sE
def Tm.sorts (sg : GSignature) (vs : List GVarSort) : List Tm → List ByteArray → Bool
 | a :: ts, x :: xs => (!eqS (a.sort sg vs) sE && eqS (a.sort sg vs) x) && Tm.sorts sg vs ts xs
 | _, _ => true
end
mutual
def Tm.inf (sg : GSignature) : Tm → ByteArray → List GVarSort → List GVarSort × Bool
 | .mk k n s ts, so, vs => if k == 1 then
   (match fvs vs s with
    | some x => (vs, eqS x so)
    | none => (vs ++ [⟨s, so⟩], true)) else Tm.infs sg ts (if k == 2 then ((zI0 sg s).getD opD).ar else []) vs
def Tm.infs (sg : GSignature) : List Tm → List ByteArray → List GVarSort → List GVarSort × Bool
 | [], _, vs => (vs, true)
 | a :: ts, xs, vs => if (a.inf sg (xs.headD sE) vs).2 then Tm.infs sg ts xs.tail (a.inf sg (xs.headD sE) vs).1 else ([], false)
end
def zd0 (sg : GSignature) (t : Tm) (so : ByteArray) : List GVarSort × Bool :=
 if (t.inf sg so []).2 && !eqS so sE && eqS (t.sort sg (t.inf sg so []).1) so then ((t.inf sg so []).1, true) else ([], false)
mutual
def Tm.bi : Tm → Bool
 | .mk k n s ts => (k == 2 && fY0 s) || Tm.bis ts
def Tm.bis : List Tm → Bool
 | [] => false
 | a :: ts => a.bi || Tm.bis ts
end
def vF0 (xs : List ByteArray) (s : ByteArray) : Bool := xs.any fun x => eqS x s
def xh0 (xs ys : List ByteArray) : List ByteArray := xs.filter fun x => !vF0 ys x
def vq0 (k : Int) : Bool := decide (1 ≤ k) && decide (k ≤ 3)
def yQ0 (sg : GSignature) (vs : List GVarSort) (g : GGuard) : Bool :=
 g.le.valid && g.ri.valid && vq0 g.kd && !eqS (g.le.sort sg vs) sE && eqS (g.ri.sort sg vs) (g.le.sort sg vs) && (!(g.kd == 3) || eqS (g.le.sort sg vs) kn0)
def Tm.kind : Tm → Int
 | .mk k _ _ _ => k
def Tm.name : Tm → ByteArray
 | .mk _ _ s _ => s
def cQ0 (sg : GSignature) (r : GRule) : Bool :=
 mQ0 r.na && r.le.valid && r.ri.valid && (r.le.kind == 2) && !r.le.bi && decide (r.gu.length ≤ 2) &&
 (zd0 sg r.le ((zI0 sg r.le.name).getD opD).re).2 && eqS (r.ri.sort sg (zd0 sg r.le ((zI0 sg r.le.name).getD opD).re).1) ((zI0 sg r.le.name).getD opD).re &&
 r.ri.vars.all (vF0 r.le.vars) && r.gu.all (yQ0 sg (zd0 sg r.le ((zI0 sg r.le.name).getD opD).re).1)
open Go.Proofs
set_option maxRecDepth 100000
theorem kr0 (b : Int) : Sat Tryz.prog 201 [.one (.c (.v (.int .u8 b)))] (boolV (decide (97 ≤ b) && decide (b ≤ 122))) := by
 refine soc zE0 zB0 Tryz.func201 ?_
 simp -implicitDefEqProofs only [go_sem]
 grind
theorem cY0 (b : Int) : Sat Tryz.prog 219 [.one (.c (.v (.int .u8 b)))] (boolV (decide (48 ≤ b) && decide (b ≤ 57))) := by
 refine soc zE0 zB0 Tryz.func219 ?_
 simp -implicitDefEqProofs only [go_sem]
 grind
def ldI (b : Int) : Bool := (decide (97 ≤ b) && decide (b ≤ 122)) || (decide (48 ≤ b) && decide (b ≤ 57))
theorem jM1 (b : UInt8) : ldB b = ldI (b.toNat : Int) := by
 unfold ldB ldI
 rw [Bool.eq_iff_iff]
 simp only [Bool.or_eq_true, Bool.and_eq_true, decide_eq_true_eq]
 omega
theorem xF0 (s : ByteArray) (hs : s.size < 100000000) : Sat Tryz.prog 202 [ql0 s] (boolV ((s.data.toList.drop 1).all ldB && (decide (1 ≤ s.size) && decide (s.size ≤ 8)))) := by
 refine soc zE0 zB0 Tryz.func202 ?_
 simp -implicitDefEqProofs (disch := omega) only [go_sem]
 obtain ⟨r, hr⟩ : ∃ r, r = (s.data.toList.drop 1).all ldB := ⟨_, rfl⟩
 rw [← hr]
 refine zA0 (ι := Nat) (fun i => mk 25 [(0, ql0 s), (3, zD0 i)] []) (fun i => i ≤ s.size + 1 ∧ (s.data.toList.drop i).all ldB = r) (fun i => s.size + 1 - i) 1 ⟨by omega, hr.symm⟩ ?_ zE0 zB0 (by decide +kernel) ?_
 ·exact lek
 ·rintro i ⟨hi, he⟩
  rcases Nat.lt_or_ge i s.size with hlt | hge
  ·rw [fi0 s i hlt, jM1] at he
   simp -implicitDefEqProofs (disch := omega) only [go_sem, hlt]
   obtain ⟨b, hb⟩ : ∃ b : Int, b = ((s.data.getD i 0).toNat : Int) := ⟨_, rfl⟩
   rw [← hb] at he ⊢
   unfold ldI at he
   refine CallK.mk (kr0 _) ?_
   simp -implicitDefEqProofs (disch := omega) only [go_sem, hlt, ← hb]
   refine ⟨fun h1 => CallK.mk (cY0 _) ?_, fun h1 => ⟨i + 1, ⟨by omega, by simpa only [h1, Bool.true_or, Bool.true_and] using he⟩, by omega, lek⟩⟩
   rw [h1] at he
   simp -implicitDefEqProofs (disch := omega) only [go_sem, hlt, ← hb]
   refine ⟨fun h2 => ?_, fun h2 => ⟨i + 1, ⟨by omega, by simpa only [h2, Bool.false_or, Bool.true_and] using he⟩, by omega, lek⟩⟩
   simp only [h2, Bool.false_or, Bool.false_and] at he
   rw [← he]; rfl
  ·rw [dE0 s i hge] at he
   simp -implicitDefEqProofs (disch := omega) only [go_sem, Nat.not_lt.2 hge]
   refine CallK.mk (yi0 _ _ _) ?_
   simp -implicitDefEqProofs (disch := omega) only [go_sem]
   grind
theorem pW0 (lo hi : Nat) (s : ByteArray) : mX0 lo hi s = (decide (1 ≤ s.size) && decide (s.size ≤ 8) && decide (lo ≤ (s.data.getD 0 0).toNat) && decide ((s.data.getD 0 0).toNat ≤ hi) && (s.data.toList.drop 1).all ldB) := rfl
theorem fo0 (s : ByteArray) : (s.toList == (⟨#[]⟩ : ByteArray).toList) = (s.size == 0) := by
 rw [qE0, qE0]
 obtain ⟨⟨l⟩⟩ := s
 cases l <;> rfl
theorem wI0 (s : ByteArray) (hs : s.size < 100000000) : Sat Tryz.prog 159 [ql0 s] (boolV (mQ0 s)) := by
 obtain ⟨r, hr⟩ : ∃ r, r = mQ0 s := ⟨_, rfl⟩
 rw [← hr]
 rw [mQ0, pW0] at hr
 refine soc zE0 zB0 Tryz.func159 ?_
 simp -implicitDefEqProofs only [go_sem, fo0]
 refine ⟨fun h1 => ⟨by grind, fun _ => CallK.mk (kr0 _) ?_⟩, fun h1 => by grind⟩
 simp -implicitDefEqProofs only [go_sem]
 refine ⟨fun h2 => CallK.mk (xF0 s hs) ?_, fun h2 => by grind⟩
 simp -implicitDefEqProofs only [go_sem]
 grind
theorem vf0 (s : ByteArray) (hs : s.size < 100000000) : Sat Tryz.prog 221 [ql0 s] (boolV (vF1 s)) := by
 obtain ⟨r, hr⟩ : ∃ r, r = vF1 s := ⟨_, rfl⟩
 rw [← hr]
 rw [vF1, pW0] at hr
 refine soc zE0 zB0 Tryz.func221 ?_
 simp -implicitDefEqProofs only [go_sem, fo0]
 refine ⟨fun h1 => ⟨by grind, fun _ => ⟨fun h2 => ⟨by grind, fun _ => ⟨fun h3 => CallK.mk (xF0 s hs) ?_, fun h3 => by grind⟩⟩, fun h2 => by grind⟩⟩, fun h1 => by grind⟩
 simp -implicitDefEqProofs only [go_sem]
 grind
theorem kd0 (s : ByteArray) (hs : s.size < 100000000) (lo hi : Nat) : Sat Tryz.prog 192 [ql0 s, .one (.c (.v (.int .u8 lo))), .one (.c (.v (.int .u8 hi)))] (boolV (mX0 lo hi s)) := by
 obtain ⟨r, hr⟩ : ∃ r, r = mX0 lo hi s := ⟨_, rfl⟩
 rw [← hr]
 rw [pW0] at hr
 refine soc zE0 zB0 Tryz.func192 ?_
 simp -implicitDefEqProofs (disch := omega) only [go_sem]
 refine ⟨fun h1 => ⟨fun h2 => ⟨by omega, fun _ => ⟨fun h3 => ⟨by omega, fun _ => ⟨fun h4 => by grind, fun h4 => ?_⟩⟩, fun h3 => by grind⟩⟩, fun h2 => by grind⟩, fun h1 => by grind⟩
 have hr : r = (s.data.toList.drop 1).all ldB := by grind
 refine zA0 (ι := Nat) (fun i => mk 56 [(0, ql0 s), (7, zD0 i)] []) (fun i => i ≤ s.size + 1 ∧ (s.data.toList.drop i).all ldB = r) (fun i => s.size + 1 - i) 1 ⟨by omega, hr.symm⟩ ?_ zE0 zB0 (by decide +kernel) ?_
 ·exact lek
 ·rintro i ⟨hi, he⟩
  rcases Nat.lt_or_ge i s.size with hlt | hge
  ·rw [fi0 s i hlt, jM1] at he
   obtain ⟨b, hb⟩ : ∃ b : Int, b = ((s.data.getD i 0).toNat : Int) := ⟨_, rfl⟩
   rw [← hb] at he
   unfold ldI at he
   simp -implicitDefEqProofs (disch := omega) only [go_sem, hlt, ← hb]
   have hgo : (b ≤ 122 ∧ 97 ≤ b ∨ b ≤ 57 ∧ 48 ≤ b) → (s.data.toList.drop (i + 1)).all ldB = r := by grind
   have hno : ¬ (b ≤ 122 ∧ 97 ≤ b ∨ b ≤ 57 ∧ 48 ≤ b) → false = r := by grind
   refine ⟨fun h5 => ⟨fun h6 => ⟨fun h7 => ⟨fun h8 => hno (by omega), fun h8 => ?_⟩, fun h7 => hno (by omega)⟩, fun h6 => ?_⟩, fun h5 => ⟨fun h7 => ⟨fun h8 => hno (by omega), fun h8 => ?_⟩, fun h7 => hno (by omega)⟩⟩
   all_goals exact ⟨i + 1, ⟨by omega, hgo (by omega)⟩, by omega, lek⟩
  ·rw [dE0 s i hge] at he
   simp -implicitDefEqProofs (disch := omega) only [go_sem, Nat.not_lt.2 hge]
   exact he
theorem wE0 (s : ByteArray) (hs : s.size < 100000000) : Sat Tryz.prog 145 [ql0 s] (boolV (mQ0 s)) := by
 have h := kd0 s hs 97 122
 refine soc zE0 zB0 Tryz.func145 ?_
 simp -implicitDefEqProofs only [go_sem]
 refine CallK.mk h ?_
 simp -implicitDefEqProofs only [go_sem]
theorem vR0 (s : ByteArray) (hs : s.size < 100000000) : Sat Tryz.prog 217 [ql0 s] (boolV (vF1 s)) := by
 have h := kd0 s hs 65 90
 refine soc zE0 zB0 Tryz.func217 ?_
 simp -implicitDefEqProofs only [go_sem]
 refine CallK.mk h ?_
 simp -implicitDefEqProofs only [go_sem]
end Go.Ai
namespace Go.Ai
open Go.Proofs
set_option maxRecDepth 100000
theorem jD0 (ts : List Tm) (i : Nat) (h : i < ts.length) : Tm.cnts (ts.take (i + 1)) = Tm.cnts (ts.take i) + ts[i].cnt := by
 rw [List.take_add_one, List.getElem?_eq_getElem h, bb0]; simp [Tm.cnts]
theorem dQ0 (ts : List Tm) (i : Nat) (h : i < ts.length) : Tm.deps (ts.take (i + 1)) = max (Tm.deps (ts.take i)) ts[i].dep := by
 rw [List.take_add_one, List.getElem?_eq_getElem h, bf0]; simp [Tm.deps]
theorem wK0 (ts : List Tm) (i : Nat) : Tm.cnts (ts.take i) ≤ Tm.cnts ts := by
 have := bb0 (ts.take i) (ts.drop i)
 rw [List.take_append_drop] at this; omega
theorem kW0 (ts : List Tm) (i : Nat) : Tm.deps (ts.take i) ≤ Tm.deps ts := by
 have := bf0 (ts.take i) (ts.drop i)
 rw [List.take_append_drop] at this; omega
theorem pZ0 (ts : List Tm) (i : Nat) (h : i < ts.length) : Tm.nodess (ts.drop i) = (ts[i].nodes && Tm.nodess (ts.drop (i + 1))) := by
 rw [List.drop_eq_getElem_cons h]; simp only [Tm.nodess]
theorem mE0 (k n : Int) (s : ByteArray) (ts : List Tm) (hl : Tm.sizes ts < 80000000) (ih : ∀ t, t ∈ ts → Sat Tryz.prog 91 [tmV t] (zD0 t.cnt)) : Sat Tryz.prog 91 [tmV (.mk k n s ts)] (zD0 (Tm.mk k n s ts).cnt) := by
 have hts := zH0 ts
 have hcs := cnts_size ts
 refine soc zE0 zB0 Tryz.func91 ?_
 simp -implicitDefEqProofs (disch := omega) only [go_sem, Tm.enc]
 refine zA0 (ι := Nat) (fun i => mk 19 [(3, zD0 (1 + Tm.cnts (ts.take i) : Nat)), (7, yM0 ts), (8, zD0 ts.length), (9, zD0 i)] [])
  (fun i => i ≤ ts.length) (fun i => ts.length - i) 0 (Nat.zero_le _) ?_ zE0 zB0 (by decide +kernel) ?_
 ·exact zG0 (by simp [go_sem, Tm.cnts]) (by simp [go_sem])
 ·intro i hi
  have hct := wK0 ts i
  rcases Nat.lt_or_ge i ts.length with hlt | hge
  ·have hg := zF0 ts i hlt
   have hsn := jD0 ts i hlt
   have hct2 := wK0 ts (i + 1)
   simp -implicitDefEqProofs (disch := omega) only [go_sem, hg, hlt, enc_len]
   refine CallK.mk (ih _ (List.getElem_mem hlt)) ?_
   simp -implicitDefEqProofs (disch := omega) only [go_sem]
   exact ⟨i + 1, hlt, by omega, zG0 (by simp [go_sem]; omega) (by simp [go_sem])⟩
  ·have : i = ts.length := by omega
   subst this
   simp -implicitDefEqProofs (disch := omega) only [go_sem, Nat.lt_irrefl, List.take_length, Tm.cnt]
theorem fU0 : ∀ (t : Tm), t.size < 80000000 → Sat Tryz.prog 91 [tmV t] (zD0 t.cnt) := by
 refine Tm.ind (fun k n s ts ih h => mE0 k n s ts (by simp only [Tm.size] at h; omega) (fun t ht => ih t ht ?_))
 have := zT0 ts t ht; simp only [Tm.size] at h; omega
theorem mF0 (k n : Int) (s : ByteArray) (ts : List Tm) (hl : Tm.sizes ts < 80000000) (ih : ∀ t, t ∈ ts → Sat Tryz.prog 194 [tmV t] (zD0 t.dep)) : Sat Tryz.prog 194 [tmV (.mk k n s ts)] (zD0 (Tm.mk k n s ts).dep) := by
 have hts := zH0 ts
 have hcs := cnts_size ts
 have hds := deps_cnts ts
 refine soc zE0 zB0 Tryz.func194 ?_
 simp -implicitDefEqProofs (disch := omega) only [go_sem, Tm.enc]
 refine zA0 (ι := Nat) (fun i => mk 20 [(3, zD0 (Tm.deps (ts.take i))), (7, yM0 ts), (8, zD0 ts.length), (9, zD0 i)] [])
  (fun i => i ≤ ts.length) (fun i => ts.length - i) 0 (Nat.zero_le _) ?_ zE0 zB0 (by decide +kernel) ?_
 ·exact zG0 (by simp [go_sem, Tm.deps]) (by simp [go_sem])
 ·intro i hi
  have hct := kW0 ts i
  rcases Nat.lt_or_ge i ts.length with hlt | hge
  ·have hg := zF0 ts i hlt
   have hsn := dQ0 ts i hlt
   have hct2 := kW0 ts (i + 1)
   simp -implicitDefEqProofs (disch := omega) only [go_sem, hg, hlt, enc_len]
   refine CallK.mk (ih _ (List.getElem_mem hlt)) ?_
   simp -implicitDefEqProofs (disch := omega) only [go_sem]
   refine ⟨i + 1, hlt, by omega, zG0 (by simp [go_sem]; split <;> omega) (by simp [go_sem])⟩
  ·have : i = ts.length := by omega
   subst this
   rw [List.take_length] at hct ⊢
   simp -implicitDefEqProofs (disch := omega) only [go_sem, Nat.lt_irrefl, Tm.dep, Int.natCast_add, Int.natCast_one]
theorem bl0 : ∀ (t : Tm), t.size < 80000000 → Sat Tryz.prog 194 [tmV t] (zD0 t.dep) := by
 refine Tm.ind (fun k n s ts ih h => mF0 k n s ts (by simp only [Tm.size] at h; omega) (fun t ht => ih t ht ?_))
 have := zT0 ts t ht; simp only [Tm.size] at h; omega
theorem mI0 (k n : Int) (s : ByteArray) (ts : List Tm) (hl : s.size + Tm.sizes ts < 80000000) (ih : ∀ t, t ∈ ts → Sat Tryz.prog 195 [tmV t] (boolV t.nodes)) : Sat Tryz.prog 195 [tmV (.mk k n s ts)] (boolV (Tm.mk k n s ts).nodes) := by
 have hts := zH0 ts
 obtain ⟨r, hr⟩ : ∃ r, r = (Tm.mk k n s ts).nodes := ⟨_, rfl⟩
 rw [← hr]
 simp only [Tm.nodes, pY0, eqS] at hr
 have hnil : ts.length = 0 → Tm.nodess ts = true := fun h => by rw [List.eq_nil_of_length_eq_zero h]; rfl
 have hz : ((ts.length : Int) == 0) = (ts.length == 0) := by cases ts <;> simp <;> omega
 refine soc zE0 zB0 Tryz.func195 ?_
 simp -implicitDefEqProofs (disch := omega) only [go_sem, Tm.enc, hz]
 refine ⟨fun h1 => ⟨fun h2 => ⟨fun h3 => CallK.mk (vR0 s (by omega)) ?_, fun h3 => by grind⟩, fun h2 => by grind⟩, fun h1 => ⟨fun h2 => ?_, fun h2 => ⟨fun h3 => ⟨fun h4 => CallK.mk (wE0 s (by omega)) ?_, fun h4 => by grind⟩, fun h3 => by grind⟩⟩⟩
 ·simp -implicitDefEqProofs (disch := omega) only [go_sem]
  have := hnil h3
  grind
 ·have hw := fW0 (.mk k n s ts) (by simp only [Tm.size]; omega)
  refine CallK.mk hw ?_
  simp -implicitDefEqProofs (disch := omega) only [go_sem]
  simp only [jL1, eqS]
  grind
 ·simp -implicitDefEqProofs (disch := omega) only [go_sem]
  refine ⟨fun h5 => by grind, fun h5 => ?_⟩
  have hr : r = Tm.nodess ts := by grind
  refine zA0 (ι := Nat) (fun i => mk 49 [(39, yM0 ts), (40, zD0 ts.length), (41, zD0 i)] [])
   (fun i => i ≤ ts.length ∧ Tm.nodess (ts.drop i) = r) (fun i => ts.length - i) 0 ⟨Nat.zero_le _, by simp [hr]⟩ ?_ zE0 zB0 (by decide +kernel) ?_
  ·exact lek
  ·rintro i ⟨hi, he⟩
   rcases Nat.lt_or_ge i ts.length with hlt | hge
   ·have hg := zF0 ts i hlt
    rw [pZ0 ts i hlt] at he
    simp -implicitDefEqProofs (disch := omega) only [go_sem, hg, hlt, enc_len]
    refine CallK.mk (ih _ (List.getElem_mem hlt)) ?_
    simp -implicitDefEqProofs (disch := omega) only [go_sem]
    exact ⟨fun h => by rw [h] at he; rw [← he]; simp, fun h => ⟨i + 1, ⟨hlt, by rw [h] at he; simpa using he⟩, by omega, lek⟩⟩
   ·have : i = ts.length := by omega
    subst this
    rw [List.drop_length] at he
    simp -implicitDefEqProofs (disch := omega) only [go_sem, Nat.lt_irrefl]
    exact he
theorem bo0 : ∀ (t : Tm), t.size < 80000000 → Sat Tryz.prog 195 [tmV t] (boolV t.nodes) := by
 refine Tm.ind (fun k n s ts ih h => mI0 k n s ts (by simp only [Tm.size] at h; omega) (fun t ht => ih t ht ?_))
 have := zT0 ts t ht; simp only [Tm.size] at h; omega
theorem tO0 (k n : Int) (s : ByteArray) (ts : List Tm) (hl : Tm.sizes ts < 80000000) (l : Int) (h0 : 0 ≤ l) (h1 : l < 80000000) (ih : ∀ t, t ∈ ts → ∀ l : Int, 0 ≤ l → l < 80000000 → Sat Tryz.prog 171 [tmV t, zD0 l] (zD0 (lfN t.cnt l))) : Sat Tryz.prog 171 [tmV (.mk k n s ts), zD0 l] (zD0 (lfN (Tm.mk k n s ts).cnt l)) := by
 have hts := zH0 ts
 refine soc zE0 zB0 Tryz.func171 ?_
 simp -implicitDefEqProofs (disch := omega) only [go_sem, Tm.enc]
 refine zA0 (ι := Nat) (fun i => mk 27 [(1, zD0 (lfN (1 + Tm.cnts (ts.take i)) l)), (2, .one (.ptr 2 0)), (5, zD0 i)] [(2, .var [iC k, iC n, sC s, tC ts])])
  (fun i => i ≤ ts.length) (fun i => ts.length - i) 0 (Nat.zero_le _) ?_ zE0 zB0 (by decide +kernel) ?_
 ·refine zG0 (by simp [go_sem, Tm.cnts, lfN]; omega) (by simp [go_sem])
 ·intro i hi
  have hct := wK0 ts i
  rcases Nat.lt_or_ge i ts.length with hlt | hge
  ·have hg := zF0 ts i hlt
   have hsn := jD0 ts i hlt
   have hct2 := wK0 ts (i + 1)
   obtain ⟨v, hv⟩ : ∃ v, v = lfN (1 + Tm.cnts (ts.take i)) l := ⟨_, rfl⟩
   have hfin : ¬ v ≥ 0 → v = lfN (1 + Tm.cnts ts) l := by rw [hv]; unfold lfN; intro h; split at h <;> split <;> omega
   have hnext : v ≥ 0 → lfN ts[i].cnt v = lfN (1 + Tm.cnts (ts.take (i + 1))) l := by rw [hv, hsn]; unfold lfN; intro h; split at h <;> (split <;> split <;> omega)
   have hvl : v < 80000000 := by rw [hv]; unfold lfN; split <;> omega
   rw [← hv]
   simp -implicitDefEqProofs (disch := omega) only [go_sem, hg, hlt, enc_len, Tm.cnt]
   refine ⟨fun h => CallK.mk (ih _ (List.getElem_mem hlt) v h hvl) ?_, fun h => hfin h⟩
   rw [hnext h]
   simp -implicitDefEqProofs (disch := omega) only [go_sem]
   exact ⟨i + 1, hlt, by omega, lek⟩
  ·have : i = ts.length := by omega
   subst this
   simp -implicitDefEqProofs (disch := omega) only [go_sem, Nat.lt_irrefl, List.take_length, Tm.cnt]
theorem ge0 : ∀ (t : Tm), t.size < 80000000 → ∀ l : Int, 0 ≤ l → l < 80000000 → Sat Tryz.prog 171 [tmV t, zD0 l] (zD0 (lfN t.cnt l)) := by
 refine Tm.ind (fun k n s ts ih h l h0 h1 => tO0 k n s ts (by simp only [Tm.size] at h; omega) l h0 h1 (fun t ht => ih t ht ?_))
 have := zT0 ts t ht; simp only [Tm.size] at h; omega
theorem mr0 (a b : Int) : Sat Tryz.prog 208 [zD0 a, zD0 b] (zD0 (if a > b then a else b)) := by
 refine soc zE0 zB0 Tryz.func208 ?_
 simp -implicitDefEqProofs only [go_sem]
 grind
theorem mp0 (k n : Int) (s : ByteArray) (ts : List Tm) (hl : Tm.sizes ts < 80000000) (ih : ∀ t, t ∈ ts → Sat Tryz.prog 172 [tmV t] (zD0 t.dep)) : Sat Tryz.prog 172 [tmV (.mk k n s ts)] (zD0 (Tm.mk k n s ts).dep) := by
 have hts := zH0 ts
 have hcs := cnts_size ts
 have hds := deps_cnts ts
 refine soc zE0 zB0 Tryz.func172 ?_
 simp -implicitDefEqProofs (disch := omega) only [go_sem, Tm.enc]
 refine zA0 (ι := Nat) (fun i => mk 22 [(1, .one (.ptr 1 0)), (3, zD0 (Tm.deps (ts.take i))), (4, zD0 i)] [(1, .var [iC k, iC n, sC s, tC ts])])
  (fun i => i ≤ ts.length) (fun i => ts.length - i) 0 (Nat.zero_le _) ?_ zE0 zB0 (by decide +kernel) ?_
 ·exact zG0 (by simp [go_sem, Tm.deps]) (by simp [go_sem])
 ·intro i hi
  have hct := kW0 ts i
  rcases Nat.lt_or_ge i ts.length with hlt | hge
  ·have hg := zF0 ts i hlt
   have hsn := dQ0 ts i hlt
   have hct2 := kW0 ts (i + 1)
   simp -implicitDefEqProofs (disch := omega) only [go_sem, hg, hlt, enc_len]
   refine CallK.mk (ih _ (List.getElem_mem hlt)) ?_
   simp -implicitDefEqProofs (disch := omega) only [go_sem]
   refine CallK.mk (mr0 _ _) ?_
   simp -implicitDefEqProofs (disch := omega) only [go_sem]
   refine ⟨i + 1, hlt, by omega, zG0 (by simp [go_sem]; split <;> omega) (by simp [go_sem])⟩
  ·have : i = ts.length := by omega
   subst this
   rw [List.take_length] at hct ⊢
   simp -implicitDefEqProofs (disch := omega) only [go_sem, Nat.lt_irrefl, Tm.dep, Int.natCast_add, Int.natCast_one]
theorem cX0 : ∀ (t : Tm), t.size < 80000000 → Sat Tryz.prog 172 [tmV t] (zD0 t.dep) := by
 refine Tm.ind (fun k n s ts ih h => mp0 k n s ts (by simp only [Tm.size] at h; omega) (fun t ht => ih t ht ?_))
 have := zT0 ts t ht; simp only [Tm.size] at h; omega
theorem gf0 (k n : Int) (s : ByteArray) (ts : List Tm) (hl : s.size + Tm.sizes ts < 80000000) : Sat Tryz.prog 209 [tmV (.mk k n s ts)] (boolV (pY0 k n s ts.length)) := by
 have hts := zH0 ts
 obtain ⟨r, hr⟩ : ∃ r, r = pY0 k n s ts.length := ⟨_, rfl⟩
 rw [← hr]
 simp only [pY0, eqS] at hr
 have hz : ((ts.length : Int) == 0) = (ts.length == 0) := by cases ts <;> simp <;> omega
 refine soc zE0 zB0 Tryz.func209 ?_
 simp -implicitDefEqProofs only [go_sem, Tm.enc, hz]
 refine ⟨fun h1 => CallK.mk (vf0 s (by omega)) ?_, fun h1 => ⟨fun h2 => CallK.mk (wI0 s (by omega)) ?_, fun h2 => ⟨fun h3 => ⟨fun h4 => CallK.mk (yi0 _ _ _) ?_, fun h4 => by grind⟩, fun h3 => by grind⟩⟩⟩
 all_goals
  simp -implicitDefEqProofs only [go_sem, hz]
  grind
theorem wB1 (k n : Int) (s : ByteArray) (ts : List Tm) (hl : s.size + Tm.sizes ts < 80000000) (ih : ∀ t, t ∈ ts → Sat Tryz.prog 173 [tmV t] (boolV t.nodes)) : Sat Tryz.prog 173 [tmV (.mk k n s ts)] (boolV (Tm.mk k n s ts).nodes) := by
 have hts := zH0 ts
 have hnode := gf0 k n s ts hl
 obtain ⟨r, hr⟩ : ∃ r, r = (Tm.mk k n s ts).nodes := ⟨_, rfl⟩
 rw [← hr]
 simp only [Tm.nodes] at hr
 generalize pY0 k n s ts.length = nb at hnode hr
 refine soc zE0 zB0 Tryz.func173 ?_
 simp -implicitDefEqProofs (disch := omega) only [go_sem, Tm.enc]
 refine zA0 (ι := Nat) (fun i => mk 20 [(1, .one (.ptr 1 0)), (3, zD0 i)] [(1, .var [iC k, iC n, sC s, tC ts])])
  (fun i => i ≤ ts.length ∧ Tm.nodess (ts.drop i) = Tm.nodess ts) (fun i => ts.length - i) 0 ⟨Nat.zero_le _, by simp⟩ ?_ zE0 zB0 (by decide +kernel) ?_
 ·exact lek
 ·rintro i ⟨hi, he⟩
  rcases Nat.lt_or_ge i ts.length with hlt | hge
  ·have hg := zF0 ts i hlt
   rw [pZ0 ts i hlt] at he
   simp -implicitDefEqProofs (disch := omega) only [go_sem, hg, hlt, enc_len]
   refine CallK.mk (ih _ (List.getElem_mem hlt)) ?_
   simp -implicitDefEqProofs (disch := omega) only [go_sem]
   exact ⟨fun h => by rw [h] at he; rw [hr, ← he]; simp, fun h => ⟨i + 1, ⟨hlt, by rw [h] at he; simpa using he⟩, by omega, lek⟩⟩
  ·have : i = ts.length := by omega
   subst this
   rw [List.drop_length] at he
   simp -implicitDefEqProofs (disch := omega) only [go_sem, Nat.lt_irrefl]
   refine CallK.mk hnode ?_
   simp -implicitDefEqProofs (disch := omega) only [go_sem]
   rw [hr, ← he]; simp [Tm.nodess]
theorem mo0 : ∀ (t : Tm), t.size < 80000000 → Sat Tryz.prog 173 [tmV t] (boolV t.nodes) := by
 refine Tm.ind (fun k n s ts ih h => wB1 k n s ts (by simp only [Tm.size] at h; omega) (fun t ht => ih t ht ?_))
 have := zT0 ts t ht; simp only [Tm.size] at h; omega
theorem wW0 (t : Tm) (h : t.size < 80000000) : Sat Tryz.prog 148 [tmV t] (boolV t.valid) := by
 have h1 := fU0 t h
 have h2 := bl0 t h
 have h3 := bo0 t h
 have hv : t.valid = (decide (t.cnt ≤ 60) && decide (t.dep ≤ 16) && t.nodes) := rfl
 obtain ⟨r, hr⟩ : ∃ r, r = t.valid := ⟨_, rfl⟩
 rw [← hr]
 rw [← hr] at hv
 generalize t.cnt = c at h1 hv
 generalize t.dep = d at h2 hv
 generalize t.nodes = b at h3 hv
 obtain ⟨k, n, s, ts⟩ := t
 refine soc zE0 zB0 Tryz.func148 ?_
 simp -implicitDefEqProofs only [go_sem, Tm.enc]
 refine CallK.mk h1 ?_
 simp -implicitDefEqProofs only [go_sem]
 refine ⟨fun k1 => CallK.mk h2 ?_, fun k1 => by grind⟩
 simp -implicitDefEqProofs only [go_sem]
 refine ⟨fun k2 => CallK.mk h3 ?_, fun k2 => by grind⟩
 simp -implicitDefEqProofs only [go_sem]
 grind
theorem wY0 (t : Tm) (h : t.size < 80000000) : Sat Tryz.prog 106 [tmV t] (boolV t.valid) := by
 have h1 := ge0 t h 60 (by omega) (by omega)
 have h2 := cX0 t h
 have h3 := mo0 t h
 have hv : t.valid = (decide (t.cnt ≤ 60) && decide (t.dep ≤ 16) && t.nodes) := rfl
 have hcv : lfN t.cnt 60 ≥ 0 ↔ t.cnt ≤ 60 := by unfold lfN; split <;> omega
 obtain ⟨r, hr⟩ : ∃ r, r = t.valid := ⟨_, rfl⟩
 rw [← hr]
 rw [← hr] at hv
 generalize lfN t.cnt 60 = l at h1 hcv
 generalize t.cnt = c at hcv hv
 generalize t.dep = d at h2 hv
 generalize t.nodes = b at h3 hv
 obtain ⟨k, n, s, ts⟩ := t
 refine soc zE0 zB0 Tryz.func106 ?_
 simp -implicitDefEqProofs only [go_sem, Tm.enc]
 refine CallK.mk h1 ?_
 simp -implicitDefEqProofs only [go_sem]
 refine ⟨fun k1 => CallK.mk h2 ?_, fun k1 => by grind⟩
 simp -implicitDefEqProofs only [go_sem]
 refine ⟨fun k2 => CallK.mk h3 ?_, fun k2 => by grind⟩
 simp -implicitDefEqProofs only [go_sem]
 grind
end Go.Ai
