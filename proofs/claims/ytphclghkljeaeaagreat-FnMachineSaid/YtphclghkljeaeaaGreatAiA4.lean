/- All places where something fires: what they are, and that they are few. -/
import Derived.Test.YtphclghkljeaeaaGreatAiP8
import Derived.Test.YtphclghkljeaeaaGreatAiAccX
import Derived.Test.YtphclghkljeaeaaGreatAiRow2
import Derived.Test.YtphclghkljeaeaaGreatAiU10
import Derived.Test.YtphclghkljeaeaaGreatAiN1
import Derived.Test.YtphclghkljeaeaaGreatAiI5
set_option linter.unusedVariables false
set_option linter.unusedSimpArgs false
namespace Go.Ai
open Go.Proofs
set_option maxRecDepth 100000
def fM0 (rs : List (List (Int × List Int))) : List Int → List (Int × List Int)
 | [] => []
 | x :: xs => (rs.getD x.toNat []).map (fun q => (q.1, x :: q.2)) ++ fM0 rs xs
mutual
def Tm.all (st : List GStrict) (ro : Tm → List Int) : Tm → List (Int × List Int)
 | .mk k n s ts => (ro (.mk k n s ts)).map (fun x => (x, [])) ++ fM0 (Tm.alls st ro ts) (if k = 2 then zD0 st s else [])
def Tm.alls (st : List GStrict) (ro : Tm → List Int) : List Tm → List (List (Int × List Int))
 | [] => []
 | a :: ts => a.all st ro :: Tm.alls st ro ts
end
theorem sS0 (st : List GStrict) (ro : Tm → List Int) : ∀ (ts : List Tm), Tm.alls st ro ts = ts.map (Tm.all st ro)
 | [] => rfl
 | a :: ts => by simp only [Tm.alls, List.map_cons, sS0 st ro ts]
theorem sR0 (st : List GStrict) (ro : Tm → List Int) (ts : List Tm) (i : Nat) (h : i < ts.length) : (Tm.alls st ro ts).getD i [] = ts[i].all st ro := by
 rw [sS0]; simp [List.getD, h]
def xq0 (p : GRule → Bool) : List GRule → Int → List Int
 | [], _ => []
 | r :: rs, k => (if p r then [k] else []) ++ xq0 p rs (k + 1)
def ndS (st : List GStrict) : Prop := ∀ s, (zD0 st s).Nodup
theorem dm1 (si : GSignature) (st : List GStrict) (h : ms0 si st = true) : ndS st := by
 intro s
 unfold zD0
 have key : st.Pairwise fun x y => ¬ (x.op.toList = y.op.toList ∧ x.ar = y.ar) := by
  rw [List.pairwise_iff_getElem]
  intro i j hi hj hij he
  have h1 := List.all_eq_true.1 h j (List.mem_range.2 hj)
  simp only [pc0, List.getD_eq_getElem?_getD, List.getElem?_eq_getElem hj, Option.getD_some, Bool.and_eq_true, Bool.not_eq_true'] at h1
  have h2 := h1.2
  rw [List.any_eq_false] at h2
  have h3 := h2 st[i] (by
   rw [List.mem_take_iff_getElem]
   exact ⟨i, by omega, rfl⟩)
  apply h3
  rw [kP0]
  simp only [Bool.and_eq_true, beq_iff_eq]
  exact ⟨by simp only [eqS]; first | exact beq_iff_eq.2 he.1 | simpa using he.1, he.2⟩
 rw [List.Nodup, List.pairwise_map, List.pairwise_filter]
 refine key.imp (fun hxy hx hy he => hxy ⟨?_, he⟩)
 rw [beq_iff_eq.1 hx, beq_iff_eq.1 hy]
theorem cfg_nd (d : GDefinition) (t : Tm) (h : wf0 d t = true) : ndS d.st := by
 simp only [wf0, dJ0, Bool.and_eq_true] at h
 exact dm1 d.si d.st h.1.1.1.1.2
def kE0 (d : GDefinition) (t : Tm) : List Int := xq0 (fun x => (fireI x t).isSome) d.ru 0
def sb1 (path : List Int) (q : Int × List Int) : List C := [.v (.int .i64 q.1), .sl ((path ++ q.2).map encI)]
def zf2 (path : List Int) (l : List (Int × List Int)) : List (List AC) := l.map fun q => (sb1 path q).map mC
abbrev sZ1 (f : FuncId) (d : GDefinition) (t : Tm) : Prop := ∀ path : List Int, path.length + t.size < 1000000 → SatF Tryz.prog f [zW0 d.enc, tmV t, slV (path.map encI)] (slV ((t.all d.st (kE0 d)).map (sb1 path)))
end Go.Ai
namespace Go.Ai
open Go.Proofs
set_option maxRecDepth 100000
def cf1 (q : Int × List Int) : List C := [.v (.int .i64 q.1), .sl (q.2.map encI)]
def wt (R : Nat) (ts : List Tm) (k : Nat) : Nat := R * ((ts[k]?).map Tm.cnt).getD 0
def xj1 (path : List Int) (l : List (Int × List Int)) : List (Int × List Int) := l.map fun q => (q.1, path ++ q.2)
def qm2 (acc : List (Int × List Int)) (path : List Int) (p : GRule → Bool) (rs : List GRule) : List (Int × List Int) := acc ++ (xq0 p rs 0).map fun x => (x, path)
def qn2 (acc : List (Int × List Int)) (path : List Int) (als : List (List (Int × List Int))) (xs : List Int) : List (Int × List Int) := acc ++ xj1 path (fM0 als xs)
abbrev dY1 (d : GDefinition) (t : Tm) : Prop := ∀ (path : List Int) (acc : List (Int × List Int)), path.length + t.size < 1000000 → acc.length + d.ru.length * t.cnt < 1000000000 →
 bo0 Tryz.prog 69 [zW0 d.enc, tmV t, slV (path.map encI)] [] 100 2 (rowsOf cf1 acc) (rowsOf cf1 (acc ++ xj1 path (t.all d.st (kE0 d)))) []
open Go.Proofs Go.RowKit
structure GRedex where
 ru : Int
 ps : List Int
def GRedex.enc (x : GRedex) : List C := encI x.ru ++ (encL encI x.ps)
def GRedex.size (x : GRedex) : Nat := szI x.ru + (szL szI) x.ps
def GRedex.wf (x : GRedex) : Prop := wfI x.ru ∧ (wfL wfI) x.ps
def GRedex.eqb (x y : GRedex) : Bool := eqI x.ru y.ru && ((eqL eqI) x.ps y.ps)
theorem GRedex.enc_len (x : GRedex) : x.enc.length = 2 := by simp [GRedex.enc, encI, encS, encB, encL, Go.Ai.enc_len]
theorem GRedex.enc_take (x : GRedex) : x.enc.take 2 = x.enc := List.take_of_length_le (by rw [GRedex.enc_len]; exact Nat.le_refl _)
theorem GRedex.encm_take (x : GRedex) : (x.enc.map AC.c).take 2 = x.enc.map AC.c := List.take_of_length_le (by rw [List.length_map, GRedex.enc_len]; exact Nat.le_refl _)
attribute [go_sem] GRedex.enc_len GRedex.enc_take GRedex.encm_take
theorem GRedex.csz (x : GRedex) : zi0 x.enc = x.size := by simp only [GRedex.enc, GRedex.size, zn0, Nat.add_assoc, sn0, ky0 sn0]
theorem GRedex.nar (x : GRedex) : zx0 x.enc := (zR0 _ _ (tR0 x.ru) (vH0 (fun y => ⟨by simp [encI], tR0 y⟩) x.ps))
def rdG (q : Int × List Int) : GRedex := ⟨q.1, q.2⟩
def qo2 (d : GDefinition) (t : Tm) : List GRedex := if wf0 d t then (t.all d.st (kE0 d)).map rdG else []
theorem bX1 (d : GDefinition) (t : Tm) (h : wf0 d t = true) : d.ru.length ≤ 16 := by
 simp only [wf0, dJ0, Bool.and_eq_true, decide_eq_true_eq] at h
 exact h.1.1.1.1.1.1.2
theorem cF0 (rs : List (List (Int × List Int))) : ∀ (xs : List Int) (q : Int × List Int), q ∈ fM0 rs xs → ∃ x q', x ∈ xs ∧ q' ∈ rs.getD x.toNat [] ∧ q = (q'.1, x :: q'.2)
 | [], q, h => by cases h
 | x :: xs, q, h => by
  simp only [fM0, List.mem_append, List.mem_map] at h
  rcases h with ⟨q', h1, rfl⟩ | h
  ·exact ⟨x, q', by simp, h1, rfl⟩
  ·obtain ⟨y, q', h1, h2, h3⟩ := cF0 rs xs q h
   exact ⟨y, q', by simp [h1], h2, h3⟩
end Go.Ai
