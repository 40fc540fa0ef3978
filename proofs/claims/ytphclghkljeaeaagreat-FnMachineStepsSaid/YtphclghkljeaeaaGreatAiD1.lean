/- Contracts of the functions on terms: size, conversion, equality. -/
import Derived.Test.YtphclghkljeaeaaGreatAiRows
import Derived.Test.YtphclghkljeaeaaGreatAiSeat
import Derived.Test.YtphclghkljeaeaaGreatAiMarks
set_option linter.unusedVariables false
set_option linter.unusedSimpArgs false
namespace Go.Ai
open Go.Proofs
set_option maxRecDepth 100000
abbrev zT : List AC := [iC 0, iC 0, sC ⟨⟨[]⟩⟩, .nil]
theorem fd0 (k n : Int) (s : ByteArray) (ts : List Tm) (k' n' : Int) (s' : ByteArray) (ts' : List Tm) (hl : ts.length ≤ maxLen)
  (ih : ∀ t, t ∈ ts → ∀ u, Sat Tryz.prog 17 [tmV t, tmV u] (boolV (t.eqb u))) :
  Sat Tryz.prog 17 [tmV (.mk k n s ts), tmV (.mk k' n' s' ts')] (boolV (Tm.eqb (.mk k n s ts) (.mk k' n' s' ts'))) := by
 simp only [maxLen] at hl
 obtain ⟨r, hr⟩ : ∃ r, r = Tm.eqb (.mk k n s ts) (.mk k' n' s' ts') := ⟨_, rfl⟩
 rw [← hr]
 simp only [Tm.eqb] at hr
 refine soc zE0 zA0 Tryz.func17 ?_
 refine jj0 ?_
 refine ⟨fun h1 => ⟨fun h2 => ⟨fun h3 => ⟨fun h4 => ?_, fun h4 => ?_⟩, fun h3 => ?_⟩, fun h2 => ?_⟩, fun h1 => ?_⟩
 ·simp [hr, cZ0 ts ts' (by omega)]
 ·have hll : ts.length = ts'.length := by simp at h4; omega
  have hr : r = Tm.eqbs ts ts' := by simp_all
  refine zB0 (ι := Nat) (fun i => mk 53 [(2, .one (.ptr 2 0)), (3, .one (.ptr 3 0)), (5, zH0 i)] [(2, .var [iC k, iC n, sC s, tC ts]), (3, .var [iC k', iC n', sC s', tC ts'])])
   (fun i => i ≤ ts.length ∧ Tm.eqbs (ts.drop i) (ts'.drop i) = Tm.eqbs ts ts') (fun i => ts.length - i) 0 ⟨Nat.zero_le _, by simp⟩ ?_ zE0 zA0 (by decide +kernel) ?_
  ·exact lek
  ·rintro i ⟨hi, he⟩
   rcases Nat.lt_or_ge i ts.length with hlt | hge
   ·have hlt' : i < ts'.length := by omega
    have hg := zG0 ts i hlt
    have hg' := zG0 ts' i hlt'
    rw [gM0 ts ts' i hlt hlt'] at he
    refine gB1 ?_
    refine c0' (ih _ (List.getElem_mem hlt) _) ?_
    refine ⟨fun h => ?_, fun h => ⟨i + 1, ⟨hlt, ?_⟩, by omega, lek⟩⟩
    ·rw [h] at he; rw [hr]; simpa using he
    ·rw [h] at he; simpa using he
   ·have e1 : ts.drop i = [] := List.drop_of_length_le hge
    have e2 : ts'.drop i = [] := List.drop_of_length_le (by omega)
    rw [e1, e2] at he
    refine xK1 ?_
    rw [hr, ← he]; rfl
 ·simp [hr, h3]
 ·simp [hr, h2]
 ·simp [hr, h1]
theorem zu0 : ∀ (t : Tm), t.wf → ∀ u, Sat Tryz.prog 17 [tmV t, tmV u] (boolV (t.eqb u)) := by
 refine Tm.ind (fun k n s ts ih hw u => ?_)
 obtain ⟨k', n', s', ts'⟩ := u
 exact fd0 k n s ts k' n' s' ts' hw.2.2.2.1 (fun t ht u => ih t ht ((yf0 ts).1 hw.2.2.2.2 t ht) u)
theorem mo0 (ts ts' : List Tm) (hl : ts.length ≤ maxLen) (ih : ∀ t, t ∈ ts → ∀ u, Sat Tryz.prog 85 [tmV t, tmV u] (boolV (t.eqb u))) :
  Sat Tryz.prog 158 [xU0 ts, xU0 ts', .one (.c (.v (.func (.func 85) #[] #[])))] (boolV (Tm.eqbs ts ts')) := by
 simp only [maxLen] at hl
 refine soc zE0 zA0 Tryz.func158 ?_
 refine qI0 ?_
 refine ⟨fun h4 => ?_, fun h4 => ?_⟩
 ·rw [cZ0 ts ts' (by omega)]
 ·have hll : ts.length = ts'.length := by simp at h4; omega
  refine zB0 (ι := Nat) (fun i => mk 32 [(0, xU0 ts), (1, xU0 ts'), (2, .one (.c (.v (.func (.func 85) #[] #[])))), (15, xU0 ts), (16, zH0 ts.length), (17, zH0 i)] [])
   (fun i => i ≤ ts.length ∧ Tm.eqbs (ts.drop i) (ts'.drop i) = Tm.eqbs ts ts') (fun i => ts.length - i) 0 ⟨Nat.zero_le _, by simp⟩ ?_ zE0 zA0 (by decide +kernel) ?_
  ·exact lek
  ·rintro i ⟨hi, he⟩
   rcases Nat.lt_or_ge i ts.length with hlt | hge
   ·have hlt' : i < ts'.length := by omega
    have hg := zG0 ts i hlt
    have hg' := zG0 ts' i hlt'
    rw [gM0 ts ts' i hlt hlt'] at he
    refine gB1 ?_
    refine c0' (ih _ (List.getElem_mem hlt) _) ?_
    refine ⟨fun h => ?_, fun h => ⟨i + 1, ⟨hlt, ?_⟩, by omega, lek⟩⟩
    ·rw [h] at he; simpa using he
    ·rw [h] at he; simpa using he
   ·have e1 : ts.drop i = [] := List.drop_of_length_le hge
    have e2 : ts'.drop i = [] := List.drop_of_length_le (by omega)
    rw [e1, e2] at he
    refine xK1 ?_
    rw [← he]; rfl
theorem pm0 (k n : Int) (s : ByteArray) (ts : List Tm) (k' n' : Int) (s' : ByteArray) (ts' : List Tm)
  (ih : Sat Tryz.prog 158 [xU0 ts, xU0 ts', .one (.c (.v (.func (.func 85) #[] #[])))] (boolV (Tm.eqbs ts ts'))) :
  Sat Tryz.prog 85 [tmV (.mk k n s ts), tmV (.mk k' n' s' ts')] (boolV (Tm.eqb (.mk k n s ts) (.mk k' n' s' ts'))) := by
 obtain ⟨r, hr⟩ : ∃ r, r = Tm.eqb (.mk k n s ts) (.mk k' n' s' ts') := ⟨_, rfl⟩
 rw [← hr]
 simp only [Tm.eqb] at hr
 refine soc zE0 zA0 Tryz.func85 ?_
 refine fC0 ?_
 refine ⟨fun h1 => ⟨fun h2 => ⟨fun h3 => ?_, fun h3 => ?_⟩, fun h2 => ?_⟩, fun h1 => ?_⟩
 ·refine c8' ih ?_
  simp_all
 ·simp_all
 ·simp_all
 ·simp_all
theorem jD0 : ∀ (t : Tm), t.wf → ∀ u, Sat Tryz.prog 85 [tmV t, tmV u] (boolV (t.eqb u)) := by
 refine Tm.ind (fun k n s ts ih hw u => ?_)
 obtain ⟨k', n', s', ts'⟩ := u
 exact pm0 k n s ts k' n' s' ts' (mo0 ts ts' hw.2.2.2.1 (fun t ht u => ih t ht ((yf0 ts).1 hw.2.2.2.2 t ht) u))
open Go.Proofs Go.RowKit Go.ChangeShapes
structure GGuard where
 kd : Int
 le : Tm
 ri : Tm
def GGuard.enc (x : GGuard) : List C := encI x.kd ++ (Tm.enc x.le ++ (Tm.enc x.ri))
def GGuard.size (x : GGuard) : Nat := szI x.kd + Tm.size x.le + Tm.size x.ri
def GGuard.wf (x : GGuard) : Prop := wfI x.kd ∧ Tm.wf x.le ∧ Tm.wf x.ri
def GGuard.eqb (x y : GGuard) : Bool := eqI x.kd y.kd && (Tm.eqb x.le y.le && (Tm.eqb x.ri y.ri))
theorem GGuard.enc_len (x : GGuard) : x.enc.length = 9 := by simp [GGuard.enc, encI, encS, jI1, encL, Go.Ai.enc_len]
theorem GGuard.enc_take (x : GGuard) : x.enc.take 9 = x.enc := List.take_of_length_le (by rw [GGuard.enc_len]; exact Nat.le_refl _)
theorem GGuard.encm_take (x : GGuard) : (x.enc.map AC.c).take 9 = x.enc.map AC.c := List.take_of_length_le (by rw [List.length_map, GGuard.enc_len]; exact Nat.le_refl _)
attribute [go_sem] GGuard.enc_len GGuard.enc_take GGuard.encm_take
structure GRule where
 na : ByteArray
 le : Tm
 ri : Tm
 gu : List GGuard
def GRule.enc (x : GRule) : List C := encS x.na ++ (Tm.enc x.le ++ (Tm.enc x.ri ++ (encL GGuard.enc x.gu)))
def GRule.size (x : GRule) : Nat := szS x.na + Tm.size x.le + Tm.size x.ri + (szL GGuard.size) x.gu
def GRule.wf (x : GRule) : Prop := wfS x.na ∧ Tm.wf x.le ∧ Tm.wf x.ri ∧ (wfL GGuard.wf) x.gu
def GRule.eqb (x y : GRule) : Bool := eqS x.na y.na && (Tm.eqb x.le y.le && (Tm.eqb x.ri y.ri && ((eqL GGuard.eqb) x.gu y.gu)))
theorem GRule.enc_len (x : GRule) : x.enc.length = 10 := by simp [GRule.enc, encI, encS, jI1, encL, Go.Ai.enc_len]
theorem GRule.enc_take (x : GRule) : x.enc.take 10 = x.enc := List.take_of_length_le (by rw [GRule.enc_len]; exact Nat.le_refl _)
theorem GRule.encm_take (x : GRule) : (x.enc.map AC.c).take 10 = x.enc.map AC.c := List.take_of_length_le (by rw [List.length_map, GRule.enc_len]; exact Nat.le_refl _)
attribute [go_sem] GRule.enc_len GRule.enc_take GRule.encm_take
structure GOp where
 na : ByteArray
 ar : List ByteArray
 re : ByteArray
def GOp.enc (x : GOp) : List C := encS x.na ++ (encL encS x.ar ++ (encS x.re))
def GOp.size (x : GOp) : Nat := szS x.na + (szL szS) x.ar + szS x.re
def GOp.wf (x : GOp) : Prop := wfS x.na ∧ (wfL wfS) x.ar ∧ wfS x.re
def GOp.eqb (x y : GOp) : Bool := eqS x.na y.na && ((eqL eqS) x.ar y.ar && (eqS x.re y.re))
theorem GOp.enc_len (x : GOp) : x.enc.length = 3 := by simp [GOp.enc, encI, encS, jI1, encL, Go.Ai.enc_len]
theorem GOp.enc_take (x : GOp) : x.enc.take 3 = x.enc := List.take_of_length_le (by rw [GOp.enc_len]; exact Nat.le_refl _)
theorem GOp.encm_take (x : GOp) : (x.enc.map AC.c).take 3 = x.enc.map AC.c := List.take_of_length_le (by rw [List.length_map, GOp.enc_len]; exact Nat.le_refl _)
attribute [go_sem] GOp.enc_len GOp.enc_take GOp.encm_take
structure GSignature where
 so : List ByteArray
 op : List GOp
def GSignature.enc (x : GSignature) : List C := encL encS x.so ++ (encL GOp.enc x.op)
def GSignature.size (x : GSignature) : Nat := (szL szS) x.so + (szL GOp.size) x.op
def GSignature.wf (x : GSignature) : Prop := (wfL wfS) x.so ∧ (wfL GOp.wf) x.op
def GSignature.eqb (x y : GSignature) : Bool := (eqL eqS) x.so y.so && ((eqL GOp.eqb) x.op y.op)
theorem GSignature.enc_len (x : GSignature) : x.enc.length = 2 := by simp [GSignature.enc, encI, encS, jI1, encL, Go.Ai.enc_len]
theorem GSignature.enc_take (x : GSignature) : x.enc.take 2 = x.enc := List.take_of_length_le (by rw [GSignature.enc_len]; exact Nat.le_refl _)
theorem GSignature.encm_take (x : GSignature) : (x.enc.map AC.c).take 2 = x.enc.map AC.c := List.take_of_length_le (by rw [List.length_map, GSignature.enc_len]; exact Nat.le_refl _)
attribute [go_sem] GSignature.enc_len GSignature.enc_take GSignature.encm_take
structure GStrict where
 op : ByteArray
 ar : Int
def GStrict.enc (x : GStrict) : List C := encS x.op ++ (encI x.ar)
def GStrict.size (x : GStrict) : Nat := szS x.op + szI x.ar
def GStrict.wf (x : GStrict) : Prop := wfS x.op ∧ wfI x.ar
def GStrict.eqb (x y : GStrict) : Bool := eqS x.op y.op && (eqI x.ar y.ar)
theorem GStrict.enc_len (x : GStrict) : x.enc.length = 2 := by simp [GStrict.enc, encI, encS, jI1, encL, Go.Ai.enc_len]
theorem GStrict.enc_take (x : GStrict) : x.enc.take 2 = x.enc := List.take_of_length_le (by rw [GStrict.enc_len]; exact Nat.le_refl _)
theorem GStrict.encm_take (x : GStrict) : (x.enc.map AC.c).take 2 = x.enc.map AC.c := List.take_of_length_le (by rw [List.length_map, GStrict.enc_len]; exact Nat.le_refl _)
attribute [go_sem] GStrict.enc_len GStrict.enc_take GStrict.encm_take
structure GDefinition where
 si : GSignature
 ru : List GRule
 st : List GStrict
def GDefinition.enc (x : GDefinition) : List C := GSignature.enc x.si ++ (encL GRule.enc x.ru ++ (encL GStrict.enc x.st))
def GDefinition.size (x : GDefinition) : Nat := GSignature.size x.si + (szL GRule.size) x.ru + (szL GStrict.size) x.st
def GDefinition.wf (x : GDefinition) : Prop := GSignature.wf x.si ∧ (wfL GRule.wf) x.ru ∧ (wfL GStrict.wf) x.st
def GDefinition.eqb (x y : GDefinition) : Bool := GSignature.eqb x.si y.si && ((eqL GRule.eqb) x.ru y.ru && ((eqL GStrict.eqb) x.st y.st))
theorem dE' (d : GDefinition) : d.enc = [.sl (d.si.so.map encS), .sl (d.si.op.map GOp.enc), .sl (d.ru.map GRule.enc), .sl (d.st.map GStrict.enc)] := rfl
theorem GDefinition.enc_len (x : GDefinition) : x.enc.length = 4 := by simp [GDefinition.enc, encI, encS, jI1, encL, Go.Ai.enc_len, GSignature.enc_len]
theorem GDefinition.enc_take (x : GDefinition) : x.enc.take 4 = x.enc := List.take_of_length_le (by rw [GDefinition.enc_len]; exact Nat.le_refl _)
theorem GDefinition.encm_take (x : GDefinition) : (x.enc.map AC.c).take 4 = x.enc.map AC.c := List.take_of_length_le (by rw [List.length_map, GDefinition.enc_len]; exact Nat.le_refl _)
attribute [go_sem] GDefinition.enc_len GDefinition.enc_take GDefinition.encm_take
abbrev tG1 : List AC := [iC 0]
abbrev nJ1 : List AC := [sC ⟨⟨[]⟩⟩]
abbrev rA1 : List AC := [iC 0, iC 0, iC 0, sC ⟨⟨[]⟩⟩, .nil, iC 0, iC 0, sC ⟨⟨[]⟩⟩, .nil]
abbrev sy1 : List AC := [sC ⟨⟨[]⟩⟩, iC 0, iC 0, sC ⟨⟨[]⟩⟩, .nil, iC 0, iC 0, sC ⟨⟨[]⟩⟩, .nil, .nil]
abbrev zOp : List AC := [sC ⟨⟨[]⟩⟩, .nil, sC ⟨⟨[]⟩⟩]
abbrev nI1 : List AC := [sC ⟨⟨[]⟩⟩, iC 0]
end Go.Ai
