/- The next place where something fires. -/
import Derived.Test.YtphclghkljeaeaaGreatAiP5
import Derived.Test.YtphclghkljeaeaaGreatAiF1
import Derived.Test.YtphclghkljeaeaaGreatAiG1
import Derived.Test.YtphclghkljeaeaaGreatAiDynE
set_option linter.unusedVariables false
set_option linter.unusedSimpArgs false
namespace Go.Ai
open Go.Proofs
set_option maxRecDepth 100000
mutual
def rng (st : List GStrict) : Tm → Prop
 | .mk k _ s ts => (k = 2 → ∀ x, x ∈ zF0 st s → 0 ≤ x ∧ x.toNat < ts.length) ∧ rngs st ts
def rngs (st : List GStrict) : List Tm → Prop
 | [] => True
 | a :: ts => rng st a ∧ rngs st ts
end
theorem ym1 (si : GSignature) (st : List GStrict) (hst : jO1 si st = true) (s : ByteArray) (o : GOp) (ho : zK0 si s = some o) (x : Int) (hx : x ∈ zF0 st s) : 0 ≤ x ∧ x.toNat < o.ar.length := by
 obtain ⟨y, hy, rfl⟩ := List.mem_map.1 hx
 obtain ⟨hy, he⟩ := List.mem_filter.1 hy
 obtain ⟨i, hi, rfl⟩ := List.mem_iff_getElem.1 hy
 have h1 := List.all_eq_true.1 hst i (List.mem_range.2 hi)
 have he : st[i].op = s := (yT0 _ _).1 he
 simp only [bL0, List.getD_eq_getElem?_getD, List.getElem?_eq_getElem hi, Option.getD_some, Bool.and_eq_true, decide_eq_true_eq, he, ho] at h1
 omega
mutual
theorem vQ1 (si : GSignature) (st : List GStrict) (hst : jO1 si st = true) : ∀ (t : Tm), t.nodes = true → eqS (t.sort si []) sE = false → rng st t
 | .mk k n s ts, hn, hs => by
  simp only [Tm.nodes, Bool.and_eq_true] at hn
  obtain ⟨hn, hns⟩ := hn
  by_cases hk : k = 2
  ·subst hk
   simp only [Tm.sort] at hs
   cases hf : zK0 si s with
   | none =>
    rw [hf] at hs
    exact absurd ((yT0 sE sE).2 rfl) (by simpa using hs)
   | some o =>
    rw [hf] at hs
    by_cases hc : (o.ar.length == ts.length && Tm.sorts si [] ts o.ar) = true
    ·simp only [Bool.and_eq_true, beq_iff_eq] at hc
     refine ⟨fun _ x hx => ?_, rngs_of si st hst ts o.ar hns hc.1 hc.2⟩
     rw [← hc.1]
     exact ym1 si st hst s o hf x hx
    ·exfalso
     have hc : (o.ar.length == ts.length && Tm.sorts si [] ts o.ar) = false := by simpa using hc
     simp only [hc] at hs
     exact absurd ((yT0 sE sE).2 rfl) (by simpa using hs)
  ·have hl : ts = [] := by
    apply List.eq_nil_of_length_eq_zero
    unfold bD0 at hn
    have hk2 : (k == 2) = false := by simpa using hk
    rw [hk2] at hn
    simp only [Bool.false_eq_true, if_false] at hn
    split at hn
    ·simp only [Bool.and_eq_true, beq_iff_eq] at hn; exact hn.2
    ·split at hn
     ·simp only [Bool.and_eq_true, beq_iff_eq] at hn; exact hn.2
     ·cases hn
   subst hl
   exact ⟨fun h => absurd h hk, trivial⟩
theorem rngs_of (si : GSignature) (st : List GStrict) (hst : jO1 si st = true) : ∀ (ts : List Tm) (xs : List ByteArray), Tm.nodess ts = true → xs.length = ts.length → Tm.sorts si [] ts xs = true → rngs st ts
 | [], _, _, _, _ => trivial
 | a :: ts, [], _, hl, _ => by simp at hl
 | a :: ts, x :: xs, hn, hl, hs => by
  simp only [Tm.nodess, Bool.and_eq_true] at hn
  simp only [Tm.sorts, Bool.and_eq_true] at hs
  exact ⟨vQ1 si st hst a hn.1 (by simpa using hs.1.1), rngs_of si st hst ts xs hn.2 (by simpa using hl) hs.2⟩
end
theorem cfg_rng (d : GDefinition) (t : Tm) (h : vK0 d t = true) : rng d.st t := by
 simp only [vK0, ra0, Bool.and_eq_true] at h
 have h2 : t.nodes = true := by have := h.1.1.2; simp only [Tm.valid, Bool.and_eq_true] at this; exact this.2
 exact vQ1 d.si d.st h.1.1.1.1.2 t h2 (by simpa using h.2)
def vF1 (rs : List (Option (Int × List Int))) : List Int → Option (Int × List Int)
 | [] => none
 | x :: xs => match rs.getD x.toNat none with
  | some q => some (q.1, x :: q.2)
  | none => vF1 rs xs
mutual
def Tm.nxt (st : List GStrict) (root : Tm → Int) : Tm → Option (Int × List Int)
 | .mk k n s ts => match vF1 (Tm.nxts st root ts) (if k = 2 then zF0 st s else []) with
  | some q => some q
  | none => if root (.mk k n s ts) < 0 then none else some (root (.mk k n s ts), [])
def Tm.nxts (st : List GStrict) (root : Tm → Int) : List Tm → List (Option (Int × List Int))
 | [] => []
 | a :: ts => a.nxt st root :: Tm.nxts st root ts
end
def rdx (path : List Int) : Option (Int × List Int) → List C
 | some q => [.v (.int .i64 q.1), .sl ((path ++ q.2).map encI)]
 | none => [.v (.int .i64 0), .sl []]
def rootF (d : GDefinition) (t : Tm) : Int := rootI (fun x => (fireI x t).isSome) d.ru 0
def tC1 (ro : Int) : Option (Int × List Int) → Option (Int × List Int)
 | some q => some q
 | none => if ro < 0 then none else some (ro, [])
abbrev bk1 (f : FuncId) (d : GDefinition) (t : Tm) : Prop := ∀ path : List Int, path.length + t.size < 1000000 → Sat Tryz.prog f [zn0 d.enc, tmV t, slV (path.map encI)] (.tup [zn0 (rdx path (t.nxt d.st (rootF d))), boolV (t.nxt d.st (rootF d)).isSome])
end Go.Ai
namespace Go.Ai
open Go.Proofs
set_option maxRecDepth 100000
abbrev fi1 (d : GDefinition) (t : Tm) : Prop := Sat Tryz.prog 145 [zn0 d.enc, tmV t] (.tup [zn0 (rdx [] (t.nxt d.st (rootF d))), boolV (t.nxt d.st (rootF d)).isSome])
def nextB (d : GDefinition) (t : Tm) : Option (Int × List Int) := if vK0 d t then t.nxt d.st (rootF d) else none
end Go.Ai
