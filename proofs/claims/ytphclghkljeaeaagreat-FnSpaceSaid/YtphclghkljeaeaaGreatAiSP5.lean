/- The path to a term of a space that is done replays to it. -/
import Derived.Test.YtphclghkljeaeaaGreatAiSP2
import Derived.Test.YtphclghkljeaeaaGreatAiPI2b
set_option linter.unusedVariables false
set_option linter.unusedSimpArgs false
namespace Go.Ai
open Go.Proofs
set_option maxRecDepth 100000
theorem fa0 (to : Int) : ∀ (ms : List GMove), yy0 to ms = ms.find? (fun m => m.tg == to)
 | [] => rfl
 | m :: ms => by
  simp only [yy0, List.find?_cons]
  split
  ·rename_i h; rw [h]
  ·rename_i h
   have h : (m.tg == to) = false := by simpa using h
   rw [h, fa0 to ms]
theorem fr0 (d : GDefinition) (q : Int × List Int) : ∀ (xs : List (Int × List Int)) (t v : Tm), jE0 d t xs = some v → q ∈ v.all d.st (zp0 d) → (doB d v q).valid = true → jE0 d t (xs ++ [q]) = some (doB d v q)
 | [], t, v, h, hq, hv => by
  simp only [jE0, Option.some.injEq] at h
  subst h
  simp only [List.nil_append, jE0]
  rw [(rP0 _ _).2 hq, hv]
  rfl
 | x :: xs, t, v, h, hq, hv => by
  simp only [jE0] at h
  simp only [List.cons_append, jE0]
  split at h
  ·rename_i hc
   rw [if_pos hc]
   exact fr0 d q xs _ v h hq hv
  ·cases h
theorem ji1 (d : GDefinition) (hc : vk1 d) (t0 : Tm) (x : GSpace) (h : Done d t0 x) : ∀ (j : Nat), j < x.te.length → ∀ (n : Nat), j ≤ n → ∃ qs : List (Int × List Int), back x.mo n (j : Int) = some ((qs.map rdG).reverse) ∧ jE0 d t0 qs = x.te[j]? ∧ qs.length ≤ j ∧ ∀ q, q ∈ qs → q.2.length < 1000 := by
 intro j
 induction j using Nat.strongRecOn with
 | _ j ih =>
  intro hj n hn
  rcases Nat.eq_zero_or_pos j with rfl | hpos
  ·exact ⟨[], by rw [dI0 _ _ _ (by omega)]; rfl, by rw [h.first]; rfl, Nat.le_refl _, fun _ hq => (List.not_mem_nil hq).elim⟩
  ·obtain ⟨m, i, h1, h2, h3⟩ := h.way j hpos hj
   have hm := List.mem_of_find?_eq_some h1
   have htg := List.find?_some h1
   simp only [beq_iff_eq] at htg
   obtain ⟨i', j', q, v, e, k1, k2, k3, k4⟩ := h.mv m hm
   subst e
   simp only at htg h2
   have e1 : i' = i := by omega
   have e2 : j' = j := by omega
   subst e1 e2
   obtain ⟨qs, g1, g2, g3, g4⟩ := ih i' h3 (by omega) (n - 1) (by omega)
   refine ⟨qs ++ [q], ?_, ?_, by rw [List.length_append, List.length_singleton]; omega, fun r hr => ?_⟩
   ·rw [gz0 x.mo n (j' : Int) (by omega) _ (by rw [fa0]; exact h1) (by simp only; omega) (by omega)]
    simp only
    rw [g1]
    simp
   ·rw [k4]
    exact fr0 d q qs t0 v (by rw [g2, k1]) k2 k3
   ·rcases List.mem_append.1 hr with hr | hr
    ·exact g4 r hr
    ·rw [List.mem_singleton.1 hr]
     exact (wX0 d hc.2.2.1 v (h.good v (List.mem_of_getElem? k1)) q k2).1
theorem fc1 (d : GDefinition) (hc : vk1 d) (t0 : Tm) (x : GSpace) (h : Done d t0 x) (k : Nat) (hk : k < x.te.length) : ∃ qs : List (Int × List Int), xL1 [] (qb1 x (k : Int)) = some (qs.map rdG) ∧ jE0 d t0 qs = x.te[k]? ∧ qs.length ≤ k ∧ ∀ q, q ∈ qs → q.2.length < 1000 := by
 obtain ⟨qs, h1, h2⟩ := ji1 d hc t0 x h k hk k (Nat.le_refl _)
 refine ⟨qs, ?_, h2⟩
 unfold qb1
 rw [if_pos (by omega), Int.toNat_natCast, h1]
 simp [xL1]
end Go.Ai
