/- Functions that write what they are given: their contracts, from their code; owned values in rows are taken out and put back. -/
import Derived.Test.YtgdmjekkdcjipaaGreatAiOut
set_option linter.unusedVariables false
set_option linter.unusedSimpArgs false
namespace Go.Ai
open Go.RowKit
variable {P : Program} {tab : Tab}
def yD1 (T : Nat) : Nat → List AC → List AC
 | _, [] => []
 | j, .m _ :: as => .tk T j :: yD1 T (j + 1) as
 | j, a :: as => a :: yD1 T j as
def xX1 : List AC → List (Option C)
 | [] => []
 | .m x :: as => some x :: xX1 as
 | _ :: as => xX1 as
def dZ1 (T j : Nat) : AV → AV
 | .one (.m _) => .one (.tk T j)
 | .agg as => .agg (yD1 T j as)
 | v => v
def hoV : AV → List (Option C)
 | .one (.m x) => [some x]
 | .agg as => xX1 as
 | _ => []
def vd1 (T : Nat) : Nat → List AV → List AV
 | _, [] => []
 | j, v :: vs => dZ1 T j v :: vd1 T (j + (hoV v).length) vs
def da1 : List AV → List (Option C)
 | [] => []
 | v :: vs => hoV v ++ da1 vs
def qc1 : AC → Bool
 | .m _ => true
 | a => vu0 a
def fy1 : AV → Bool
 | .one a => qc1 a
 | .agg as => as.all qc1
 | _ => false
section
variable {w w' : World} {F F' : Fz} {T : Nat} {X : List (Option C)}
variable {lb : Lk} {g : Gh} {HS : List Value}
end
def ki1 (tab : Tab) (rs : List ResultVar) (r : AV) (K : St → Prop) (s : St) : Prop :=
 match kG0 tab s rs with
 | some (p, vs) => p ∧ zy0 vs = r ∧ K s
 | none => False
def lH1 (tab : Tab) (rs : List ResultVar) (r : AV) (K : St → Prop) : Exit → St → Prop
 | .normal, s => ki1 tab rs r K s
 | .ret, s => ki1 tab rs r K s
 | _, _ => False
def vT1 (T : Nat) (X : List (Option C)) (G : List AV) (s : St) : Prop := s.lb T = some (.tok X) ∧ s.gh = G
end Go.Ai
namespace Go.Ai
open Go.RowKit
variable {P : Program} {tab : Tab}
section
variable {w : World} {F : Fz} {lb : Lk} {g : Gh}
end
def vU1 (L n : Nat) (rows' : List (List C)) (s : St) : Prop :=
 match s.lb L with
 | some (.arr _ _ R _) => n = R.length ∧ (∀ r, r ∈ R → ∀ x, x ∈ r → isO x = true) ∧ (R.map fun r => r.map toC) = rows' ∧ s.gh = [.one (.own L n)]
 | _ => False
end Go.Ai
namespace Go.Ai
open Go.RowKit
variable {w0 : World} {M0 : Ms} {F0 F F' : Fz} {g : Gh} {s : St} {a : Act} {w : World}
theorem Sim.two (h : Sim w0 M0 F0 F g s a w) {l T : Nat} (hne : l ≠ T) {B B' T' : LB} {vT : Value} {Sl ST : List Nat} (hl : s.lb l = some B) (old : Nat → Prop) (hold : ∀ b, old b → b ∈ g.ds l ∨ ∃ B0, s.lb T = some B0 ∧ b ∈ g.ds T)
  (hSl : ∀ b, b ∈ Sl → old b) (hST : ∀ b, b ∈ ST → old b) (nl : Sl.Nodup) (nT : ST.Nodup) (ndis : ∀ b, b ∈ Sl → b ∉ ST)
  (st : Stays w w F F') (hF : ∀ b o, F' b o → F b o ∨ old b)
  (K : Keeps s.lb g ((s.put l B').put T T').lb ((g.upd l (g.bl l) (g.hd l) Sl).upd T (g.bl T) vT ST))
  (rl : RepLB w F' ((s.put l B').put T T').lb ((g.upd l (g.bl l) (g.hd l) Sl).upd T (g.bl T) vT ST) l B')
  (rT : RepLB w F' ((s.put l B').put T T').lb ((g.upd l (g.bl l) (g.hd l) Sl).upd T (g.bl T) vT ST) T T')
  (ol : SoftOk F' ((g.upd l (g.bl l) (g.hd l) Sl).upd T (g.bl T) vT ST) l B') (oT : SoftOk F' ((g.upd l (g.bl l) (g.hd l) Sl).upd T (g.bl T) vT ST) T T') :
  Sim w0 M0 F0 F' ((g.upd l (g.bl l) (g.hd l) Sl).upd T (g.bl T) vT ST) ((s.put l B').put T T') a w := by
 have gne : ∀ k, k ≠ l → k ≠ T → ((g.upd l (g.bl l) (g.hd l) Sl).upd T (g.bl T) vT ST).bl k = g.bl k ∧ ((g.upd l (g.bl l) (g.hd l) Sl).upd T (g.bl T) vT ST).hd k = g.hd k ∧ ((g.upd l (g.bl l) (g.hd l) Sl).upd T (g.bl T) vT ST).ds k = g.ds k :=
  fun k h1 h2 => by simp [Gh.upd, h1, h2]
 have dl : ((g.upd l (g.bl l) (g.hd l) Sl).upd T (g.bl T) vT ST).ds l = Sl := by simp [Gh.upd, hne]
 have dT : ((g.upd l (g.bl l) (g.hd l) Sl).upd T (g.bl T) vT ST).ds T = ST := by simp [Gh.upd]
 have at_ : ∀ k Bk, k ≠ l → k ≠ T → ((s.put l B').put T T').lb k = some Bk → s.lb k = some Bk := fun k Bk h1 h2 hB => by simpa [St.put_lb, h1, h2] using hB
 have at_l : ∀ Bk, ((s.put l B').put T T').lb l = some Bk → Bk = B' := fun Bk hB => by simpa [St.put_lb, hne, eq_comm] using hB
 have at_T : ∀ Bk, ((s.put l B').put T T').lb T = some Bk → Bk = T' := fun Bk hB => by simpa [St.put_lb, eq_comm] using hB
 have oth : ∀ k Bk, k ≠ l → k ≠ T → s.lb k = some Bk → ∀ b, b ∈ g.ds k → ¬ old b := fun k Bk h1 h2 hB b hb ho => by
  rcases hold b ho with hq | ⟨B0, hB0, hq⟩
  ·exact h.dj k l Bk B h1 hB hl b hb hq
  ·exact h.dj k T Bk B0 h2 hB hB0 b hb hq
 have onw : ∀ b, old b → (w0.heap.size ≤ b ∨ b ∈ M0) ∧ b < w.heap.size := fun b ho => by
  rcases hold b ho with hq | ⟨B0, hB0, hq⟩
  ·exact h.nw l B hl b hq
  ·exact h.nw T B0 hB0 b hq
 exact {
  sz := h.sz
  df := h.df
  sl := fun i => RepAV.mono st K _ _ (h.sl i)
  gh := RepAVs.mono st K _ _ h.gh
  lb := fun k Bk hB => by
   by_cases e : k = l
   ·subst e; rw [at_l Bk hB]; exact rl
   ·by_cases e' : k = T
    ·subst e'; rw [at_T Bk hB]; exact rT
    ·exact RepLB.mono st K (gne k e e').1 (gne k e e').2.1 (gne k e e').2.2 (fun _ _ => rfl) (h.lb k Bk (at_ k Bk e e' hB))
  so := fun k Bk hB => by
   by_cases e : k = l
   ·subst e; rw [at_l Bk hB]; exact ol
   ·by_cases e' : k = T
    ·subst e'; rw [at_T Bk hB]; exact oT
    ·have hB0 := at_ k Bk e e' hB
     have hso := h.so k Bk hB0
     have hlb := h.lb k Bk hB0
     have ho := oth k Bk e e' hB0
     obtain ⟨g1, g2, g3⟩ := gne k e e'
     cases Bk with
     | var cells =>
      obtain ⟨_, _, _, _, hd⟩ := hlb
      simp only [SoftOk] at hso ⊢
      rw [g1]
      intro o hf
      rcases hF _ o hf with hq | hq
      ·exact hso o hq
      ·exact ho _ (by rw [hd]; simp) hq
     | arr e1 sz1 rows1 fz1 =>
      obtain ⟨_, _, _, _, _, _, hd⟩ := hlb
      simp only [SoftOk] at hso ⊢
      rw [g2, g3]
      refine ⟨fun b hb o hc hf => ?_, fun hz hn b hb o hf => ?_⟩
      ·rcases hF _ o hf with hq | hq
       ·exact hso.1 b hb o hc hq
       ·exact ho b (by rw [hd]; simp [hb]) hq
      ·rcases hF _ o hf with hq | hq
       ·exact hso.2 hz hn b hb o hq
       ·exact ho b hb hq
     | tok x =>
      simp only [SoftOk] at hso ⊢
      rw [g3]
      intro b hb o hf
      rcases hF _ o hf with hq | hq
      ·exact hso b hb o hq
      ·exact ho b hb hq
     | dead => trivial
  nd := fun k Bk hB => by
   by_cases e : k = l
   ·subst e; rw [dl]; exact nl
   ·by_cases e' : k = T
    ·subst e'; rw [dT]; exact nT
    ·rw [(gne k e e').2.2]; exact h.nd k Bk (at_ k Bk e e' hB)
  dj := fun k k' Bk Bk' hkk hB hB' b hb hb' => by
   by_cases e : k = l
   ·subst e
    rw [dl] at hb
    by_cases e' : k' = T
    ·subst e'; rw [dT] at hb'; exact ndis b hb hb'
    ·rw [(gne k' (Ne.symm hkk) e').2.2] at hb'
     exact oth k' Bk' (Ne.symm hkk) e' (at_ k' Bk' (Ne.symm hkk) e' hB') b hb' (hSl b hb)
   ·by_cases e1 : k = T
    ·subst e1
     rw [dT] at hb
     by_cases e' : k' = l
     ·subst e'; rw [dl] at hb'; exact ndis b hb' hb
     ·rw [(gne k' e' (Ne.symm hkk)).2.2] at hb'
      exact oth k' Bk' e' (Ne.symm hkk) (at_ k' Bk' e' (Ne.symm hkk) hB') b hb' (hST b hb)
    ·rw [(gne k e e1).2.2] at hb
     have hB0 := at_ k Bk e e1 hB
     by_cases e2 : k' = l
     ·subst e2; rw [dl] at hb'; exact oth k Bk e e1 hB0 b hb (hSl b hb')
     ·by_cases e3 : k' = T
      ·subst e3; rw [dT] at hb'; exact oth k Bk e e1 hB0 b hb (hST b hb')
      ·rw [(gne k' e2 e3).2.2] at hb'
       exact h.dj k k' Bk Bk' hkk hB0 (at_ k' Bk' e2 e3 hB') b hb hb'
  nw := fun k Bk hB b hb => by
   by_cases e : k = l
   ·subst e; rw [dl] at hb; exact onw b (hSl b hb)
   ·by_cases e' : k = T
    ·subst e'; rw [dT] at hb; exact onw b (hST b hb)
    ·rw [(gne k e e').2.2] at hb; exact h.nw k Bk (at_ k Bk e e' hB) b hb
  f0 := fun b o hb => st.up b o (h.f0 b o hb)
  f1 := fun b o hb => (hF b o hb).elim (h.f1 b o) (fun hq => .inr (onw b hq).1)
  f2 := fun b o hb => (hF b o hb).elim (h.f2 b o) (fun hq => (onw b hq).2)
  tb := h.tb
  os := h.os
  tape := h.tape
  output := h.output
  size := h.size
  block := h.block }
theorem RepCells.at {lb : Lk} {g : Gh} {rows : List (List AC)} {i c : Nat} {x : AC} {xs : List Value} {S : List Nat} (hi : i < rows.length) (hc : (rows.getD i [])[c]? = some x) (h : RepCells w F lb g rows.flatten xs S) :
  ∃ u SA Si SB, S = SA ++ (Si ++ SB) ∧ RepCell w F lb g x u Si ∧ ∀ {F' : Fz} {lb' : Lk} {g' : Gh} (x' : AC) (Si' : List Nat), Stays w w F F' → Keeps lb g lb' g' → RepCell w F' lb' g' x' u Si' → RepCells w F' lb' g' (rows.set i ((rows.getD i []).set c x')).flatten xs (SA ++ (Si' ++ SB)) := by
 obtain ⟨f1, _⟩ := yg0 rows i [] hi
 have hcl := (List.getElem?_eq_some_iff.1 hc).1
 have hcx := (List.getElem?_eq_some_iff.1 hc).2
 have hrow : rows.getD i [] = (rows.getD i []).take c ++ ([x] ++ (rows.getD i []).drop (c + 1)) := by
  have h1 := List.drop_eq_getElem_cons hcl
  rw [hcx] at h1
  rw [List.singleton_append, ← h1, List.take_append_drop]
 rw [f1, hrow] at h
 obtain ⟨uA, uR, SA, SR, rfl, rfl, cA, cR⟩ := RepCells.append_inv _ _ _ _ h
 obtain ⟨uM, uB, SM, SB, rfl, rfl, cM, cB⟩ := RepCells.append_inv _ _ _ _ cR
 obtain ⟨u1, u2, T1, T2, rfl, rfl, c1, c2⟩ := RepCells.append_inv _ _ _ _ cM
 obtain ⟨u3, u4, T3, T4, rfl, rfl, c3, c4⟩ := RepCells.append_inv _ _ _ _ c2
 simp only [RepCells] at c3
 obtain ⟨u, us', T5, T6, rfl, rfl, hx, rfl, rfl⟩ := c3
 refine ⟨u, SA ++ T1, T5, T4 ++ SB, by simp, hx, fun {F'} {lb'} {g'} x' Si' st K hx' => ?_⟩
 have key : (rows.set i ((rows.getD i []).set c x')).flatten = (rows.take i).flatten ++ (((rows.getD i []).take c ++ ([x'] ++ (rows.getD i []).drop (c + 1))) ++ (rows.drop (i + 1)).flatten) := by
  rw [(yg0 rows i ((rows.getD i []).set c x') hi).2, List.set_eq_take_append_cons_drop, if_pos hcl]
  rfl
 rw [key]
 have m := fun {as us S} (h : RepCells w F lb g as us S) => RepCells.mono (w' := w) st K as us S (fun _ _ => rfl) h
 have h3 : RepCells w F' lb' g' [x'] [u] Si' := ⟨u, [], Si', [], rfl, by simp, hx', rfl, rfl⟩
 have := RepCells.append _ _ _ _ _ _ (m cA) (RepCells.append _ _ _ _ _ _ (RepCells.append _ _ _ _ _ _ (m c1) (RepCells.append _ _ _ _ _ _ h3 (m c4))) (m cB))
 simpa [List.append_assoc] using this
theorem cT0 {rows : List (List AC)} {sz i c : Nat} {x : AC} (h : ∀ r, r ∈ rows → r.length = sz) (hi : i < rows.length) : ∀ r, r ∈ rows.set i ((rows.getD i []).set c x) → r.length = sz := by
 intro r hr
 rcases List.mem_or_eq_of_mem_set hr with hr | rfl
 ·exact h r hr
 ·rw [List.length_set]
  refine h _ ?_
  rw [List.getD_eq_getElem?_getD, List.getElem?_eq_getElem hi]
  exact List.getElem_mem hi
end Go.Ai
