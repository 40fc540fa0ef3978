/- Renaming of variables. -/
import Derived.Test.YtgdmjekkdcjipaaGreatAiI3
set_option linter.unusedVariables false
set_option linter.unusedSimpArgs false
namespace Go.Ai
open Go.Proofs
set_option maxRecDepth 100000
mutual
def Tm.ren (f : ByteArray) : Tm → Tm
 | .mk k n s ts => .mk k n (if k == 1 then s ++ f else s) (Tm.rens f ts)
def Tm.rens (f : ByteArray) : List Tm → List Tm
 | [] => []
 | a :: ts => a.ren f :: Tm.rens f ts
end
theorem jf0 (f : ByteArray) : ∀ (ts : List Tm), Tm.rens f ts = ts.map (Tm.ren f)
 | [] => rfl
 | a :: ts => by simp only [Tm.rens, List.map_cons, jf0 f ts]
theorem wD1 (f : ByteArray) (hf : f.size < 1000) (k n : Int) (s : ByteArray) (ts : List Tm) (hs : s.size < 10000000) (hl : ts.length < 10000000) (ih : ∀ t, t ∈ ts → Sat Tryz.prog 99 [tmV t, ql0 f] (tmV (t.ren f))) : Sat Tryz.prog 99 [tmV (.mk k n s ts), ql0 f] (tmV ((.mk k n s ts : Tm).ren f)) := by
 have hrl : (Tm.rens f ts).length = ts.length := by rw [jf0, List.length_map]
 have hra : ∀ i (h : i < ts.length), (Tm.rens f ts)[i]'(by omega) = ts[i].ren f := fun i h => by simp [jf0]
 rw [Tm.ren]
 obtain ⟨s', hs'⟩ : ∃ s', s' = if k == 1 then s ++ f else s := ⟨_, rfl⟩
 rw [← hs']
 have h1 : k = 1 → s ++ f = s' := fun h => by rw [hs', h]; rfl
 have h2 : (k == 1) = false → s = s' := fun h => by rw [hs', if_neg (by simpa using h)]
 clear hs'
 obtain ⟨rs, hrs_⟩ : ∃ rs, rs = Tm.rens f ts := ⟨_, rfl⟩
 rw [← hrs_] at hrl ⊢
 simp only [← hrs_] at hra
 refine soc zE0 zB0 Tryz.func99 ?_
 simp -implicitDefEqProofs (disch := omega) only [go_sem, Tm.enc]
 refine ⟨fun e => ⟨by omega, fun _ => ?_⟩, fun e => ?_⟩
 rotate_left 1
 have e2 := h2 e
 rotate_left 1
 have e2 := h1 e
 all_goals (
  refine zA0 (ι := Nat) (fun i => match i with
    | 0 => mk 42 [(1, ql0 f), (2, .one (.ptr 2 0)), (4, .one (.ptr 4 0)), (5, .one (.ptr 5 0)), (6, zD0 (0 : Nat))] [(2, .var [iC k, iC n, sC s, tC ts]), (4, .var zT), (5, .var [iC k, iC n, sC s', .nil])]
    | i + 1 => mk 42 [(1, ql0 f), (2, .one (.ptr 2 0)), (4, .one (.ptr 4 0)), (5, .one (.ptr 5 0)), (6, zD0 (i + 1 : Nat))] [(2, .var [iC k, iC n, sC s, tC ts]), (4, .var zT), (5, .var [iC k, iC n, sC s', .own 39 (i + 1)]), (39, .arr 39 4 (rowsOf Tm.enc (rs.take (i + 1))) false)])
   (fun i => i ≤ ts.length) (fun i => ts.length - i) 0 (Nat.zero_le _) ?_ zE0 zB0 (by decide +kernel) ?_
  ·exact zG0 (by simp [go_sem]) (by simp [go_sem, zT, e2])
  ·intro i hi
   rcases Nat.lt_or_ge i ts.length with hlt | hge
   ·have hg := zF0 ts i hlt
    have ht : rs.take (i + 1) = rs.take i ++ [ts[i].ren f] := by rw [List.take_add_one, List.getElem?_eq_getElem (by omega), hra i hlt]; rfl
    have hih := ih _ (List.getElem_mem hlt)
    cases i with
    | zero =>
     simp -implicitDefEqProofs (disch := omega) only [go_sem, hg, hlt, enc_len]
     refine CallK.mk hih ?_
     simp -implicitDefEqProofs (disch := omega) only [go_sem]
     simp only [List.take_zero, List.nil_append] at ht
     exact ⟨by simp [enc_len], fun _ => ⟨1, by omega, by omega, zG0 (by simp [go_sem]) (by simp [go_sem, zT, ht, rowsOf])⟩⟩
    | succ i =>
     have hdl : (rs.take (i + 1)).length = i + 1 := by rw [List.length_take]; omega
     simp -implicitDefEqProofs (disch := omega) only [go_sem, hg, hlt, enc_len]
     refine CallK.mk hih ?_
     simp -implicitDefEqProofs (disch := omega) only [go_sem, hdl]
     exact ⟨⟨by simp [enc_len], by omega, by omega⟩, fun _ => ⟨i + 2, by omega, by omega, zG0 (by simp [go_sem]) (by simp [go_sem, zT, ht]; exact zq0 _)⟩⟩
   ·have : i = ts.length := by omega
    subst this
    have hlr : ts.length = rs.length := hrl.symm
    clear hra
    rw [hlr]
    cases rs with
    | nil =>
     simp -implicitDefEqProofs (disch := omega) only [go_sem, hlr, Nat.lt_irrefl, List.length_nil, List.length_cons, Tm.enc, Tm.encs]
     rfl
    | cons a rs =>
     simp -implicitDefEqProofs (disch := omega) only [go_sem, hlr, Nat.lt_irrefl, List.length_nil, List.length_cons, List.take_length, Tm.enc, zc0, List.map_cons]
     rw [← zc0]; rfl)
theorem mt0 (f : ByteArray) (hf : f.size < 1000) : ∀ (t : Tm), t.size < 10000000 → Sat Tryz.prog 99 [tmV t, ql0 f] (tmV (t.ren f)) := by
 refine Tm.ind (fun k n s ts ih h => wD1 f hf k n s ts ?_ ?_ (fun t ht => ih t ht ?_))
 ·simp only [Tm.size] at h; omega
 ·have := zH0 ts; simp only [Tm.size] at h; omega
 ·have := zT0 ts t ht; simp only [Tm.size] at h; omega
theorem zq1 (f : ByteArray) (hf : f.size < 1000) (k n : Int) (s : ByteArray) (ts : List Tm) (hs : s.size < 10000000) (hl : ts.length < 10000000) (ih : ∀ t, t ∈ ts → Sat Tryz.prog 35 [tmV t, ql0 f] (tmV (t.ren f))) : Sat Tryz.prog 35 [tmV (.mk k n s ts), ql0 f] (tmV ((.mk k n s ts : Tm).ren f)) := by
 have hrl : (Tm.rens f ts).length = ts.length := by rw [jf0, List.length_map]
 have hra : ∀ i (h : i < ts.length), (Tm.rens f ts)[i]'(by omega) = ts[i].ren f := fun i h => by simp [jf0]
 rw [Tm.ren]
 obtain ⟨s', hs'⟩ : ∃ s', s' = if k == 1 then s ++ f else s := ⟨_, rfl⟩
 rw [← hs']
 have h1 : k = 1 → s ++ f = s' := fun h => by rw [hs', h]; rfl
 have h2 : (k == 1) = false → s = s' := fun h => by rw [hs', if_neg (by simpa using h)]
 clear hs'
 obtain ⟨rs, hrs_⟩ : ∃ rs, rs = Tm.rens f ts := ⟨_, rfl⟩
 rw [← hrs_] at hrl ⊢
 simp only [← hrs_] at hra
 refine soc zE0 zB0 Tryz.func35 ?_
 simp -implicitDefEqProofs (disch := omega) only [go_sem, Tm.enc]
 refine ⟨fun e => ⟨by omega, fun _ => ?_⟩, fun e => ?_⟩
 rotate_left 1
 have e2 := h2 e
 rotate_left 1
 have e2 := h1 e
 all_goals (
  refine zA0 (ι := Nat) (fun i => match i with
    | 0 => mk 40 [(1, ql0 f), (2, .one (.ptr 2 0)), (4, .one (.ptr 4 0)), (5, .one (.ptr 5 0)), (24, yM0 ts), (25, zD0 ts.length), (26, zD0 (0 : Nat))] [(2, .var [iC k, iC n, sC s, tC ts]), (4, .var zT), (5, .var [iC k, iC n, sC s', .nil])]
    | i + 1 => mk 40 [(1, ql0 f), (2, .one (.ptr 2 0)), (4, .one (.ptr 4 0)), (5, .one (.ptr 5 0)), (24, yM0 ts), (25, zD0 ts.length), (26, zD0 (i + 1 : Nat))] [(2, .var [iC k, iC n, sC s, tC ts]), (4, .var zT), (5, .var [iC k, iC n, sC s', .own 36 (i + 1)]), (36, .arr 39 4 (rowsOf Tm.enc (rs.take (i + 1))) false)])
   (fun i => i ≤ ts.length) (fun i => ts.length - i) 0 (Nat.zero_le _) ?_ zE0 zB0 (by decide +kernel) ?_
  ·exact zG0 (by simp [go_sem]) (by simp [go_sem, zT, e2])
  ·intro i hi
   rcases Nat.lt_or_ge i ts.length with hlt | hge
   ·have hg := zF0 ts i hlt
    have ht : rs.take (i + 1) = rs.take i ++ [ts[i].ren f] := by rw [List.take_add_one, List.getElem?_eq_getElem (by omega), hra i hlt]; rfl
    have hih := ih _ (List.getElem_mem hlt)
    cases i with
    | zero =>
     simp -implicitDefEqProofs (disch := omega) only [go_sem, hg, hlt, enc_len]
     refine CallK.mk hih ?_
     simp -implicitDefEqProofs (disch := omega) only [go_sem]
     simp only [List.take_zero, List.nil_append] at ht
     exact ⟨by simp [enc_len], fun _ => ⟨1, by omega, by omega, zG0 (by simp [go_sem]) (by simp [go_sem, zT, ht, rowsOf])⟩⟩
    | succ i =>
     have hdl : (rs.take (i + 1)).length = i + 1 := by rw [List.length_take]; omega
     simp -implicitDefEqProofs (disch := omega) only [go_sem, hg, hlt, enc_len]
     refine CallK.mk hih ?_
     simp -implicitDefEqProofs (disch := omega) only [go_sem, hdl]
     exact ⟨⟨by simp [enc_len], by omega, by omega⟩, fun _ => ⟨i + 2, by omega, by omega, zG0 (by simp [go_sem]) (by simp [go_sem, zT, ht]; exact zq0 _)⟩⟩
   ·have : i = ts.length := by omega
    subst this
    have hlr : ts.length = rs.length := hrl.symm
    clear hra
    rw [hlr]
    cases rs with
    | nil =>
     simp -implicitDefEqProofs (disch := omega) only [go_sem, hlr, Nat.lt_irrefl, List.length_nil, List.length_cons, Tm.enc, Tm.encs]
     rfl
    | cons a rs =>
     simp -implicitDefEqProofs (disch := omega) only [go_sem, hlr, Nat.lt_irrefl, List.length_nil, List.length_cons, List.take_length, Tm.enc, zc0, List.map_cons]
     rw [← zc0]; rfl)
theorem mK0 (f : ByteArray) (hf : f.size < 1000) : ∀ (t : Tm), t.size < 10000000 → Sat Tryz.prog 35 [tmV t, ql0 f] (tmV (t.ren f)) := by
 refine Tm.ind (fun k n s ts ih h => zq1 f hf k n s ts ?_ ?_ (fun t ht => ih t ht ?_))
 ·simp only [Tm.size] at h; omega
 ·have := zH0 ts; simp only [Tm.size] at h; omega
 ·have := zT0 ts t ht; simp only [Tm.size] at h; omega
end Go.Ai
