/- The next redex, owned: the position is given away. -/
import Derived.Test.YtkaplmbflkoliaaGreatAiP8
import Derived.Test.YtkaplmbflkoliaaGreatAiDyn3
import Derived.Test.YtkaplmbflkoliaaGreatAiY2
import Derived.Test.YtkaplmbflkoliaaGreatAiN1
import Derived.Test.YtkaplmbflkoliaaGreatAiI5
namespace Go.Ai
set_option linter.unusedVariables false
set_option linter.unusedSimpArgs false
open Go.Proofs
set_option maxRecDepth 100000

theorem plainRows_int (xs : List Int) : plainRows (rowsOf encI xs) = true := by
  simp [plainRows, rowsOf, encI, plainA, plainC]
theorem rowsI_isO2 (xs : List Int) : ∀ r, r ∈ rowsOf encI xs → ∀ x, x ∈ r → isO x = true := by
  intro r hr x hx
  obtain ⟨y, _, rfl⟩ := List.mem_map.1 hr
  simp [encI] at hx
  subst hx; rfl
abbrev nextGSat (d : GDefinition) (t : Tm) : Prop := ∀ path : List Int, path.length + t.size < 1000000 → SatG Tryz.prog 59 [aggV d.enc, tmV t] [] (.sl (path.map encI)) (.tup [aggV (rdx path (t.nxt d.st (rootF d))), boolV (t.nxt d.st (rootF d)).isSome])
theorem implNextG_1 (d : GDefinition) (hl : d.ru.length < 100000000) (hls : d.st.length < 1048577) (hd : ∀ x, x ∈ d.ru → ruleOk x) (k n : Int) (s : ByteArray) (ts : List Tm) (ht : tmOk (.mk k n s ts)) (hrg : rng d.st (.mk k n s ts)) (ih : ∀ t, t ∈ ts → nextGSat d t) : nextGSat d (.mk k n s ts) := by
  intro path hpl
  have hst := implStrictOf_sat d hls k n s ts
  have hro := implRootRule_sat d hl hd (.mk k n s ts) ht
  have hge := rootI_ge (fun x => (fireI x (.mk k n s ts)).isSome) d.ru 0 (by omega)
  change Sat Tryz.prog 104 [aggV d.enc, tmV (.mk k n s ts)] (intV (rootF d (.mk k n s ts))) at hro
  change -1 ≤ rootF d (.mk k n s ts) at hge
  have hcl := cloneInt_sat path (by omega)
  obtain ⟨r, hr⟩ : ∃ r, r = (Tm.mk k n s ts).nxt d.st (rootF d) := ⟨_, rfl⟩
  rw [← hr]
  have hr : r = endR (rootF d (.mk k n s ts)) (firstR (Tm.nxts d.st (rootF d) ts) (if k = 2 then strictOf d.st s else [])) := by
    rw [hr, Tm.nxt]
    cases firstR (Tm.nxts d.st (rootF d) ts) (if k = 2 then strictOf d.st s else []) <;> rfl
  have hxs : ∀ x, x ∈ (if k = 2 then strictOf d.st s else []) → 0 ≤ x ∧ x.toNat < ts.length := by
    intro x hx
    split at hx
    · rename_i hk; exact hrg.1 hk x hx
    · cases hx
  have hxl : (if k = 2 then strictOf d.st s else []).length < 1048577 := by
    split
    · have := strictOf_len d.st s d.st.length
      rw [List.take_length] at this
      omega
    · simp
  generalize (if k = 2 then strictOf d.st s else []) = xs at hst hr hxs hxl
  generalize rootF d (.mk k n s ts) = ro at hro hr hge
  have hts := len_sizes ts
  have hsz : ∀ t, t ∈ ts → t.size < s.size + Tm.sizes ts := fun t ht => by have := size_mem ts t ht; omega
  simp only [Tm.size] at hpl
  have hnx := fun i hi => nxts_get d.st (rootF d) ts i hi
  have hde : d.enc = [.sl (d.si.so.map encS), .sl (d.si.op.map GOp.enc), .sl (d.ru.map GRule.enc), .sl (d.st.map GStrict.enc)] := rfl
  have hpb : plainRows (rowsOf encI path) = true := plainRows_int path
  refine satG_of_codeG [(4, ([⟨0, 10, [3], [29, 31]⟩, ⟨1, 10, [4], [29, 31]⟩, ⟨2, 10, [23], [29, 31]⟩, ⟨4, 10, [24, 25], [29, 31]⟩, ⟨5, 10, [26], [29, 31]⟩, ⟨10, 15, [29, 31], []⟩], 11))] [aggV (rdx path r), boolV r.isSome] rfl (fun _ h => by cases h; rfl) tbOk mixed Tryz.func59 rfl rfl rfl (by decide +kernel) (by decide +kernel) (Nat.le_of_ble_eq_true rfl) ?_
  simp -implicitDefEqProofs (disch := omega) only [go_sem, Tm.enc, hde]
  refine CallK.mk hst ?_
  simp -implicitDefEqProofs (disch := omega) only [go_sem, List.length_map]
  refine loopG_rule [(4, ([⟨0, 10, [3], [29, 31]⟩, ⟨1, 10, [4], [29, 31]⟩, ⟨2, 10, [23], [29, 31]⟩, ⟨4, 10, [24, 25], [29, 31]⟩, ⟨5, 10, [26], [29, 31]⟩, ⟨10, 15, [29, 31], []⟩], 11))] (ι := Nat) (fun i => mk 48 [(2, .one (.tk 9001 0)), (3, .one (.ptr 3 0)), (4, .one (.ptr 4 0)), (6, .one (.ptr 6 0)), (15, slV (xs.map encI)), (16, intV xs.length), (17, intV i)] [(3, .var [.c (.sl (d.si.so.map encS)), .c (.sl (d.si.op.map GOp.enc)), .c (.sl (d.ru.map GRule.enc)), .c (.sl (d.st.map GStrict.enc))]), (4, .var [iC k, iC n, sC s, tC ts]), (6, .var [iC 0, .nil]), (9001, .tok [some (.sl (path.map encI))])])
    (fun i => i ≤ xs.length ∧ r = endR ro (firstR (Tm.nxts d.st (rootF d) ts) (xs.drop i))) (fun i => xs.length - i) 0 ⟨Nat.zero_le _, by simpa using hr⟩ ?_ tbOk mixed (by decide +kernel) ?_
  · exact le_mk (by simp [go_sem]) (by simp [go_sem])
  · rintro i ⟨hi, he⟩
    rcases Nat.lt_or_ge i xs.length with hlt | hge'
    · have hg := map_getD (ec := encI) hlt
      simp only [encI] at hg
      rw [firstR_drop _ xs i hlt] at he
      have hx := hxs _ (List.getElem_mem hlt)
      obtain ⟨j, hj⟩ : ∃ j : Nat, xs[i] = (j : Int) := ⟨xs[i].toNat, by omega⟩
      rw [hj] at hg he hx
      simp only [Int.toNat_natCast] at he hx
      have hjl : j < ts.length := hx.2
      have hgt := encs_getD ts j hjl
      have hih := ih _ (List.getElem_mem hjl) (path ++ [(j : Int)]) (by have := hsz _ (List.getElem_mem hjl); simp; omega)
      rw [hnx j hjl] at he
      generalize ts[j] = a at hgt hih he
      generalize a.nxt d.st (rootF d) = q at he hih
      obtain ⟨ak, an, as', at_⟩ := a
      simp only [Tm.enc] at hgt
      simp -implicitDefEqProofs (disch := omega) only [go_sem, hg, hlt, List.length_map, hgt, hjl]
      refine CallK.outB hcl hpb rfl ?_
      have e1 : rowsOf encI path ++ [[iC (j : Int)]] = rowsOf encI (path ++ [(j : Int)]) := rowsOf_snoc (ec := encI) (j : Int)
      simp -implicitDefEqProofs (disch := omega) only [go_sem, rowsOf_len, e1, rowsOf_toC]
      refine ⟨⟨by simp, by omega, by omega⟩, fun _ => GvC.mk 2 hih ⟨by simp [go_sem], rfl, ⟨_, _, _, rfl, by simp [rowsOf_len], rowsOf_noD, rowsI_isO2 _, by rw [rowsOf_toC]⟩⟩ rfl ?_⟩
      cases q with
      | none =>
        simp -implicitDefEqProofs (disch := omega) only [go_sem, rdx, Option.isSome_none, List.map_cons, List.map_nil]
        exact ⟨i + 1, ⟨hlt, he⟩, by omega, le_mk (by simp [go_sem]) (by simp [go_sem])⟩
      | some q =>
        simp -implicitDefEqProofs (disch := omega) only [go_sem, rdx, Option.isSome_some, List.map_cons, List.map_nil]
        have he : r = some (q.1, (j : Int) :: q.2) := he
        subst he
        simp [go_sem, rdx]
    · have e1 : xs.drop i = [] := List.drop_of_length_le hge'
      rw [e1] at he
      have he : r = if ro < 0 then none else some (ro, []) := he
      simp -implicitDefEqProofs (disch := omega) only [go_sem, Nat.not_lt.2 hge', List.length_map]
      refine CallK.mk hro ?_
      simp -implicitDefEqProofs (disch := omega) only [go_sem]
      refine ⟨fun h => ?_, fun h => ?_⟩
      · rw [if_pos h] at he
        subst he
        simp [go_sem, rdx]
      · rw [if_neg h] at he
        subst he
        simp [go_sem, rdx]
theorem implNextG_sat (d : GDefinition) (hl : d.ru.length < 100000000) (hls : d.st.length < 1048577) (hd : ∀ x, x ∈ d.ru → ruleOk x) : ∀ (t : Tm), tmOk t → rng d.st t → nextGSat d t :=
  Tm.ind (fun k n s ts ih h hr => implNextG_1 d hl hls hd k n s ts h hr (fun t ht => ih t ht (tmOk_sub k n s ts h t ht) (rngs_mem d.st ts hr.2 t ht)))
theorem implNextRedexF_sat (d : GDefinition) (hw : d.wf) (hs : d.size < 1048577) (t : Tm) (htw : t.wf) (ht : t.size < 30000000) : SatF Tryz.prog 24 [aggV d.enc, tmV t] (.tup [aggV (rdx [] (nextB d t)), boolV (nextB d t).isSome]) := by
  have hc := implCfg_sat d hs t ht
  have hok := cfg_ok d hw t htw
  have hrg := cfg_rng d t
  have hl := len_szL GRule.size d.ru
  have hl2 := len_szL GStrict.size d.st
  have hs' := hs
  simp only [GDefinition.size] at hs'
  have hf := fun h => implNextG_sat d (by omega) (by omega) (hok h).1 t (hok h).2.1 (hrg h) [] (by have := (hok h).2.1.1; simp; omega)
  obtain ⟨r, hr⟩ : ∃ r, r = nextB d t := ⟨_, rfl⟩
  rw [← hr]
  unfold nextB at hr
  generalize t.nxt d.st (rootF d) = q at hf hr
  clear hok hrg
  generalize cfgB d t = b at hc hf hr
  obtain ⟨k2, n2, s2, ts2⟩ := t
  have hde : d.enc = [.sl (d.si.so.map encS), .sl (d.si.op.map GOp.enc), .sl (d.ru.map GRule.enc), .sl (d.st.map GStrict.enc)] := rfl
  refine satF_of_code [aggV (rdx [] r), boolV r.isSome] rfl (fun _ h => by cases h; rfl) tbOk mixed Tryz.func24 rfl rfl rfl (by decide +kernel) (by decide +kernel) (Nat.le_of_ble_eq_true rfl) ?_
  simp -implicitDefEqProofs (disch := omega) only [go_sem, Tm.enc, hde]
  refine CallK.mk hc ?_
  simp -implicitDefEqProofs (disch := omega) only [go_sem]
  refine ⟨fun h => ?_, fun h => CallK.give 2 rfl (hf h) ⟨by simp [go_sem], rfl, rfl⟩ rfl ?_⟩
  · have hr : r = none := by rw [hr, h]; rfl
    subst hr
    simp [go_sem, rdx]
  · have hr : r = q := by rw [hr, h]; rfl
    subst hr
    cases r with
    | none =>
      simp -implicitDefEqProofs (disch := omega) only [go_sem, rdx, Option.isSome_none, List.map_cons, List.map_nil]
    | some q =>
      simp -implicitDefEqProofs (disch := omega) only [go_sem, rdx, Option.isSome_some, List.map_cons, List.map_nil, List.nil_append]
end Go.Ai
/- The law on NextRedex. Written by mk29.py. -/
namespace Go.Ai
set_option linter.unusedVariables false
set_option linter.unusedSimpArgs false
open Go.Proofs Go.RowKit
set_option maxRecDepth 100000

structure GRedex where
  ru : Int
  ps : List Int
def GRedex.enc (x : GRedex) : List C := encI x.ru ++ (encL encI x.ps)
def GRedex.size (x : GRedex) : Nat := szI x.ru + (szL szI) x.ps
def GRedex.wf (x : GRedex) : Prop := wfI x.ru ∧ (wfL wfI) x.ps
def GRedex.eqb (x y : GRedex) : Bool := eqI x.ru y.ru && ((eqL eqI) x.ps y.ps)
theorem GRedex.enc_len (x : GRedex) : x.enc.length = 2 := by simp [GRedex.enc, encI, encS, encB, encL, Go.Ai.enc_len]
theorem GRedex.enc_take (x : GRedex) : x.enc.take 2 = x.enc := List.take_of_length_le (by rw [GRedex.enc_len]; exact Nat.le_refl _)
theorem GRedex.encm_take (x : GRedex) : (x.enc.map AC.c).take 2 = x.enc.map AC.c := List.take_of_length_le (by rw [List.length_map, GRedex.enc_len]; exact Nat.le_refl _)
attribute [go_sem] GRedex.enc_len GRedex.enc_take GRedex.encm_take
theorem GRedex.eqb_refl (x : GRedex) : x.eqb x = true := by simp only [GRedex.eqb, eqI_refl x.ru, (eqL_refl eqI_refl) x.ps, Bool.and_self]

theorem eqRedex_sat (x : GRedex) (hw : x.wf) (y : GRedex) : Sat Tryz.prog 25 [aggV x.enc, aggV y.enc] (boolV (x.eqb y)) := by
  obtain ⟨r, hr⟩ : ∃ r, r = x.eqb y := ⟨_, rfl⟩
  rw [← hr]
  obtain ⟨xru, xps⟩ := x
  obtain ⟨yru, yps⟩ := y
  simp only [GRedex.wf] at hw
  simp only [GRedex.eqb, eqI, eqS, eqB] at hr
  refine sat_of_code tbOk mixed Tryz.func25 rfl rfl rfl (by decide +kernel) (by decide +kernel) (Nat.le_of_ble_eq_true rfl) ?_
  simp -implicitDefEqProofs (disch := omega) only [go_sem, GRedex.enc, Tm.enc, encB, encI, encL, encS, List.cons_append, List.nil_append, List.append_nil]
  refine ⟨fun h0 => by grind, fun h0 => ?_⟩
  refine CallK.mk (eqIntS_sat xps hw.2 yps) ?_
  simp -implicitDefEqProofs (disch := omega) only [go_sem, GRedex.enc, Tm.enc, encB, encI, encL, encS, List.cons_append, List.nil_append, List.append_nil]
  grind

theorem GRedex.csz (x : GRedex) : cszCells x.enc = x.size := by simp only [GRedex.enc, GRedex.size, cszCells_append, Nat.add_assoc, cszE_I, cszL_of cszE_I]
theorem GRedex.nar (x : GRedex) : narCells x.enc := (narCells_append _ _ (narE_I x.ru) (narL_of (fun y => ⟨by simp [encI], narE_I y⟩) x.ps))

theorem markRedex_sat (xru : Int) (xps : List Int) (hw : (⟨xru, xps⟩ : GRedex).wf) (k : Int) (h0 : 0 ≤ k) (h1 : (mkRows (xps.map encI) k).2 ≤ 100000000) : SatM Tryz.prog 26 [.agg [iC xru, .m (.sl (xps.map encI))], intV k] [.agg [iC xru, .m (.sl (mkRows (xps.map encI) k).1)], intV k] (intV (mkRows (xps.map encI) k).2) := by
  simp only [GRedex.wf] at hw
  have hc1 := mkRows_cnt (xps.map encI) k
  refine satM_of_code 9000 tbOk mixed Tryz.func26 rfl rfl rfl (by decide +kernel) (by decide +kernel) (Nat.le_of_ble_eq_true rfl) rfl rfl rfl ?_
  simp -implicitDefEqProofs (disch := omega) only [go_sem]
  refine CallK.mut (markIntS_sat xps hw.2 k (by omega) (by omega)) ?_
  simp -implicitDefEqProofs (disch := omega) only [go_sem, Tm.args]

theorem heldRedex_sat (xru : Int) (xps : List Int) (hw : (⟨xru, xps⟩ : GRedex).wf) (k : Int) (h0 : 0 ≤ k) (h1 : (mkRows (xps.map encI) k).2 ≤ 100000000) : Sat Tryz.prog 27 [.agg [iC xru, .c (.sl (mkRows (xps.map encI) k).1)], intV k] (intV (mkRows (xps.map encI) k).2) := by
  simp only [GRedex.wf] at hw
  have hc1 := mkRows_cnt (xps.map encI) k
  refine sat_of_code tbOk mixed Tryz.func27 rfl rfl rfl (by decide +kernel) (by decide +kernel) (Nat.le_of_ble_eq_true rfl) ?_
  simp -implicitDefEqProofs (disch := omega) only [go_sem]
  refine CallK.bor (heldIntS_sat xps hw.2 k (by omega) (by omega)) rfl ?_
  simp -implicitDefEqProofs (disch := omega) only [go_sem, Tm.args]
  omega

def redG (q : Option (Int × List Int)) : GRedex := match q with
  | some q => ⟨q.1, q.2⟩
  | none => ⟨0, []⟩
theorem rdx_redG (q : Option (Int × List Int)) : rdx [] q = (redG q).enc := by
  cases q with
  | none => rfl
  | some q => simp [rdx, redG, GRedex.enc, encI, encL]
theorem atp_range : ∀ (p : List Int) (t u : Tm), atp p t = some u → ∀ x, x ∈ p → 0 ≤ x ∧ x ≤ t.size
  | [], _, _, _, x, hx => by cases hx
  | i :: p, .mk k n s ts, u, h, x, hx => by
    obtain ⟨j, hj, e, h2⟩ := atp_cons i p k n s ts u h
    have hs := tsize_lt k n s ts j hj
    have hl := len_sizes ts
    rcases List.mem_cons.1 hx with rfl | hx
    · simp only [Tm.size]; omega
    · have := atp_range p ts[j] u h2 x hx
      omega
theorem redG_ok (d : GDefinition) (hw : d.wf) (hs : d.size < 1048577) (t : Tm) (htw : t.wf) (ht : t.size < 1048577) : (redG (nextB d t)).size ≤ 1000 ∧ (redG (nextB d t)).wf := by
  cases h : nextB d t with
  | none => exact ⟨by simp [redG, GRedex.size, szI, szL], wfI_of 0 (by omega) (by omega), ⟨Nat.zero_le _, fun _ h => by cases h⟩⟩
  | some q =>
    obtain ⟨hc, hlen, j, hj, u, hk, hat, hu, hfi⟩ := next_ok d hw t htw q h
    have hl := len_szL GRule.size d.ru
    simp only [GDefinition.size] at hs
    have hr := atp_range q.2 t u hat
    refine ⟨?_, ?_⟩
    · simp only [redG, GRedex.size, szI, szL_int]; omega
    · refine ⟨wfI_of _ (by simp only [redG]; omega) (by simp only [redG]; omega), ⟨by simp only [redG, maxLen]; omega, fun x hx => ?_⟩⟩
      have := hr x hx
      exact wfI_of x (by omega) (by omega)
theorem lawNextRedex_sat (d : GDefinition) (t : Tm) (hw_d : GDefinition.wf d) (hw_t : Tm.wf t) : Sat Tryz.prog 5 [aggV d.enc, tmV t] (boolV true) := by
  refine sat_of_code tbOk mixed Tryz.func5 rfl rfl rfl (by decide +kernel) (by decide +kernel) (Nat.le_of_ble_eq_true rfl) ?_
  simp -implicitDefEqProofs (disch := omega) only [go_sem]
  refine CallK.mk (szDefinition_sat d hw_d 1048576 (by grind [szR]) (by grind [szR])) ?_
  simp -implicitDefEqProofs (disch := omega) only [go_sem]
  intro hz_d
  have hs_d : d.size < 1048577 := by grind [szR]
  refine CallK.mk (szTerm_sat t hw_t _ (by grind [szR]) (by grind [szR])) ?_
  simp -implicitDefEqProofs (disch := omega) only [go_sem]
  intro hz_t
  have hs_t : t.size < 1048577 := by grind [szR]
  have hsum : d.size + t.size < 1048577 := by grind [szR]
  have hok := redG_ok d hw_d hs_d t hw_t hs_t
  have hsp := specNextRedex_sat d hw_d hs_d t hw_t (by omega)
  have him := implNextRedexF_sat d hw_d hs_d t hw_t (by omega)
  rw [rdx_redG] at hsp him
  obtain ⟨R0, hRe⟩ : ∃ R, R = redG (nextB d t) := ⟨_, rfl⟩
  obtain ⟨b0, hbe⟩ : ∃ b, b = (nextB d t).isSome := ⟨_, rfl⟩
  rw [← hRe] at hok
  have hRw0 := hok.2
  have hRs0 : R0.size ≤ 1500000 := by omega
  rw [← hRe, ← hbe] at hsp him
  clear hok hRe hbe
  refine CallK.mk (toDefinition_sat d hs_d) ?_
  simp -implicitDefEqProofs (disch := omega) only [go_sem, and_self]
  refine CallK.mk (toTerm_sat t hs_t) ?_
  simp -implicitDefEqProofs (disch := omega) only [go_sem, and_self]
  refine CallK.mk (hsp) ?_
  simp -implicitDefEqProofs (disch := omega) only [go_sem, and_self]
  have toX_d := toDefinition_sat d hs_d
  have toF_d := toDefinitionF_sat d hs_d
  have eqX_d := eqDefinition_sat d hw_d d
  have reX_d := GDefinition.eqb_refl d
  have hq_d : cntTop d.enc ≤ 64 * d.size + 64 := by
    have h1 := cntTop_le d.enc
    have h2 := cntCells_le d.enc (GDefinition.nar d)
    rw [GDefinition.csz] at h2
    have h3 := GDefinition.enc_len d
    omega
  have toX_t := toTerm_sat t hs_t
  have toF_t := toTermF_sat t hs_t
  have eqX_t := eqTerm_sat t hw_t t
  have reX_t := Tm.eqb_refl t
  have hq_t : cntTop t.enc ≤ 64 * t.size + 64 := by
    have h1 := cntTop_le t.enc
    have h2 := cntCells_le t.enc (Tm.nar t)
    rw [Tm.csz] at h2
    have h3 := enc_len t
    omega
  have implF := him
  have eqR_0 := eqRedex_sat R0 hRw0 R0
  have reR_0 := GRedex.eqb_refl R0
  have hqR_0 : cntTop R0.enc ≤ 64 * R0.size + 64 := by
    have h1 := cntTop_le R0.enc
    have h2 := cntCells_le R0.enc (GRedex.nar R0)
    rw [GRedex.csz] at h2
    have h3 := GRedex.enc_len R0
    omega
  obtain ⟨⟨dsiso, dsiop⟩, dru, dst⟩ := d
  simp only [GDefinition.enc, GRedex.enc, GSignature.enc, Tm.enc, encB, encI, encL, encS, List.cons_append, List.nil_append, List.append_nil, Tm.args, cntTop] at hq_d
  obtain ⟨tk, tn, ts, tt⟩ := t
  simp only [GDefinition.enc, GRedex.enc, GSignature.enc, Tm.enc, encB, encI, encL, encS, List.cons_append, List.nil_append, List.append_nil, Tm.args, cntTop] at hq_t
  obtain ⟨R0ru, R0ps⟩ := R0
  simp only [GDefinition.enc, GRedex.enc, GSignature.enc, Tm.enc, encB, encI, encL, encS, List.cons_append, List.nil_append, List.append_nil, Tm.args, cntTop] at hqR_0
  have hc_d_dsiso := mkRows_cnt (dsiso.map encS) 1
  have hc_d_dsiop := mkRows_cnt (dsiop.map GOp.enc) (mkRows (dsiso.map encS) 1).2
  have hc_d_dru := mkRows_cnt (dru.map GRule.enc) (mkRows (dsiop.map GOp.enc) (mkRows (dsiso.map encS) 1).2).2
  have hc_d_dst := mkRows_cnt (dst.map GStrict.enc) (mkRows (dru.map GRule.enc) (mkRows (dsiop.map GOp.enc) (mkRows (dsiso.map encS) 1).2).2).2
  have hc_t_t := mkRows_cnt (Tm.encs tt) (mkRows (dst.map GStrict.enc) (mkRows (dru.map GRule.enc) (mkRows (dsiop.map GOp.enc) (mkRows (dsiso.map encS) 1).2).2).2).2
  have hcR_0_R0ps := mkRows_cnt (R0ps.map encI) 1
  refine CallK.own toF_d rfl ?_
  simp -implicitDefEqProofs (disch := omega) only [go_sem, GDefinition.enc, GRedex.enc, GSignature.enc, Tm.enc, encB, encI, encL, encS, List.cons_append, List.nil_append, List.append_nil, Tm.args]
  refine CallK.own toF_t rfl ?_
  simp -implicitDefEqProofs (disch := omega) only [go_sem, GDefinition.enc, GRedex.enc, GSignature.enc, Tm.enc, encB, encI, encL, encS, List.cons_append, List.nil_append, List.append_nil, Tm.args]
  refine CallK.own implF rfl ?_
  simp -implicitDefEqProofs (disch := omega) only [go_sem, GDefinition.enc, GRedex.enc, GSignature.enc, Tm.enc, encB, encI, encL, encS, List.cons_append, List.nil_append, List.append_nil, Tm.args]
  refine CallK.bor eqR_0 rfl ?_
  simp -implicitDefEqProofs (disch := omega) only [go_sem, GDefinition.enc, GRedex.enc, GSignature.enc, Tm.enc, encB, encI, encL, encS, List.cons_append, List.nil_append, List.append_nil, Tm.args, reR_0]
  refine CallK.mk toX_d ?_
  simp -implicitDefEqProofs (disch := omega) only [go_sem, GDefinition.enc, GRedex.enc, GSignature.enc, Tm.enc, encB, encI, encL, encS, List.cons_append, List.nil_append, List.append_nil, Tm.args]
  refine CallK.bor eqX_d rfl ?_
  simp -implicitDefEqProofs (disch := omega) only [go_sem, GDefinition.enc, GRedex.enc, GSignature.enc, Tm.enc, encB, encI, encL, encS, List.cons_append, List.nil_append, List.append_nil, Tm.args, reX_d]
  refine CallK.mk toX_t ?_
  simp -implicitDefEqProofs (disch := omega) only [go_sem, GDefinition.enc, GRedex.enc, GSignature.enc, Tm.enc, encB, encI, encL, encS, List.cons_append, List.nil_append, List.append_nil, Tm.args]
  refine CallK.bor eqX_t rfl ?_
  simp -implicitDefEqProofs (disch := omega) only [go_sem, GDefinition.enc, GRedex.enc, GSignature.enc, Tm.enc, encB, encI, encL, encS, List.cons_append, List.nil_append, List.append_nil, Tm.args, reX_t]
  refine CallK.mut (markDefinition_sat dsiso dsiop dru dst hw_d 1 (by omega) (by omega)) ?_
  simp -implicitDefEqProofs (disch := omega) only [go_sem, GDefinition.enc, GRedex.enc, GSignature.enc, Tm.enc, encB, encI, encL, encS, List.cons_append, List.nil_append, List.append_nil, Tm.args]
  refine CallK.mut (markTerm_sat tk tn ts tt hw_t (mkRows (dst.map GStrict.enc) (mkRows (dru.map GRule.enc) (mkRows (dsiop.map GOp.enc) (mkRows (dsiso.map encS) 1).2).2).2).2 (by omega) (by omega)) ?_
  simp -implicitDefEqProofs (disch := omega) only [go_sem, GDefinition.enc, GRedex.enc, GSignature.enc, Tm.enc, encB, encI, encL, encS, List.cons_append, List.nil_append, List.append_nil, Tm.args]
  refine ⟨fun _ => ?_, fun h => by omega⟩
  refine CallK.bor eqR_0 rfl ?_
  simp -implicitDefEqProofs (disch := omega) only [go_sem, GDefinition.enc, GRedex.enc, GSignature.enc, Tm.enc, encB, encI, encL, encS, List.cons_append, List.nil_append, List.append_nil, Tm.args, reR_0]
  refine CallK.mut (markRedex_sat R0ru R0ps hRw0 1 (by omega) (by omega)) ?_
  simp -implicitDefEqProofs (disch := omega) only [go_sem, GDefinition.enc, GRedex.enc, GSignature.enc, Tm.enc, encB, encI, encL, encS, List.cons_append, List.nil_append, List.append_nil, Tm.args]
  refine CallK.bor (heldRedex_sat R0ru R0ps hRw0 1 (by omega) (by omega)) rfl ?_
  simp -implicitDefEqProofs (disch := omega) only [go_sem, GDefinition.enc, GRedex.enc, GSignature.enc, Tm.enc, encB, encI, encL, encS, List.cons_append, List.nil_append, List.append_nil, Tm.args]
  refine ⟨fun h => by omega, fun _ => ?_⟩
  refine CallK.mk toX_d ?_
  simp -implicitDefEqProofs (disch := omega) only [go_sem, GDefinition.enc, GRedex.enc, GSignature.enc, Tm.enc, encB, encI, encL, encS, List.cons_append, List.nil_append, List.append_nil, Tm.args]
  refine CallK.mk toX_t ?_
  simp -implicitDefEqProofs (disch := omega) only [go_sem, GDefinition.enc, GRedex.enc, GSignature.enc, Tm.enc, encB, encI, encL, encS, List.cons_append, List.nil_append, List.append_nil, Tm.args]
  refine CallK.mk implF.sat ?_
  simp -implicitDefEqProofs (disch := omega) only [go_sem, GDefinition.enc, GRedex.enc, GSignature.enc, Tm.enc, encB, encI, encL, encS, List.cons_append, List.nil_append, List.append_nil, Tm.args]
  refine CallK.bor eqR_0 rfl ?_
  simp -implicitDefEqProofs (disch := omega) only [go_sem, GDefinition.enc, GRedex.enc, GSignature.enc, Tm.enc, encB, encI, encL, encS, List.cons_append, List.nil_append, List.append_nil, Tm.args, reR_0]
  refine CallK.bor (heldRedex_sat R0ru R0ps hRw0 1 (by omega) (by omega)) rfl ?_
  simp -implicitDefEqProofs (disch := omega) only [go_sem, GDefinition.enc, GRedex.enc, GSignature.enc, Tm.enc, encB, encI, encL, encS, List.cons_append, List.nil_append, List.append_nil, Tm.args]
  first | (intro h; omega) | exact ⟨fun h => by omega, fun _ => trivial⟩
end Go.Ai
