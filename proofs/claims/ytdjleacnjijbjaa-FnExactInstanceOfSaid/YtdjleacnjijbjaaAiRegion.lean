/- A region, run in the text's order by the abstract machine, is run by the model in whatever order it picks. -/
import Derived.Test.YtdjleacnjijbjaaAiSwap
namespace Go.Ai
set_option linter.unusedVariables false
set_option linter.unusedSimpArgs false
open Go.RowKit

variable {P : Program} {tab : Tab} {ops : Array Oper} {w0 : World} {M0 : Ms} {F0 : Fz}

theorem step_sound (hT : TabOk P tab) {s s' : St} {a : Act} {w : World} (h : SimE w0 M0 F0 s a w) {o : Oper} (hs : Step P tab ops o s s') {K : Act → World → Prop} {Q : Exit → Act → World → Prop} (hK : ∀ a' w', SimE w0 M0 F0 s' a' w' → K a' w') :
    if Region.wanted o (yielded ops a.tmps) then o.wp P a w K Q ∨ (o.asks P a w ∧ LetsOut Q) else K (a.put o.dst undef) w := by
  obtain ⟨F, g, h⟩ := h
  rcases hs with ⟨hw, ha⟩ | ⟨hw, hd, rfl⟩
  · rw [want_sound h hw]
    exact .inl (acts_sound hT h ha hK)
  · rw [want_sound h hw]
    refine hK _ _ ⟨F, g, h.set? hd ?_⟩
    simp only [RepAV, RepAVs]
    exact ⟨[], rfl, rfl⟩

theorem step_live (hT : TabOk P tab) {s s' : St} (hl : ∃ a w, SimE w0 M0 F0 s a w) {o : Oper} (hs : Step P tab ops o s s') : ∃ a w, SimE w0 M0 F0 s' a w := by
  obtain ⟨a, w, h⟩ := hl
  have := step_sound (Q := fun _ _ _ => False) hT h hs (K := fun a' w' => SimE w0 M0 F0 s' a' w') (fun _ _ h => h)
  split at this
  · rcases this with h | ⟨_, _, _, h⟩
    · unfold Oper.wp at h
      generalize (execOp a.eval o).run P w = r at h
      cases r with
      | ok n w' =>
        cases n <;> simp only [Oper.upon] at h
        case value v => exact ⟨_, _, h⟩
        case skip => exact ⟨_, _, h⟩
        case defer d => exact ⟨_, _, h⟩
        case enter f args =>
          obtain ⟨e, w'', fr, hR, _⟩ := h []
          cases e with
          | returned v => exact ⟨_, _, hR⟩
          | panicked c => exact hR.elim
          | outgrown => obtain ⟨_, _, hq⟩ := hR; exact hq.elim
        case row row args =>
          obtain ⟨v, w'', hR, _⟩ := h default []
          exact ⟨_, _, hR⟩
      | halt x w' => cases x <;> simp only [Oper.upon] at h
    · exact h.elim
  · exact ⟨_, _, this⟩

theorem here_of_sim {s : St} (h : ∃ a w, SimE w0 M0 F0 s a w) : Here s := by
  obtain ⟨a, w, F, g, h⟩ := h
  intro t l hl
  have hs := h.sl t
  have one : ∀ (x : AC) (u : Value), RepAC w F s.lb g x u → l ∈ x.refs → s.lb l ≠ none := by
    intro x u hr hx
    cases x <;> simp only [AC.refs, List.mem_singleton, List.not_mem_nil] at hx
    all_goals
      subst hx
      simp only [RepAC] at hr
      obtain ⟨_, B, hB, _⟩ := hr
      rw [hB]; simp
  cases hv : s.sl t with
  | one x =>
    rw [hv] at hs hl
    simp only [RepAV] at hs
    exact one x _ hs hl
  | agg xs =>
    rw [hv] at hs hl
    simp only [RepAV] at hs
    obtain ⟨us, _, hr⟩ := hs
    simp only [AV.refs] at hl
    obtain ⟨x, hx, hlx⟩ := List.mem_flatMap.1 hl
    obtain ⟨k1, k2⟩ := (RepACs.iff _ _).1 hr
    obtain ⟨i, hi⟩ := List.getElem?_of_mem hx
    have hlt := (List.getElem?_eq_some_iff.1 hi).1
    exact one x _ (k2 i x us[i] hi (List.getElem?_eq_getElem (by omega))) hlx
  | tup vs => rw [hv] at hl; simp [AV.refs] at hl
  | any => rw [hv] at hl; simp [AV.refs] at hl

/-! ### In the text's order -/
/-- A step where the order is the text's: calls may write what they are lent, too. -/
def StepX (P : Program) (tab : Tab) (x : Bool) (ops : Array Oper) (o : Oper) (s s' : St) : Prop := Step P tab ops o s s' ∨ (x = true ∧ Want ops o s true ∧ ActsM P o s s')
def StepsL (P : Program) (tab : Tab) (x : Bool) (ops : Array Oper) : List Oper → St → St → Prop
  | [], s, s' => s' = s
  | o :: os, s, s' => ∃ s1, StepX P tab x ops o s s1 ∧ StepsL P tab x ops os s1 s'
theorem stepX_sound (hT : TabOk P tab) {x : Bool} {s s' : St} {a : Act} {w : World} (h : SimE w0 M0 F0 s a w) {o : Oper} (hs : StepX P tab x ops o s s') {K : Act → World → Prop} {Q : Exit → Act → World → Prop} (hK : ∀ a' w', SimE w0 M0 F0 s' a' w' → K a' w') :
    if Region.wanted o (yielded ops a.tmps) then o.wp P a w K Q ∨ (o.asks P a w ∧ LetsOut Q) else K (a.put o.dst undef) w := by
  rcases hs with hs | ⟨_, hw, hm⟩
  · exact step_sound hT h hs hK
  · obtain ⟨F, g, h⟩ := h
    rw [want_sound h hw]
    exact .inl (actsM_sound h hm hK)

theorem list_sound (hT : TabOk P tab) {x : Bool} {Q : Exit → Act → World → Prop} {s' : St} (hQ : ∀ a' w', SimE w0 M0 F0 s' a' w' → Q .normal a' w') : ∀ (l : List Oper) (s : St) (a : Act) (w : World), StepsL P tab x ops l s s' → SimE w0 M0 F0 s a w → wpList P ops Q l a w
  | [], s, a, w, hs, h => by simp only [StepsL] at hs; subst hs; exact hQ _ _ h
  | o :: os, s, a, w, hs, h => by
    obtain ⟨s1, h1, h2⟩ := hs
    simp only [wpList]
    exact stepX_sound hT h h1 (fun a' w' h' => list_sound hT hQ os s1 a' w' h2 h')

/-! ### In any order -/
def StepsI (P : Program) (tab : Tab) (ops : Array Oper) : List Nat → St → St → Prop
  | [], s, s' => s' = s
  | i :: is, s, s' => ∃ o s1, ops[i]? = some o ∧ Step P tab ops o s s1 ∧ StepsI P tab ops is s1 s'

theorem stepsI_append : ∀ (l m : List Nat) (s s' : St), StepsI P tab ops (l ++ m) s s' ↔ ∃ s1, StepsI P tab ops l s s1 ∧ StepsI P tab ops m s1 s'
  | [], m, s, s' => by simp [StepsI]
  | i :: l, m, s, s' => by
    simp only [List.cons_append, StepsI]
    constructor
    · rintro ⟨o, s1, ho, h1, h2⟩
      obtain ⟨s2, k1, k2⟩ := (stepsI_append l m s1 s').1 h2
      exact ⟨s2, ⟨o, s1, ho, h1, k1⟩, k2⟩
    · rintro ⟨s2, ⟨o, s1, ho, h1, k1⟩, k2⟩
      exact ⟨o, s1, ho, h1, (stepsI_append l m s1 s').2 ⟨s2, k1, k2⟩⟩

theorem bubble (hT : TabOk P tab) {o : Oper} : ∀ (pre : List Nat) (s sm sn : St), (∃ a w, SimE w0 M0 F0 s a w) → (∀ p q, p ∈ pre → ops[p]? = some q → commOk ops q o = true) →
    StepsI P tab ops pre s sm → Step P tab ops o sm sn → ∃ s1, Step P tab ops o s s1 ∧ StepsI P tab ops pre s1 sn
  | [], s, sm, sn, _, _, h1, h2 => by simp only [StepsI] at h1; subst h1; exact ⟨sn, h2, rfl⟩
  | p :: pre, s, sm, sn, hl, hc, h1, h2 => by
    obtain ⟨q, sp, hq, hp, h1⟩ := h1
    obtain ⟨s1', k1, k2⟩ := bubble hT pre sp sm sn (step_live hT hl hp) (fun p' q' hp' => hc p' q' (by simp [hp'])) h1 h2
    obtain ⟨s1, k3, k4⟩ := swap (here_of_sim hl) (hc p q (by simp) hq) hp k1
    exact ⟨s1, k3, q, s1', hq, k4, k2⟩

def maskOf (acc : List Nat) (o : Oper) : Nat := o.after.toList.foldl (fun m e => if Region.binds .any e then m ||| 2 ^ e.on ||| acc.getD e.on 0 else m) 0
def befsA (acc : List Nat) : List Oper → List Nat
  | [] => acc
  | o :: os => befsA (acc ++ [maskOf acc o]) os

def regOk (ops : Array Oper) : Bool :=
  (List.range ops.size).all fun j => match ops.toList[j]? with
    | none => true
    | some oj => oj.after.toList.all (fun e => !Region.binds .any e || decide (e.on < j)) &&
      (List.range j).all fun i => match ops.toList[i]? with
        | none => true
        | some oi => ((befsA [] ops.toList).getD j 0).testBit i || commOk ops oi oj

theorem mask_bits (acc : List Nat) (i : Nat) : ∀ (es : List Edge) (m : Nat), (es.foldl (fun m e => if Region.binds .any e then m ||| 2 ^ e.on ||| acc.getD e.on 0 else m) m).testBit i = true →
    m.testBit i = true ∨ ∃ e, e ∈ es ∧ Region.binds .any e = true ∧ (e.on = i ∨ (acc.getD e.on 0).testBit i = true)
  | [], m, h => .inl h
  | e :: es, m, h => by
    rcases mask_bits acc i es _ h with h | ⟨e', he, hb, h⟩
    · replace h : (if Region.binds .any e then m ||| 2 ^ e.on ||| acc.getD e.on 0 else m).testBit i = true := h
      split at h
      · rename_i hb
        simp only [Nat.testBit_or, Bool.or_eq_true] at h
        rcases h with (h | h) | h
        · exact .inl h
        · refine .inr ⟨e, by simp, hb, .inl ?_⟩
          simpa [Nat.testBit_two_pow] using h
        · exact .inr ⟨e, by simp, hb, .inr h⟩
      · exact .inl h
    · exact .inr ⟨e', by simp [he], hb, h⟩

def MaskR (acc : List Nat) (os : List Oper) : Prop := ∀ (k : Nat) m, acc[k]? = some m → ∀ i, m.testBit i = true → ∃ o, os[k]? = some o ∧ ∃ e, e ∈ o.after.toList ∧ Region.binds .any e = true ∧ (e.on = i ∨ ∃ m', acc[e.on]? = some m' ∧ m'.testBit i = true)

theorem befs_R : ∀ (os done : List Oper) (acc : List Nat), acc.length = done.length → MaskR acc done → MaskR (befsA acc os) (done ++ os)
  | [], done, acc, _, h => by simpa [befsA] using h
  | o :: os, done, acc, hl, h => by
    have := befs_R os (done ++ [o]) (acc ++ [maskOf acc o]) (by simp [hl]) (by
      intro k m hk i hi
      rw [List.getElem?_append] at hk
      split at hk
      · rename_i hlt
        obtain ⟨o', ho', e, he, hb, hq⟩ := h k m hk i hi
        refine ⟨o', by rw [List.getElem?_append_left (by omega)]; exact ho', e, he, hb, hq.imp id ?_⟩
        rintro ⟨m', hm', hb'⟩
        exact ⟨m', by rw [List.getElem?_append_left (List.getElem?_eq_some_iff.1 hm').1]; exact hm', hb'⟩
      · rename_i hlt
        have hk0 : k - acc.length = 0 := by
          rcases Nat.eq_zero_or_pos (k - acc.length) with h0 | h0
          · exact h0
          · rw [List.getElem?_eq_none (by simp; omega)] at hk; cases hk
        rw [hk0] at hk
        simp at hk; subst hk
        have hkd : k = done.length := by omega
        rcases mask_bits acc i _ _ hi with h0 | ⟨e, he, hb, hq⟩
        · simp at h0
        · refine ⟨o, by simp [hkd], e, he, hb, hq.imp id (fun hq => ?_)⟩
          cases hm : acc[e.on]? with
          | none => simp [List.getD, hm] at hq
          | some m' =>
            refine ⟨m', by rw [List.getElem?_append_left (List.getElem?_eq_some_iff.1 hm).1]; exact hm, ?_⟩
            simpa [List.getD, hm] using hq)
    simpa [befsA] using this

theorem regOk_edges (h : regOk ops = true) {j : Nat} {o : Oper} (ho : ops[j]? = some o) {e : Edge} (he : e ∈ o.after) (hb : Region.binds .any e = true) : e.on < j := by
  have hj : j < ops.size := (Array.getElem?_eq_some_iff.1 ho).1
  unfold regOk at h
  have := List.all_eq_true.1 h j (List.mem_range.2 hj)
  have ho' : ops.toList[j]? = some o := by simpa using ho
  rw [ho'] at this
  simp only [Bool.and_eq_true] at this
  have := List.all_eq_true.1 this.1 e (by simpa using he)
  simpa [hb] using this

theorem regOk_pair (h : regOk ops = true) {i j : Nat} {x y : Oper} (hij : i < j) (hx : ops[i]? = some x) (hy : ops[j]? = some y) : ((befsA [] ops.toList).getD j 0).testBit i = true ∨ commOk ops x y = true := by
  have hj : j < ops.size := (Array.getElem?_eq_some_iff.1 hy).1
  unfold regOk at h
  have := List.all_eq_true.1 h j (List.mem_range.2 hj)
  have hy' : ops.toList[j]? = some y := by simpa using hy
  have hx' : ops.toList[i]? = some x := by simpa using hx
  rw [hy'] at this
  simp only [Bool.and_eq_true] at this
  have := List.all_eq_true.1 this.2 i (List.mem_range.2 hij)
  rw [hx'] at this
  simpa using this

/-- What comes before in every order has come up, where the listed ones are closed downwards. -/
theorem before_listed (h : regOk ops = true) {listed : Array Bool} (hdown : ∀ j o, ops[j]? = some o → listed.getD j false = true → ∀ e, e ∈ o.after → Region.binds .any e = true → listed.getD e.on false = true) (i : Nat) :
    ∀ (j : Nat) (o : Oper), ops[j]? = some o → (∀ e, e ∈ o.after → Region.binds .any e = true → listed.getD e.on false = true) → ((befsA [] ops.toList).getD j 0).testBit i = true → listed.getD i false = true := by
  intro j
  induction j using Nat.strongRecOn with
  | _ j ih =>
    intro o ho hall hbit
    have R := befs_R ops.toList [] [] rfl (by intro k m hk; simp at hk)
    cases hm : (befsA [] ops.toList)[j]? with
    | none => simp [List.getD, hm] at hbit
    | some m =>
      simp [List.getD, hm] at hbit
      obtain ⟨o', ho', e, he, hb, hq⟩ := R j m hm i hbit
      simp at ho'
      rw [ho] at ho'
      obtain rfl := Option.some.inj ho'
      have hle := hall e (by simpa using he) hb
      rcases hq with rfl | ⟨m', hm', hb'⟩
      · exact hle
      · have hlt := regOk_edges h ho (by simpa using he) hb
        have hjs : e.on < ops.size := Nat.lt_trans hlt (Array.getElem?_eq_some_iff.1 ho).1
        have hoe : ops[e.on]? = some ops[e.on] := Array.getElem?_eq_getElem hjs
        exact ih e.on hlt _ hoe (fun e' he' hb'' => hdown e.on _ hoe hle e' he' hb'') (by simp [List.getD, hm', hb'])

theorem any_sound (hT : TabOk P tab) (hok : regOk ops = true) {Q : Exit → Act → World → Prop} {s' : St} (hQ : ∀ a' w', SimE w0 M0 F0 s' a' w' → Q .normal a' w') :
    ∀ (fuel : Nat) (rem : List Nat) (listed : Array Bool) (s : St) (a : Act) (w : World), rem.length = fuel → rem.Pairwise (· < ·) → listed.size = ops.size →
      (∀ i, i ∈ rem ↔ i < ops.size ∧ listed.getD i false = false) →
      (∀ j o, ops[j]? = some o → listed.getD j false = true → ∀ e, e ∈ o.after → Region.binds .any e = true → listed.getD e.on false = true) →
      StepsI P tab ops rem s s' → SimE w0 M0 F0 s a w → wpAny P .any ops Q fuel listed a w := by
  intro fuel
  have gd : ∀ (listed : Array Bool) (i : Nat) (b c : Bool), i < listed.size → listed.getD i b = listed.getD i c := by
    intro listed i b c hi; simp [hi]
  have noready : ∀ (rem : List Nat) (listed : Array Bool), rem.Pairwise (· < ·) → listed.size = ops.size → (∀ i, i ∈ rem ↔ i < ops.size ∧ listed.getD i false = false) → Region.ready .any ops listed = [] → rem = [] := by
    intro rem listed hpw hsz hrem hr
    cases rem with
    | nil => rfl
    | cons i rest =>
      exfalso
      obtain ⟨hi, hli⟩ := (hrem i).1 (by simp)
      have hoi : ops[i]? = some ops[i] := Array.getElem?_eq_getElem hi
      have : i ∈ Region.ready .any ops listed := by
        rw [mem_ready]
        refine ⟨by rw [gd listed i true false (by omega)]; exact hli, ops[i], hoi, fun e he hb => ?_⟩
        have hlt := regOk_edges hok hoi he hb
        cases hle : listed.getD e.on false with
        | true => rfl
        | false =>
          have hin := (hrem e.on).2 ⟨by omega, hle⟩
          rcases List.mem_cons.1 hin with h | h
          · omega
          · have := (List.pairwise_cons.1 hpw).1 e.on h; omega
      rw [hr] at this; cases this
  induction fuel with
  | zero =>
    intro rem listed s a w hlen hpw hsz hrem hdown hs h
    obtain rfl := List.eq_nil_of_length_eq_zero hlen
    simp only [StepsI] at hs
    subst hs
    refine ⟨?_, hQ _ _ h⟩
    apply List.eq_nil_iff_forall_not_mem.2
    intro i hi
    obtain ⟨hli, o, ho, _⟩ := mem_ready.1 hi
    have hlt := (Array.getElem?_eq_some_iff.1 ho).1
    have := (hrem i).2 ⟨hlt, by rw [gd listed i false true (by omega)]; exact hli⟩
    cases this
  | succ fuel ih =>
    intro rem listed s a w hlen hpw hsz hrem hdown hs h
    refine ⟨fun hr => ?_, fun i hi => ?_⟩
    · have := noready rem listed hpw hsz hrem hr
      subst this
      simp at hlen
    · obtain ⟨hli, o, ho, hall⟩ := mem_ready.1 hi
      have hlt := (Array.getElem?_eq_some_iff.1 ho).1
      have hin : i ∈ rem := (hrem i).2 ⟨hlt, by rw [gd listed i false true (by omega)]; exact hli⟩
      obtain ⟨pre, post, rfl⟩ := List.append_of_mem hin
      obtain ⟨sm, k1, k2⟩ := (stepsI_append pre (i :: post) s s').1 hs
      obtain ⟨o', sn, ho', k3, k4⟩ := k2
      rw [ho] at ho'
      obtain rfl := Option.some.inj ho'
      have hpre : ∀ p, p ∈ pre → p < i := fun p hp => by
        have := (List.pairwise_append.1 hpw).2.2 p hp i (by simp); exact this
      obtain ⟨s1, b1, b2⟩ := bubble hT pre s sm sn ⟨a, w, h⟩ (fun p q hp hq => by
        rcases regOk_pair hok (hpre p hp) hq ho with hb | hc
        · have := before_listed hok hdown p i o ho hall hb
          have hp2 := ((hrem p).1 (by simp [hp])).2
          rw [this] at hp2; cases hp2
        · exact hc) k1 k3
      have hs1 : StepsI P tab ops (pre ++ post) s1 s' := (stepsI_append pre post s1 s').2 ⟨sn, b2, k4⟩
      have hset : ∀ k, (listed.setIfInBounds i true).getD k false = if k = i then true else listed.getD k false := by
        intro k
        simp only [Array.getD_eq_getD_getElem?, Array.getElem?_setIfInBounds]
        by_cases e : i = k
        · subst e; simp [hsz, hlt]
        · simp [e, Ne.symm e]
      unfold wpOp
      simp only [ho]
      refine step_sound hT h b1 (fun a' w' h' => ih (pre ++ post) (listed.setIfInBounds i true) s1 a' w' (by simp at hlen ⊢; omega) ?_ (by simpa using hsz) (fun k => ?_) (fun j oj hoj hlj e he hb => ?_) hs1 h')
      · rw [List.pairwise_append] at hpw ⊢
        exact ⟨hpw.1, (List.pairwise_cons.1 hpw.2.1).2, fun x hx y hy => hpw.2.2 x hx y (by simp [hy])⟩
      · rw [hset]
        have hk := hrem k
        simp only [List.mem_append, List.mem_cons] at hk ⊢
        have hnd : ∀ k, k ∈ pre ∨ k ∈ post → k ≠ i := by
          rintro k (hk | hk) e
          · have := hpre k hk; omega
          · have := (List.pairwise_cons.1 (List.pairwise_append.1 hpw).2.1).1 k hk; omega
        constructor
        · intro hk'
          have hne := hnd k hk'
          rw [if_neg hne]
          exact hk.1 (hk'.imp id .inr)
        · rintro ⟨h1, h2⟩
          by_cases e : k = i
          · rw [if_pos e] at h2; cases h2
          · rw [if_neg e] at h2
            rcases hk.2 ⟨h1, h2⟩ with hq | hq | hq
            · exact .inl hq
            · exact absurd hq e
            · exact .inr hq
      · rw [hset] at hlj ⊢
        split
        · rfl
        · by_cases e' : j = i
          · subst e'
            rw [ho] at hoj
            obtain rfl := Option.some.inj hoj
            exact hall e he hb
          · rw [if_neg e'] at hlj
            exact hdown j oj hoj hlj e he hb

theorem stepsI_of_list : ∀ (l : List Oper) (k : Nat) (s s' : St), (∀ j, l[j]? = ops[k + j]?) → StepsL P tab false ops l s s' → StepsI P tab ops (List.range' k l.length) s s'
  | [], _, _, _, _, h => h
  | o :: l, k, s, s', hl, h => by
    obtain ⟨s1, h1, h2⟩ := h
    have h0 : ops[k]? = some o := by simpa using (hl 0).symm
    have h1 : Step P tab ops o s s1 := h1.resolve_right (fun h => by cases h.1)
    exact ⟨o, s1, h0, h1, stepsI_of_list l (k + 1) s1 s' (fun j => by have := hl (j + 1); simpa [Nat.add_assoc, Nat.add_comm 1 j] using this) h2⟩

/-- **A region.** -/
theorem region_sound (hT : TabOk P tab) (hm : P.follows .mixedOrders = true) {id : Nat} {draw : Bool} (hok : draw = true → regOk ops = true) {Q : Exit → Act → World → Prop} {s s' : St} {a : Act} {w : World}
    (hs : StepsL P tab (!draw) ops ops.toList s s') (h : SimE w0 M0 F0 s a w) (hQ : ∀ a' w', SimE w0 M0 F0 s' a' w' → Q .normal a' w') : (Code.region id ops draw).wp P Q a w := by
  cases draw with
  | false => exact wp_region_list (list_sound hT hQ ops.toList s a w hs h)
  | true =>
    have hok := hok rfl
    have h' : SimE w0 M0 F0 s a { w with drawn := w.drawn + 1 } := by obtain ⟨F, g, h⟩ := h; exact ⟨F, g, h.drew⟩
    refine wp_region_any hm (any_sound hT hok hQ ops.size (List.range ops.size) _ s a _ (by simp) List.pairwise_lt_range (by simp) (fun i => ?_) (fun j o ho hl => ?_) ?_ h')
    · simp only [List.mem_range]
      constructor
      · intro hi; exact ⟨hi, by simp [Array.getD_eq_getD_getElem?, Array.getElem?_replicate, hi]⟩
      · exact fun hi => hi.1
    · have hj := (Array.getElem?_eq_some_iff.1 ho).1
      simp [Array.getD_eq_getD_getElem?, Array.getElem?_replicate, hj] at hl
    · have := stepsI_of_list (P := P) (tab := tab) (ops := ops) ops.toList 0 s s' (by simp) hs
      rw [List.range_eq_range']
      simpa using this

end Go.Ai
