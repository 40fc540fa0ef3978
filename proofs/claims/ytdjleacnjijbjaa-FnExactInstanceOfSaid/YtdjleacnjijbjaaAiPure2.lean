/- The other operations that leave memory as it is. -/
import Derived.Test.YtdjleacnjijbjaaAiPure
import Derived.Laws.StructEq
namespace Go.Ai
set_option linter.unusedVariables false
set_option linter.unusedSimpArgs false
open Go.RowKit

variable {P : Program} {tab : Tab} {w0 : World} {M0 : Ms} {F0 F : Fz} {g : Gh} {s : St} {a : Act} {w : World} {lb : Lk}

theorem RepAV.c_int {k : IntKind} {n : Int} {u : Value} (h : RepAV w F lb g (.one (.c (.v (.int k n)))) u) : u = .int k n := by
  simp only [RepAV, RepAC, Rd] at h; exact h.1
theorem RepAV.c_v {x : Value} {u : Value} (h : RepAV w F lb g (.one (.c (.v x))) u) : u = x := by
  simp only [RepAV, RepAC, Rd] at h; exact h.1
theorem rep_v {x : Value} (h : okvB x = true) : RepAV w F lb g (.one (.c (.v x))) x := by
  simp only [RepAV, RepAC, Rd]; exact ⟨trivial, okvB_ok h⟩

theorem binInt_sound {op : BinOp} {k : IntKind} {x y : Int} {t : TypeId} {pr : Prop} {v : AV} (ho : binInt op k x y = some (pr, v)) (hp : pr) :
    ∃ u, (binOp op t (.int k x) (.int k y)).run P w = .ok u w ∧ RepAV w F lb g v u := by
  cases op <;> simp only [binInt] at ho <;> try (cases ho; done)
  all_goals
    obtain ⟨rfl, rfl⟩ := Prod.mk.inj (Option.some.inj ho)
    refine ⟨_, ?_, rep_v (by rfl)⟩
  all_goals first
    | (simp [binOp, Op.intArith, Op.intCmp]; done)
    | (simp [binOp, Op.intDiv, hp]; done)

theorem binStr_sound {op : BinOp} {x y : ByteArray} {t : TypeId} {pr : Prop} {v : AV} (ho : binStr op x y = some (pr, v)) (hp : pr) :
    ∃ u, (binOp op t (.string x) (.string y)).run P w = .ok u w ∧ RepAV w F lb g v u := by
  cases op <;> simp only [binStr] at ho <;> try (cases ho; done)
  all_goals
    obtain ⟨rfl, rfl⟩ := Prod.mk.inj (Option.some.inj ho)
    refine ⟨_, ?_, rep_v (by rfl)⟩
  case add =>
    have : ¬ (IntKind.i64.max < ((x.size + y.size : Nat) : Int)) := by
      have e : IntKind.i64.max = 9223372036854775807 := by decide
      omega
    simp only [binOp, Op.stringOp]
    rw [if_neg (by simpa using this)]
    rfl
  all_goals simp [binOp, Op.stringOp]

theorem run_eqBool {t : TypeId} (ht : P.underlying t = some .bool) (a b : Bool) (d : Nat) : (Op.equalIn (d + 1) t (.bool a) (.bool b)).run P w = .ok (a == b) w := by
  unfold Op.equalIn
  rw [Sem.run_bind, run_underlying ht]
  rfl
theorem run_binBool {t : TypeId} (ht : P.underlying t = some .bool) (a b : Bool) (xo yo : Operand) :
    (do eqGuard .eql t xo yo (.bool a) (.bool b); binOp .eql t (.bool a) (.bool b) : Sem Value).run P w = .ok (.bool (a == b)) w ∧
    (do eqGuard .neq t xo yo (.bool a) (.bool b); binOp .neq t (.bool a) (.bool b) : Sem Value).run P w = .ok (.bool (!(a == b))) w := by
  have h := run_eqBool (P := P) (w := w) ht a b 9999
  have g1 : (eqGuard .eql t xo yo (.bool a) (.bool b)).run P w = .ok () w := by unfold eqGuard; simp
  have g2 : (eqGuard .neq t xo yo (.bool a) (.bool b)).run P w = .ok () w := by unfold eqGuard; simp
  constructor
  · rw [Sem.run_bind, g1]
    show (binOp .eql t (.bool a) (.bool b)).run P w = _
    unfold binOp
    show (Op.equalIn (9999 + 1) t (.bool a) (.bool b) >>= fun r => pure (Value.bool r)).run P w = _
    rw [Sem.run_bind, h]; rfl
  · rw [Sem.run_bind, g2]
    show (binOp .neq t (.bool a) (.bool b)).run P w = _
    unfold binOp
    show (Op.equalIn (9999 + 1) t (.bool a) (.bool b) >>= fun r => pure (Value.bool (!r))).run P w = _
    rw [Sem.run_bind, h]; rfl

theorem part_cell {t : TypeId} {c : CK} (hc : CkOk P t c) {xs : Array Value} {o : Nat} {u : Value} (hu : xs[o]? = some u) : (part t xs o).run P w = .ok u w := by
  have hlt := (Array.getElem?_eq_some_iff.1 hu).1
  have hv := (Array.getElem?_eq_some_iff.1 hu).2
  cases c <;> simp only [CkOk] at hc <;> simp [part, isAgg, run_underlying hc, hu]

theorem eqFields_run {d : Nat} {xs ys : Array Value} {as bs : List AC} (ha : RepACs w F lb g as xs.toList) (hb : RepACs w F lb g bs ys.toList) : ∀ (fs : List Field) (l : List (Nat × CK)) (r : Bool), CmpFs P fs l → cmpA as bs l = some r →
    (Op.eqFields (d + 1) xs ys fs).run P w = .ok r w
  | [], [], r, _, h => by
    obtain rfl := Option.some.inj h
    simp [Op.eqFields]
  | [], _ :: _, _, h, _ => h.elim
  | _ :: _, [], _, h, _ => h.elim
  | f :: fs, (o, c) :: l, r, h, hr => by
    obtain ⟨h1, rfl, h3, h4⟩ := h
    obtain ⟨ka, ka'⟩ := (RepACs.iff _ _).1 ha
    obtain ⟨kb, kb'⟩ := (RepACs.iff _ _).1 hb
    have at_ : ∀ (zs : List AC) (vs : Array Value), zs.length = vs.toList.length → (∀ (i : Nat) x u, zs[i]? = some x → vs.toList[i]? = some u → RepAC w F lb g x u) → ∀ v, zs[f.offset]? = some (.c (.v v)) → vs[f.offset]? = some v := by
      intro zs vs hl hz v hv
      have hlt := (List.getElem?_eq_some_iff.1 hv).1
      have hlt' : f.offset < vs.toList.length := by omega
      have := hz f.offset _ _ hv (List.getElem?_eq_getElem hlt')
      simp only [RepAC, Rd] at this
      rw [← this.1]
      simp at hlt'
      simp [hlt']
    have key : ∀ (u v : Value) (e s : Bool), xs[f.offset]? = some u → ys[f.offset]? = some v → (Op.equalIn (d + 1) f.type u v).run P w = .ok e w → (Op.eqFields (d + 1) xs ys fs).run P w = .ok s w → (Op.eqFields (d + 1) xs ys (f :: fs)).run P w = .ok (e && s) w := by
      intro u v e s hu hv he hs
      rw [Op.eqFields]
      simp only [if_pos h1, Sem.run_bind, part_cell h3 hu, part_cell h3 hv, he, Result.andThen_ok]
      cases e
      · simp
      · simpa using hs
    simp only [cmpA] at hr
    split at hr
    · rename_i k a k' b s hk2 hk3 hk4
      split at hr
      · rename_i hkk
        subst hkk
        obtain rfl := Option.some.inj hr
        refine key _ _ _ _ (at_ as xs ka ka' _ hk2) (at_ bs ys kb kb' _ hk3) ?_ (eqFields_run ha hb fs l s h4 hk4)
        simp only [CkOk] at h3
        unfold Op.equalIn
        rw [Sem.run_bind, run_underlying h3]
        simp
      · cases hr
    · rename_i a b s hk2 hk3 hk4
      obtain rfl := Option.some.inj hr
      refine key _ _ _ _ (at_ as xs ka ka' _ hk2) (at_ bs ys kb kb' _ hk3) ?_ (eqFields_run ha hb fs l s h4 hk4)
      simp only [CkOk] at h3
      unfold Op.equalIn
      rw [Sem.run_bind, run_underlying h3]
      rfl
    · rename_i a b s hk2 hk3 hk4
      obtain rfl := Option.some.inj hr
      refine key _ _ _ _ (at_ as xs ka ka' _ hk2) (at_ bs ys kb kb' _ hk3) ?_ (eqFields_run ha hb fs l s h4 hk4)
      simp only [CkOk] at h3
      unfold Op.equalIn
      rw [Sem.run_bind, run_underlying h3]
      rfl
    · cases hr

theorem run_eqStruct {t : TypeId} {l : List (Nat × CK)} (hc : CmpOk P t l) {xs ys : Array Value} {as bs : List AC} (ha : RepACs w F lb g as xs.toList) (hb : RepACs w F lb g bs ys.toList) {r : Bool} (hr : cmpA as bs l = some r) (xo yo : Operand) :
    (do eqGuard .eql t xo yo (.agg xs) (.agg ys); binOp .eql t (.agg xs) (.agg ys) : Sem Value).run P w = .ok (.bool r) w ∧
    (do eqGuard .neq t xo yo (.agg xs) (.agg ys); binOp .neq t (.agg xs) (.agg ys) : Sem Value).run P w = .ok (.bool (!r)) w := by
  obtain ⟨h1, h2, fields, h3, h4⟩ := hc
  have hf : P.fieldsOf t = fields := by simp [Program.fieldsOf, h3]
  have he : (Op.equalIn (9999 + 1) t (.agg xs) (.agg ys)).run P w = .ok r w := by
    rw [run_equalIn_struct (P := P) w 9999 t xs ys (by rw [hf]; exact h3) h1, hf]
    exact eqFields_run (d := 9998) ha hb fields.toList l r h4 hr
  have g1 : (eqGuard .eql t xo yo (.agg xs) (.agg ys)).run P w = .ok () w := by unfold eqGuard; simp [h2]
  have g2 : (eqGuard .neq t xo yo (.agg xs) (.agg ys)).run P w = .ok () w := by unfold eqGuard; simp [h2]
  constructor
  · rw [Sem.run_bind, g1]
    show (Op.equalIn (9999 + 1) t (.agg xs) (.agg ys) >>= fun r => pure (Value.bool r)).run P w = _
    rw [Sem.run_bind, he]; rfl
  · rw [Sem.run_bind, g2]
    show (Op.equalIn (9999 + 1) t (.agg xs) (.agg ys) >>= fun r => pure (Value.bool (!r))).run P w = _
    rw [Sem.run_bind, he]; rfl

theorem binA_sound (hT : TabOk P tab) {op : BinOp} {t : TypeId} {x y : AV} {xo yo : Operand} {u1 u2 : Value} (h1 : RepAV w F lb g x u1) (h2 : RepAV w F lb g y u2) {pr : Prop} {v : AV} (ho : binA tab op t x y = some (pr, v)) (hp : pr) :
    ∃ u, (do eqGuard op t xo yo u1 u2; binOp op t u1 u2 : Sem Value).run P w = .ok u w ∧ RepAV w F lb g v u := by
  unfold binA at ho
  split at ho
  · rename_i k1 n1 k2 n2
    obtain rfl := h1.c_v
    obtain rfl := h2.c_v
    split at ho
    · rename_i hk
      subst hk
      obtain ⟨u, hu, hv⟩ := binInt_sound (P := P) (w := w) (F := F) (lb := lb) (g := g) (t := t) ho hp
      refine ⟨u, ?_, hv⟩
      have : (eqGuard op t xo yo (.int k1 n1) (.int k1 n2)).run P w = .ok () w := by
        unfold eqGuard; cases op <;> simp
      rw [Sem.run_bind, this]; exact hu
    · cases ho
  · rename_i n1 n2
    obtain rfl := h1.c_v
    obtain rfl := h2.c_v
    obtain ⟨u, hu, hv⟩ := binStr_sound (P := P) (w := w) (F := F) (lb := lb) (g := g) (t := t) ho hp
    refine ⟨u, ?_, hv⟩
    have : (eqGuard op t xo yo (.string n1) (.string n2)).run P w = .ok () w := by
      unfold eqGuard; cases op <;> simp
    rw [Sem.run_bind, this]; exact hu
  · rename_i b1 b2
    obtain rfl := h1.c_v
    obtain rfl := h2.c_v
    split at ho
    · rename_i ht
      obtain ⟨info, z, d, ok⟩ := hT _ _ ht
      obtain ⟨rfl, rfl⟩ := Prod.mk.inj (Option.some.inj ho)
      have hd := ok.desc
      cases d <;> simp [tyMatch] at hd
      exact ⟨_, (run_binBool ok.und b1 b2 xo yo).1, rep_v rfl⟩
    · rename_i ht
      obtain ⟨info, z, d, ok⟩ := hT _ _ ht
      obtain ⟨rfl, rfl⟩ := Prod.mk.inj (Option.some.inj ho)
      have hd := ok.desc
      cases d <;> simp [tyMatch] at hd
      exact ⟨_, (run_binBool ok.und b1 b2 xo yo).2, rep_v rfl⟩
    · cases ho
  · rename_i as bs
    simp only [RepAV] at h1 h2
    obtain ⟨us, rfl, h1⟩ := h1
    obtain ⟨vs, rfl, h2⟩ := h2
    split at ho
    · rename_i fs l _ _ _ ht
      obtain ⟨info, z, d, ok⟩ := hT _ _ ht
      cases hr : cmpA as bs l with
      | none => rw [hr] at ho; cases ho
      | some r =>
        rw [hr] at ho
        obtain ⟨rfl, rfl⟩ := Prod.mk.inj (Option.some.inj ho)
        exact ⟨_, (run_eqStruct (ok.cmp _ _ rfl) (xs := us.toArray) (ys := vs.toArray) h1 h2 hr xo yo).1, rep_v rfl⟩
    · rename_i fs l _ _ _ ht
      obtain ⟨info, z, d, ok⟩ := hT _ _ ht
      cases hr : cmpA as bs l with
      | none => rw [hr] at ho; cases ho
      | some r =>
        rw [hr] at ho
        obtain ⟨rfl, rfl⟩ := Prod.mk.inj (Option.some.inj ho)
        exact ⟨_, (run_eqStruct (ok.cmp _ _ rfl) (xs := us.toArray) (ys := vs.toArray) h1 h2 hr xo yo).2, rep_v rfl⟩
    · cases ho
  · rename_i x
    simp only [RepAV, RepAC] at h2
    subst h2
    have key : ∀ {ti : TI} {e : TypeId} {b : Bool}, tab t = some ti → ti.d = .slice e → nilA x = some b → ∃ A n c, u1 = .slice A n c ∧ A.isNone = b ∧ (Op.equalIn (9999 + 1) t (.slice A n c) (.slice none 0 0)).run P w = .ok b w := by
      intro ti e b ht hd hb
      obtain ⟨info, z, d, ok⟩ := hT _ _ ht
      have hd' := ok.desc
      rw [hd] at hd'
      cases d <;> simp [tyMatch] at hd'
      have hh : ∃ A n c, u1 = .slice A n c ∧ A.isNone = b := by
        simp only [RepAV] at h1
        cases x <;> simp only [nilA] at hb
        case nil =>
          obtain rfl := Option.some.inj hb
          simp only [RepAC] at h1
          exact ⟨none, 0, 0, h1, rfl⟩
        case e1 =>
          obtain rfl := Option.some.inj hb
          simp only [RepAC] at h1
          obtain ⟨q, cap, h1, _⟩ := h1
          exact ⟨some q, 0, cap, h1, rfl⟩
        case c y =>
          cases y with
          | v y => cases hb
          | sl rows =>
            cases rows with
            | nil => cases hb
            | cons r rs =>
              obtain rfl := Option.some.inj hb
              simp only [RepAC, Rd] at h1
              obtain ⟨A, cap, sz, h1, h2, _, _, h5, _⟩ := h1
              refine ⟨A, _, _, h1, ?_⟩
              cases A with
              | none => have := h5 rfl; simp at h2; omega
              | some A => rfl
        all_goals cases hb
      obtain ⟨A, n, c, rfl, rfl⟩ := hh
      refine ⟨A, n, c, rfl, rfl, ?_⟩
      unfold Op.equalIn
      rw [Sem.run_bind, run_underlying ok.und]
      cases A <;> simp
    have grd : ∀ (A : Option Addr) (n c : Nat) (p : BinOp), (eqGuard p t xo yo (.slice A n c) (.slice none 0 0)).run P w = .ok () w := by
      intro A n c p
      unfold eqGuard; cases p <;> simp
    split at ho
    · rename_i ht
      cases hb : nilA x with
      | none => rw [hb] at ho; cases ho
      | some b =>
        rw [hb] at ho
        obtain ⟨rfl, rfl⟩ := Prod.mk.inj (Option.some.inj ho)
        obtain ⟨A, n, c, rfl, _, he⟩ := key ht rfl hb
        refine ⟨.bool b, ?_, rep_v rfl⟩
        rw [Sem.run_bind, grd]
        show (Op.equalIn (9999 + 1) t _ _ >>= fun r => pure (Value.bool r)).run P w = _
        rw [Sem.run_bind, he]; rfl
    · rename_i ht
      cases hb : nilA x with
      | none => rw [hb] at ho; cases ho
      | some b =>
        rw [hb] at ho
        obtain ⟨rfl, rfl⟩ := Prod.mk.inj (Option.some.inj ho)
        obtain ⟨A, n, c, rfl, _, he⟩ := key ht rfl hb
        refine ⟨.bool (!b), ?_, rep_v rfl⟩
        rw [Sem.run_bind, grd]
        show (Op.equalIn (9999 + 1) t _ _ >>= fun r => pure (Value.bool (!r))).run P w = _
        rw [Sem.run_bind, he]; rfl
    · cases ho
  · cases ho

theorem lenA_sound (hT : TabOk P tab) (h : Sim w0 M0 F0 F g s a w) {t ty : TypeId} {x : AV} {u : Value} (hu : RepAV w F s.lb g x u) {pr : Prop} {v : AV} (ho : lenA s.lb (tab t) x = some (pr, v)) :
    ∃ y, (Builtin.len_ #[t] ty #[u]).run P w = .ok y w ∧ RepAV w F s.lb g v y := by
  unfold lenA at ho
  have sl : ∀ {e : TypeId} {a b : Nat} {c : List AC}, tab t = some ⟨.slice e, a, b, c⟩ → ∀ A n cap, (Builtin.len_ #[t] ty #[.slice A n cap]).run P w = .ok (.int .i64 n) w := by
    intro e a b c ht A n cap
    obtain ⟨info, z, d, ok⟩ := hT _ _ ht
    have hd := ok.desc
    cases d <;> simp [tyMatch] at hd
    simp [Builtin.len_, run_underlying ok.und, goInt]
  split at ho
  · rename_i ht
    obtain ⟨rfl, rfl⟩ := Prod.mk.inj (Option.some.inj ho)
    simp only [RepAV, RepAC, Rd] at hu
    obtain ⟨A, cap, sz, rfl, _⟩ := hu
    exact ⟨_, sl ht _ _ _, rep_v rfl⟩
  · rename_i ht
    obtain ⟨rfl, rfl⟩ := Prod.mk.inj (Option.some.inj ho)
    simp only [RepAV, RepAC] at hu
    subst hu
    exact ⟨_, sl ht _ _ _, rep_v rfl⟩
  · rename_i ht
    obtain ⟨rfl, rfl⟩ := Prod.mk.inj (Option.some.inj ho)
    simp only [RepAV, RepAC] at hu
    obtain ⟨_, _, rfl, _⟩ := hu
    exact ⟨_, sl ht _ _ _, rep_v rfl⟩
  · rename_i l n ht
    split at ho
    · rename_i e sz rows fz hl
      split at ho
      · rename_i hn
        obtain ⟨rfl, rfl⟩ := Prod.mk.inj (Option.some.inj ho)
        simp only [RepAV, RepAC] at hu
        obtain ⟨_, B, hB, hq⟩ := hu
        rw [hl] at hB
        obtain rfl := Option.some.inj hB
        simp only [okOwnB] at hq
        rw [hq.2 hn]
        obtain ⟨_, _, xs, S, hown, _⟩ := h.lb l _ hl
        rcases hown.2 with ⟨h1, h2⟩ | ⟨gg, cap, cur, h1, _⟩
        · rw [h1, hn, h2]; exact ⟨_, sl ht _ _ _, rep_v rfl⟩
        · rw [h1, ← hn]; exact ⟨_, sl ht _ _ _, rep_v rfl⟩
      · cases ho
    · cases ho
  · rename_i k i ht
    split at ho
    · rename_i xs hl
      split at ho
      · rename_i rows hx
        obtain ⟨rfl, rfl⟩ := Prod.mk.inj (Option.some.inj ho)
        simp only [RepAV, RepAC] at hu
        obtain ⟨_, B, hB, hq⟩ := hu
        rw [hl] at hB
        obtain rfl := Option.some.inj hB
        obtain ⟨us, hq1, hq2⟩ := hq
        obtain ⟨us', h1, h2⟩ := h.lb k _ hl
        rw [hq1] at h1
        obtain rfl : us = us' := by simpa using h1
        obtain ⟨u', _, _, _, h3, _, this, _⟩ := OwnTs.get _ _ _ _ _ h2 hx
        rw [hq2] at h3
        obtain rfl := Option.some.inj h3
        simp only [Own] at this
        rcases this with ⟨h1, h2, _⟩ | ⟨b, cap, cs, e, sz, S', h1, _⟩
        · rw [h1, h2]; exact ⟨_, sl ht _ _ _, rep_v rfl⟩
        · rw [h1]; exact ⟨_, sl ht _ _ _, rep_v rfl⟩
      · cases ho
    · cases ho
  · rename_i str ht
    obtain ⟨rfl, rfl⟩ := Prod.mk.inj (Option.some.inj ho)
    obtain rfl := hu.c_v
    obtain ⟨info, z, d, ok⟩ := hT _ _ ht
    have hd := ok.desc
    cases d <;> simp [tyMatch] at hd
    exact ⟨.int .i64 str.size, by simp [Builtin.len_, run_underlying ok.und, goInt], rep_v rfl⟩
  · cases ho

theorem maxA_sound {ts : Array TypeId} {ty : TypeId} {x y : AV} {u1 u2 : Value} (h1 : RepAV w F lb g x u1) (h2 : RepAV w F lb g y u2) {pr : Prop} {v : AV} (ho : maxA x y = some (pr, v)) :
    ∃ z, (Builtin.max_ ts ty #[u1, u2]).run P w = .ok z w ∧ RepAV w F lb g v z := by
  unfold maxA at ho
  split at ho
  · obtain rfl := h1.c_v
    obtain rfl := h2.c_v
    obtain ⟨rfl, rfl⟩ := Prod.mk.inj (Option.some.inj ho)
    exact ⟨_, by simp [Builtin.max_, Builtin.max2], rep_v rfl⟩
  · cases ho

theorem fieldAddrA_sound (hT : TabOk P tab) {t : TypeId} {p : AV} {f : Nat} {u : Value} (hu : RepAV w F lb g p u) {pr : Prop} {v : AV} (ho : fieldAddrA lb (tab t) p f = some (pr, v)) (hp : pr) :
    ∃ x, (Instr.fieldAt t u f).run P w = .ok x w ∧ RepAV w F lb g v x := by
  unfold fieldAddrA at ho
  split at ho
  · rename_i fs _ _ _ ht
    obtain ⟨info, z, d, ok⟩ := hT _ _ ht
    have hd := ok.desc
    cases d <;> simp only [tyMatch, Bool.and_eq_true, beq_iff_eq, Bool.false_eq_true] at hd
    rename_i fields
    obtain ⟨hd1, hd2⟩ := hd
    split at ho
    · rename_i fo fsz hf
      rw [← hd1, List.getElem?_map] at hf
      cases hfx : fields.toList[f]? with
      | none => rw [hfx] at hf; cases hf
      | some fx =>
        rw [hfx] at hf
        simp at hf
        obtain ⟨hfo, _⟩ := hf
        have hfa : fields[f]? = some fx := by simpa using hfx
        have hne : P.cellsOf fx.type ≠ 0 := by simpa using List.all_eq_true.1 hd2 fx (List.mem_of_getElem? hfx)
        have hsz : (sizeOf fx.type).run P w = .ok (P.cellsOf fx.type) w := by
          unfold Program.cellsOf at hne ⊢
          cases hi : P.info? fx.type with
          | none => simp [hi] at hne
          | some i => simp [sizeOf, typeInfo, hi]
        have run : ∀ b o, (Instr.fieldAt t (.pointer (some ⟨b, o, none⟩)) f).run P w = .ok (.pointer (some ⟨b, o + fo, none⟩)) w := by
          intro b o
          simp [Instr.fieldAt, run_underlying ok.und, hfa, Instr.sureAddr, fieldPlace, hsz, hne, addr_add, hfo]
        split at ho
        · rename_i l off
          split at ho
          · rename_i cells hl
            obtain ⟨rfl, rfl⟩ := Prod.mk.inj (Option.some.inj ho)
            simp only [RepAV, RepAC] at hu ⊢
            obtain ⟨h1, B, hB, hq⟩ := hu
            rw [hl] at hB
            obtain rfl := Option.some.inj hB
            simp only [okPtrB] at hq
            subst hq
            exact ⟨_, run _ _, rfl, _, hl, rfl⟩
          · cases ho
        · rename_i l n i off
          split at ho
          · rename_i e sz rows fz hl
            split at ho
            · rename_i hn
              obtain ⟨rfl, rfl⟩ := Prod.mk.inj (Option.some.inj ho)
              simp only [RepAV, RepAC] at hu ⊢
              obtain ⟨h1, B, hB, hq⟩ := hu
              rw [hl] at hB
              obtain rfl := Option.some.inj hB
              simp only [okEpB] at hq
              obtain ⟨hi, b, cap, hhd, rfl⟩ := hq.2 hn
              exact ⟨_, run _ _, rfl, _, hl, by simp only [okEpB]; exact ⟨hq.1, fun _ => ⟨hi, b, cap, hhd, by rw [Nat.add_assoc]⟩⟩⟩
            · cases ho
          · cases ho
        · rename_i cs
          obtain ⟨rfl, rfl⟩ := Prod.mk.inj (Option.some.inj ho)
          simp only [RepAV, RepAC] at hu ⊢
          obtain ⟨b, o, rfl, hc⟩ := hu
          refine ⟨_, run _ _, b, o + fo, rfl, ?_⟩
          rcases RdCells.drop fo cs o hc with h | h
          · exact h
          · omega
        · cases ho
    · cases ho
  · cases ho

theorem indexAddrA_sound (hT : TabOk P tab) (h : Sim w0 M0 F0 F g s a w) {t : TypeId} {x i : AV} {u1 u2 : Value} (h1 : RepAV w F s.lb g x u1) (h2 : RepAV w F s.lb g i u2) {pr : Prop} {v : AV} (ho : indexAddrA tab s.lb t x i = some (pr, v)) (hp : pr) :
    ∃ y, (Instr.indexAt t u1 u2).run P w = .ok y w ∧ RepAV w F s.lb g v y := by
  unfold indexAddrA at ho
  split at ho
  · rename_i e _ _ _ n ht
    obtain ⟨info, z, d, ok⟩ := hT _ _ ht
    have hd := ok.desc
    cases d <;> simp only [tyMatch, beq_iff_eq, Bool.false_eq_true] at hd
    subst hd
    obtain rfl := h2.c_v
    have run : ∀ {ti info z d} (_ : TI.Ok P e ti info z d) b o len cap, 0 ≤ n → n < (len : Nat) → (Instr.indexAt t (.slice (some ⟨b, o, none⟩) len cap) (.int .i64 n)).run P w = .ok (.pointer (some ⟨b, o + n.toNat * ti.size, none⟩)) w := by
      intro ti info z d oke b o len cap h0 hlt
      simp [Instr.indexAt, asIntOf, run_underlying ok.und, h0, hlt, sizeOf, typeInfo, oke.inf, addr_add, oke.size]
    split at ho
    · rename_i ti rows hte
      obtain ⟨info2, z2, d2, ok2⟩ := hT _ _ hte
      obtain ⟨rfl, rfl⟩ := Prod.mk.inj (Option.some.inj ho)
      obtain ⟨hp1, hp2, hp3⟩ := hp
      simp only [RepAV, RepAC, Rd] at h1
      obtain ⟨A, cap, sz, rfl, hle, hcm, hsz, hA, hB⟩ := h1
      cases A with
      | none => have := hA rfl; omega
      | some A =>
        obtain ⟨hs, hr⟩ := hB A rfl
        have hs := hs (by omega)
        obtain ⟨b, o, sp⟩ := A
        simp at hs; subst hs
        obtain ⟨hg1, hg2⟩ := RdRows.get rows o n.toNat hr (by omega)
        refine ⟨_, run ok2 b o _ cap hp1 hp2, ?_⟩
        simp only [RepAV, RepAC]
        refine ⟨b, _, rfl, ?_⟩
        rw [← hp3, hg2]
        exact hg1
    · rename_i ti l m hte
      obtain ⟨info2, z2, d2, ok2⟩ := hT _ _ hte
      split at ho
      · rename_i e' sz rows fz hl
        split at ho
        · rename_i hn
          obtain ⟨hn, hsz⟩ := hn
          obtain ⟨rfl, rfl⟩ := Prod.mk.inj (Option.some.inj ho)
          obtain ⟨hp1, hp2⟩ := hp
          simp only [RepAV, RepAC] at h1 ⊢
          obtain ⟨_, B, hB, hq⟩ := h1
          rw [hl] at hB
          obtain rfl := Option.some.inj hB
          simp only [okOwnB] at hq
          rw [hq.2 hn]
          obtain ⟨_, _, xs, S, hown, _⟩ := h.lb l _ hl
          rcases hown.2 with ⟨_, k2⟩ | ⟨gg, cap, cur, k1, _⟩
          · omega
          · rw [k1, ← hn]
            refine ⟨_, run ok2 gg 0 m cap hp1 (by omega), rfl, _, hl, ?_⟩
            simp only [okEpB]
            exact ⟨hq.1, fun _ => ⟨by omega, gg, cap, rfl, by rw [hsz]; simp⟩⟩
        · cases ho
      · cases ho
    · cases ho
  · cases ho

theorem indexA_sound (hT : TabOk P tab) {t : TypeId} {x i : AV} {u1 u2 : Value} (h1 : RepAV w F lb g x u1) (h2 : RepAV w F lb g i u2) {pr : Prop} {v : AV} (ho : indexA (tab t) x i = some (pr, v)) (hp : pr) :
    ∃ y, (Instr.index t u1 u2).run P w = .ok y w ∧ RepAV w F lb g v y := by
  unfold indexA at ho
  split at ho
  · rename_i str n ht
    obtain ⟨info, z, d, ok⟩ := hT _ _ ht
    have hd := ok.desc
    cases d <;> simp only [tyMatch, Bool.false_eq_true] at hd
    obtain ⟨rfl, rfl⟩ := Prod.mk.inj (Option.some.inj ho)
    obtain rfl := h1.c_v
    obtain rfl := h2.c_v
    obtain ⟨hp1, hp2⟩ := hp
    have hlt : n.toNat < str.size := by omega
    have he : str[n.toNat]? = some (str.data.getD n.toNat 0) := by
      have : n.toNat < str.data.size := hlt
      rw [getElem?_pos str n.toNat hlt]
      simp only [Array.getD, this, dite_true]
      rfl
    exact ⟨_, by simp [Instr.index, asIntOf, run_underlying ok.und, hp1, he], rep_v rfl⟩
  · cases ho

end Go.Ai
