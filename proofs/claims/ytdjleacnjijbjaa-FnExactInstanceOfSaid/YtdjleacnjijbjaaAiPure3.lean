/- Reslicing, struct literals, and the pure operations together. -/
import Derived.Test.YtdjleacnjijbjaaAiPure2
namespace Go.Ai
set_option linter.unusedVariables false
set_option linter.unusedSimpArgs false
open Go.RowKit

variable {P : Program} {tab : Tab} {w0 : World} {M0 : Ms} {F0 F : Fz} {g : Gh} {s : St} {a : Act} {w : World} {lb : Lk}

theorem RdRows.len {b sz : Nat} : ∀ (rows : List (List C)) (o : Nat), RdRows w F b sz o rows → ∀ r, r ∈ rows → r.length = sz
  | [], _, _, _, hr => by cases hr
  | r :: rs, o, h, q, hq => by
    simp only [RdRows] at h
    rcases List.mem_cons.1 hq with rfl | hq
    · exact h.1
    · exact RdRows.len rs (o + sz) h.2.2 q hq
theorem RdRows.take {b sz : Nat} : ∀ (n : Nat) (rows : List (List C)) (o : Nat), RdRows w F b sz o rows → RdRows w F b sz o (rows.take n)
  | 0, _, _, _ => by simp [RdRows]
  | n + 1, [], _, _ => by simp [RdRows]
  | n + 1, r :: rs, o, h => by
    simp only [RdRows] at h
    simp only [List.take_succ_cons, RdRows]
    exact ⟨h.1, h.2.1, RdRows.take n rs (o + sz) h.2.2⟩
theorem RdRows.drop {b sz : Nat} : ∀ (n : Nat) (rows : List (List C)) (o : Nat), RdRows w F b sz o rows → RdRows w F b sz (o + n * sz) (rows.drop n)
  | 0, _, _, h => by simpa using h
  | n + 1, [], _, _ => by simp [RdRows]
  | n + 1, r :: rs, o, h => by
    simp only [RdRows] at h
    have := RdRows.drop n rs (o + sz) h.2.2
    rw [show o + (n + 1) * sz = o + sz + n * sz by rw [Nat.add_mul]; omega]
    simpa using this

theorem run_sliceBound {x : Int} {y : Nat} {code : BoundsCode} (h0 : 0 ≤ x) (h1 : x ≤ y) : (Instr.sliceBound (.int .i64 x) y code).run P w = .ok x.toNat w := by
  simp [Instr.sliceBound, asIntOf, h0, h1]

theorem run_sliceStr {t : TypeId} (ht : P.underlying t = some .string) (str : ByteArray) (lo hi : Option Int) (l h : Nat) (hl : match lo with | some x => 0 ≤ x ∧ x ≤ h ∧ x.toNat = l | none => l = 0) (hh : match hi with | some x => 0 ≤ x ∧ x ≤ str.size ∧ x.toNat = h | none => h = str.size) :
    (Instr.sliceAt t (.string str) (lo.map (Value.int .i64)) (hi.map (Value.int .i64)) none).run P w = .ok (.string (str.extract l h)) w := by
  have hb : (Instr.sliceBounds false str.size str.size (lo.map (Value.int .i64)) (hi.map (Value.int .i64)) none).run P w = .ok (l, h, str.size) w := by
    unfold Instr.sliceBounds
    cases hi with
    | none =>
      simp only at hh
      subst hh
      cases lo with
      | none => simp only at hl; subst hl; simp
      | some x => obtain ⟨h1, h2, h3⟩ := hl; simp [run_sliceBound h1 h2, h3]
    | some y =>
      obtain ⟨k1, k2, k3⟩ := hh
      cases lo with
      | none => simp only at hl; subst hl; simp [run_sliceBound k1 k2, k3]
      | some x => obtain ⟨h1, h2, h3⟩ := hl; subst k3; simp [run_sliceBound k1 k2, run_sliceBound h1 h2, h3]
  simp [Instr.sliceAt, Instr.slice, run_underlying ht, hb]

theorem run_sliceSl {t e : TypeId} {ti : TI} {info : TypeInfo} {z : Value} {d : TypeDesc} (ht : P.underlying t = some (.slice e)) (oke : TI.Ok P e ti info z d) (A : Option Addr) (len cap : Nat) (lo hi : Option Int) (l h : Nat) (hlc : len ≤ cap)
    (hl : match lo with | some x => 0 ≤ x ∧ x ≤ h ∧ x.toNat = l | none => l = 0) (hh : match hi with | some x => 0 ≤ x ∧ x ≤ len ∧ x.toNat = h | none => h = len) :
    (Instr.sliceAt t (.slice A len cap) (lo.map (Value.int .i64)) (hi.map (Value.int .i64)) none).run P w = .ok (.slice (if cap = l then A else A.map (·.add (l * ti.size))) (h - l) (cap - l)) w := by
  have hb : (Instr.sliceBounds true len cap (lo.map (Value.int .i64)) (hi.map (Value.int .i64)) none).run P w = .ok (l, h, cap) w := by
    unfold Instr.sliceBounds
    cases hi with
    | none =>
      simp only at hh
      subst hh
      cases lo with
      | none => simp only at hl; subst hl; simp
      | some x => obtain ⟨h1, h2, h3⟩ := hl; simp [run_sliceBound h1 h2, h3]
    | some y =>
      obtain ⟨k1, k2, k3⟩ := hh
      have k2' : y ≤ cap := by omega
      cases lo with
      | none => simp only at hl; subst hl; simp [run_sliceBound k1 k2', k3]
      | some x => obtain ⟨h1, h2, h3⟩ := hl; subst k3; simp [run_sliceBound k1 k2', run_sliceBound h1 h2, h3]
  simp [Instr.sliceAt, Instr.slice, run_underlying ht, hb, sizeOf, typeInfo, oke.inf, oke.size]

theorem rd_resliced {rows : List (List C)} {A : Option Addr} {cap sz l h size : Nat} (h2 : rows.length ≤ cap) (h3 : cap ≤ maxLen) (h4 : 0 < sz) (h5 : A = none → cap = 0)
    (h6 : ∀ a, A = some a → (0 < cap → a.spot = none) ∧ RdRows w F a.block sz a.off rows) (hlh : l ≤ h) (hhl : h ≤ rows.length) (hsz : (rows.take h).drop l ≠ [] → size = sz) :
    Rd w F (.sl ((rows.take h).drop l)) (.slice (if cap = l then A else A.map (·.add (l * size))) (h - l) (cap - l)) := by
  simp only [Rd]
  have hlen : ((rows.take h).drop l).length = h - l := by simp; omega
  rw [hlen]
  by_cases hem : (rows.take h).drop l = []
  · rw [hem] at hlen ⊢
    simp only [List.length_nil] at hlen
    refine ⟨_, cap - l, sz, rfl, by omega, by omega, h4, fun hq => ?_, fun a ha => ⟨fun hpos => ?_, by simp [RdRows]⟩⟩
    · split at hq
      · have := h5 hq; omega
      · cases A with
        | none => have := h5 rfl; omega
        | some A => cases hq
    · split at ha
      · exact (h6 a ha).1 (by omega)
      · cases A with
        | none => cases ha
        | some A =>
          simp at ha; subst ha
          have := (h6 A rfl).1 (by omega)
          unfold Addr.add; split
          · exact this
          · rfl
  · have hs := hsz hem
    subst hs
    refine ⟨_, cap - l, size, rfl, by omega, by omega, h4, fun hq => ?_, fun a ha => ?_⟩
    · split at hq
      · have := h5 hq; omega
      · cases A with
        | none => have := h5 rfl; omega
        | some A => cases hq
    · have hne : ¬ cap = l := fun hc => hem (List.eq_nil_of_length_eq_zero (by rw [hlen]; omega))
      rw [if_neg hne] at ha
      cases A with
      | none => cases ha
      | some A =>
        simp at ha; subst ha
        obtain ⟨k1, k2⟩ := h6 A rfl
        obtain ⟨b, o, sp⟩ := A
        have k1 := k1 (by omega)
        simp at k1; subst k1
        rw [addr_add]
        exact ⟨fun _ => rfl, RdRows.drop l _ o (RdRows.take h _ o k2)⟩

theorem sliceA_sound (hT : TabOk P tab) {t : TypeId} {x : AV} {lo hi : Option AV} {u : Value} {vl vh : Option Value} (hu : RepAV w F lb g x u)
    (hl : match lo, vl with | some l, some v => RepAV w F lb g l v | none, none => True | _, _ => False) (hh : match hi, vh with | some l, some v => RepAV w F lb g l v | none, none => True | _, _ => False)
    {pr : Prop} {v : AV} (ho : sliceA tab (tab t) x lo hi = some (pr, v)) (hp : pr) :
    ∃ y, (Instr.sliceAt t u vl vh none).run P w = .ok y w ∧ RepAV w F lb g v y := by
  unfold sliceA at ho
  split at ho
  · rename_i str l hr ht
    obtain ⟨info, z, d, ok⟩ := hT _ _ ht
    have hd := ok.desc
    cases d <;> simp only [tyMatch, Bool.false_eq_true] at hd
    obtain ⟨rfl, rfl⟩ := Prod.mk.inj (Option.some.inj ho)
    obtain rfl := hu.c_v
    cases vl with
    | none => exact hl.elim
    | some vl => cases vh with
      | none => exact hh.elim
      | some vh =>
        obtain rfl := RepAV.c_v hl
        obtain rfl := RepAV.c_v hh
        exact ⟨_, run_sliceStr ok.und str (some l) (some hr) l.toNat hr.toNat ⟨by omega, by omega, rfl⟩ ⟨by omega, by omega, rfl⟩, rep_v rfl⟩
  · rename_i str l ht
    obtain ⟨info, z, d, ok⟩ := hT _ _ ht
    have hd := ok.desc
    cases d <;> simp only [tyMatch, Bool.false_eq_true] at hd
    obtain ⟨rfl, rfl⟩ := Prod.mk.inj (Option.some.inj ho)
    obtain rfl := hu.c_v
    cases vh with
    | some vh => exact hh.elim
    | none => cases vl with
      | none => exact hl.elim
      | some vl =>
        obtain rfl := RepAV.c_v hl
        exact ⟨_, run_sliceStr ok.und str (some l) none l.toNat str.size ⟨by omega, by omega, rfl⟩ rfl, rep_v rfl⟩
  · rename_i str hr ht
    obtain ⟨info, z, d, ok⟩ := hT _ _ ht
    have hd := ok.desc
    cases d <;> simp only [tyMatch, Bool.false_eq_true] at hd
    obtain ⟨rfl, rfl⟩ := Prod.mk.inj (Option.some.inj ho)
    obtain rfl := hu.c_v
    cases vl with
    | some vl => exact hl.elim
    | none => cases vh with
      | none => exact hh.elim
      | some vh =>
        obtain rfl := RepAV.c_v hh
        exact ⟨_, run_sliceStr ok.und str none (some hr) 0 hr.toNat rfl ⟨by omega, by omega, rfl⟩, rep_v rfl⟩
  · rename_i e _ _ _ rows ht
    obtain ⟨info, z, d, ok⟩ := hT _ _ ht
    have hd := ok.desc
    cases d <;> simp only [tyMatch, beq_iff_eq, Bool.false_eq_true] at hd
    subst hd
    split at ho
    · rename_i ti hte
      obtain ⟨info2, z2, d2, ok2⟩ := hT _ _ hte
      simp only [RepAV, RepAC, Rd] at hu
      obtain ⟨A, cap, sz, rfl, h2, h3, h4, h5, h6⟩ := hu
      have hsz : ∀ l h, (∀ r, r ∈ rows → r.length = ti.size) → (rows.take h).drop l ≠ [] → ti.size = sz := by
        intro l h hal hne
        cases A with
        | none =>
          have := h5 rfl
          have : rows = [] := List.eq_nil_of_length_eq_zero (by omega)
          subst this; simp at hne
        | some A =>
          obtain ⟨r, hr⟩ := List.exists_mem_of_ne_nil _ hne
          have hr' := List.mem_of_mem_take (List.mem_of_mem_drop hr)
          rw [← hal r hr', RdRows.len rows _ (h6 A rfl).2 r hr']
      split at ho
      · rename_i l
        obtain ⟨rfl, rfl⟩ := Prod.mk.inj (Option.some.inj ho)
        cases vh with
        | some vh => exact hh.elim
        | none => cases vl with
          | none => exact hl.elim
          | some vl =>
            obtain rfl := RepAV.c_v hl
            obtain ⟨hp1, hp2, hp3⟩ := hp
            have := rd_resliced (w := w) (F := F) (l := l.toNat) (h := rows.length) (size := ti.size) h2 h3 h4 h5 h6 (by omega) (Nat.le_refl _) (hsz _ _ hp3)
            rw [List.take_length] at this
            exact ⟨_, run_sliceSl ok.und ok2 A rows.length cap (some l) none l.toNat rows.length h2 ⟨by omega, by omega, rfl⟩ rfl, by simpa only [RepAV, RepAC] using this⟩
      · rename_i h
        obtain ⟨rfl, rfl⟩ := Prod.mk.inj (Option.some.inj ho)
        cases vl with
        | some vl => exact hl.elim
        | none => cases vh with
          | none => exact hh.elim
          | some vh =>
            obtain rfl := RepAV.c_v hh
            obtain ⟨hp1, hp2, hp3⟩ := hp
            have := rd_resliced (w := w) (F := F) (l := 0) (h := h.toNat) (size := ti.size) h2 h3 h4 h5 h6 (by omega) (by omega) (hsz _ _ hp3)
            rw [List.drop_zero] at this
            exact ⟨_, run_sliceSl ok.und ok2 A rows.length cap none (some h) 0 h.toNat h2 rfl ⟨by omega, by omega, rfl⟩, by simpa only [RepAV, RepAC] using this⟩
      · rename_i l h
        obtain ⟨rfl, rfl⟩ := Prod.mk.inj (Option.some.inj ho)
        cases vl with
        | none => exact hl.elim
        | some vl => cases vh with
          | none => exact hh.elim
          | some vh =>
            obtain rfl := RepAV.c_v hl
            obtain rfl := RepAV.c_v hh
            obtain ⟨hp1, hp2, hp3, hp4⟩ := hp
            have := rd_resliced (w := w) (F := F) (l := l.toNat) (h := h.toNat) (size := ti.size) h2 h3 h4 h5 h6 (by omega) (by omega) (hsz _ _ hp4)
            exact ⟨_, run_sliceSl ok.und ok2 A rows.length cap (some l) (some h) l.toNat h.toNat h2 ⟨by omega, by omega, rfl⟩ ⟨by omega, by omega, rfl⟩, by simpa only [RepAV, RepAC] using this⟩
      · cases ho
    · cases ho
  · cases ho

end Go.Ai
