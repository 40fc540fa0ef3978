/- What an operation does depends on what it looks at alone. -/
import Derived.Test.YtdjleacnjijbjaaAiStep
namespace Go.Ai
set_option linter.unusedVariables false
set_option linter.unusedSimpArgs false
open Go.RowKit

variable {P : Program} {tab : Tab}

def AC.refs : AC → List Nat
  | .own l _ => [l]
  | .ptr l _ => [l]
  | .ep l _ _ _ => [l]
  | .tk l _ => [l]
  | _ => []
def AV.refs : AV → List Nat
  | .one a => a.refs
  | .agg as => as.flatMap AC.refs
  | _ => []

/-- The same block but for its being frozen. -/
def eqv (a b : Option LB) : Prop := a = b ∨ ∃ e sz rows f f', a = some (.arr e sz rows f) ∧ b = some (.arr e sz rows f')
theorem eqv.refl (a : Option LB) : eqv a a := .inl rfl
theorem eqv.symm {a b : Option LB} (h : eqv a b) : eqv b a := by
  rcases h with h | ⟨e, sz, rows, f, f', h1, h2⟩
  · exact .inl h.symm
  · exact .inr ⟨e, sz, rows, f', f, h2, h1⟩

theorem loadA_congr {lb lb' : Lk} {t : TypeId} {p : AV} (h : ∀ l, l ∈ p.refs → eqv (lb l) (lb' l)) : loadA tab lb' t p = loadA tab lb t p := by
  unfold loadA
  cases tab t with
  | none => cases p <;> rfl
  | some ti =>
    cases p with
    | one a =>
      cases a with
      | ptr l off =>
        rcases h l (by simp [AV.refs, AC.refs]) with he | ⟨e, sz, rows, f, f', h1, h2⟩
        · simp only [he]
        · simp only [h1, h2]
      | ep l n i off =>
        rcases h l (by simp [AV.refs, AC.refs]) with he | ⟨e, sz, rows, f, f', h1, h2⟩
        · simp only [he]
        · simp only [h1, h2]
      | _ => rfl
    | _ => rfl

theorem lenA_congr {lb lb' : Lk} {t : Option TI} {p : AV} (h : ∀ l, l ∈ p.refs → eqv (lb l) (lb' l)) : lenA lb' t p = lenA lb t p := by
  unfold lenA
  split <;> try rfl
  · rename_i l n
    rcases h l (by simp [AV.refs, AC.refs]) with he | ⟨e, sz, rows, f, f', h1, h2⟩
    · simp only [he]
    · simp only [h1, h2]
  · rename_i k i
    rcases h k (by simp [AV.refs, AC.refs]) with he | ⟨e, sz, rows, f, f', h1, h2⟩
    · simp only [he]
    · simp only [h1, h2]

theorem fieldAddrA_congr {lb lb' : Lk} {t : Option TI} {p : AV} {f : Nat} (h : ∀ l, l ∈ p.refs → eqv (lb l) (lb' l)) : fieldAddrA lb' t p f = fieldAddrA lb t p f := by
  unfold fieldAddrA
  split <;> try rfl
  split <;> try rfl
  cases p with
  | one a =>
    cases a with
    | ptr l off =>
      rcases h l (by simp [AV.refs, AC.refs]) with he | ⟨e, sz, rows, f, f', h1, h2⟩
      · simp only [he]
      · simp only [h1, h2]
    | ep l n i off =>
      rcases h l (by simp [AV.refs, AC.refs]) with he | ⟨e, sz, rows, f, f', h1, h2⟩
      · simp only [he]
      · simp only [h1, h2]
    | _ => rfl
  | _ => rfl

theorem indexAddrA_congr {lb lb' : Lk} {t : TypeId} {p i : AV} (h : ∀ l, l ∈ p.refs → eqv (lb l) (lb' l)) : indexAddrA tab lb' t p i = indexAddrA tab lb t p i := by
  unfold indexAddrA
  split <;> try rfl
  split <;> try rfl
  rename_i l n _
  rcases h l (by simp [AV.refs, AC.refs]) with he | ⟨e, sz, rows, f, f', h1, h2⟩
  · simp only [he]
  · simp only [h1, h2]

theorem convA_congr {lb lb' : Lk} {t t' : TypeId} {p : AV} (h : ∀ l, l ∈ p.refs → eqv (lb l) (lb' l)) : convA tab lb' t t' p = convA tab lb t t' p := by
  unfold convA
  split <;> try rfl
  rename_i l n _ _
  rcases h l (by simp [AV.refs, AC.refs]) with he | ⟨e, sz, rows, f, f', h1, h2⟩
  · simp only [he]
  · simp only [h1, h2]

def tmpsOf (xs : Array Operand) : List Tmp := xs.toList.filterMap fun | .tmp t => some t | _ => none

theorem opv_same {s s' : St} {xs : Array Operand} (h : ∀ t, t ∈ tmpsOf xs → s'.sl t = s.sl t) {x : Operand} (hx : x ∈ xs.toList) : opv s' x = opv s x := by
  cases x with
  | tmp t => exact h t (by simp only [tmpsOf, List.mem_filterMap]; exact ⟨.tmp t, hx, rfl⟩)
  | _ => rfl

/-- Operations that touch no memory. -/
def memfree (o : Oper) : Bool :=
  match o.op with
  | .move _ | .assign _ | .pick _ _ _ | .build _ _ | .binOp _ _ _ _ _ | .unOp _ _ _ | .extract _ _ => true
  | _ => false
/-- Operations that write memory. -/
def strong (o : Oper) : Bool :=
  match o.op with
  | .store _ _ _ => true
  | .call c => (match c.callee with | .builtin _ => (match c.callee with | .builtin .len => false | .builtin .max => false | _ => true) | _ => false)
  | _ => false

theorem pureF_congr {s s' : St} {o : Oper} (hs : ∀ t, t ∈ tmpsOf o.op.operands → s'.sl t = s.sl t) (hl : ∀ x, x ∈ o.op.operands.toList → ∀ l, l ∈ (opv s x).refs → eqv (s.lb l) (s'.lb l)) :
    pureF tab o s' = pureF tab o s := by
  have O : ∀ x, x ∈ o.op.operands.toList → opv s' x = opv s x := fun x hx => opv_same hs hx
  unfold pureF
  split
  · rename_i x hop; rw [O x (by simp [hop, Op.operands])]
  · rename_i x hop; rw [O x (by simp [hop, Op.operands])]
  · rename_i c x y hop; rw [O c (by simp [hop, Op.operands]), O x (by simp [hop, Op.operands]), O y (by simp [hop, Op.operands])]
  · rename_i t parts hop
    have : (parts.toList.map fun (i, x) => (i, opv s' x)) = (parts.toList.map fun (i, x) => (i, opv s x)) := by
      apply List.map_congr_left
      rintro ⟨i, x⟩ hp
      simp only
      rw [O x (by simp only [hop, Op.operands, List.mem_map]; exact ⟨(i, x), hp, rfl⟩)]
    rw [this]
  · rename_i t x hop
    have hx : x ∈ o.op.operands.toList := by simp [hop, Op.operands]
    rw [O x hx]; exact loadA_congr (hl x hx)
  · rename_i op t x y t' hop; rw [O x (by simp [hop, Op.operands]), O y (by simp [hop, Op.operands])]
  · rename_i t x hop; rw [O x (by simp [hop, Op.operands])]
  · rename_i t x f hop
    have hx : x ∈ o.op.operands.toList := by simp [hop, Op.operands]
    rw [O x hx]; exact fieldAddrA_congr (hl x hx)
  · rename_i t x i hop
    have hx : x ∈ o.op.operands.toList := by simp [hop, Op.operands]
    rw [O x hx, O i (by simp [hop, Op.operands])]; exact indexAddrA_congr (hl x hx)
  · rename_i t x i hop
    rw [O x (by simp [hop, Op.operands]), O i (by simp [hop, Op.operands])]
  · rename_i t x lo hi hop
    rw [O x (by simp [hop, Op.operands])]
    have h1 : lo.map (opv s') = lo.map (opv s) := by
      cases lo with
      | none => rfl
      | some y => simp only [Option.map_some]; rw [O y (by simp [hop, Op.operands])]
    have h2 : hi.map (opv s') = hi.map (opv s) := by
      cases hi with
      | none => rfl
      | some y => simp only [Option.map_some]; rw [O y (by simp [hop, Op.operands])]
    rw [h1, h2]
  · rename_i t t' x hop
    have hx : x ∈ o.op.operands.toList := by simp [hop, Op.operands]
    rw [O x hx]; exact convA_congr (hl x hx)
  · rename_i x i hop; rw [O x (by simp [hop, Op.operands])]
  · rename_i c hop
    have C : ∀ x, x ∈ c.args.toList → x ∈ o.op.operands.toList := fun x hx => by
      simp only [hop, Op.operands, Call.operands, Array.toList_append, List.mem_append]; exact .inr hx
    unfold callPure
    split
    · split
      · rename_i x t ha ht
        have hx := C x (by simp [ha])
        rw [O x hx]; exact lenA_congr (hl x hx)
      · rfl
    · split
      · rename_i x y ha
        rw [O x (C x (by simp [ha])), O y (C y (by simp [ha]))]
      · rfl
    · rfl
  · rfl

/-- A weak operation: what it does depends on its operands' slots and, but for frozenness, on the blocks that they name. -/
theorem outF_congr {s s' : St} {o : Oper} (hw : strong o = false) (hs : ∀ t, t ∈ tmpsOf o.op.operands → s'.sl t = s.sl t) (hl : ∀ x, x ∈ o.op.operands.toList → ∀ l, l ∈ (opv s x).refs → eqv (s.lb l) (s'.lb l)) :
    outF tab o s' = outF tab o s := by
  have O : ∀ x, x ∈ o.op.operands.toList → opv s' x = opv s x := fun x hx => opv_same hs hx
  have hpure := pureF_congr (tab := tab) hs hl
  unfold outF
  split
  · rfl
  · rename_i t x hop; rw [O x (by simp [hop, Op.operands])]
  · rename_i t len parts hop
    have : (parts.toList.map fun (i, x) => (i, opv s' x)) = (parts.toList.map fun (i, x) => (i, opv s x)) := by
      apply List.map_congr_left
      rintro ⟨i, x⟩ hp
      simp only
      rw [O x (by simp only [hop, Op.operands, List.mem_map]; exact ⟨(i, x), hp, rfl⟩)]
    rw [this]
  · rename_i t x y hop; rw [O x (by simp [hop, Op.operands]), O y (by simp [hop, Op.operands])]
  · rename_i t p x hop; simp [strong, hop] at hw
  · rename_i c hop
    unfold callF
    split
    · rename_i hc; simp [strong, hop, hc] at hw
    · unfold pureF at hpure
      simp only [hop] at hpure
      rw [hpure]
  · rw [hpure]

/-- Any operation, the memory being the same. -/
theorem outF_slots {s s' : St} {o : Oper} (hs : ∀ t, t ∈ tmpsOf o.op.operands → s'.sl t = s.sl t) (hlb : s'.lb = s.lb) : outF tab o s' = outF tab o s := by
  have O : ∀ x, x ∈ o.op.operands.toList → opv s' x = opv s x := fun x hx => opv_same hs hx
  by_cases hw : strong o = false
  · exact outF_congr hw hs (fun x _ l _ => by rw [hlb]; exact eqv.refl _)
  · have hpure := pureF_congr (tab := tab) hs (fun x _ l _ => by rw [hlb]; exact eqv.refl _)
    unfold outF
    split
    · rfl
    · rename_i t x hop; exact absurd (by simp [strong, hop]) hw
    · rename_i t len parts hop; exact absurd (by simp [strong, hop]) hw
    · rename_i t x y hop; exact absurd (by simp [strong, hop]) hw
    · rename_i t p x hop; rw [O p (by simp [hop, Op.operands]), O x (by simp [hop, Op.operands]), hlb]
    · rename_i c hop
      have C : ∀ x, x ∈ c.args.toList → x ∈ o.op.operands.toList := fun x hx => by
        simp only [hop, Op.operands, Call.operands, Array.toList_append, List.mem_append]; exact .inr hx
      unfold callF
      split
      · split
        · rename_i x y t t' ha ht
          rw [O x (C x (by simp [ha])), O y (C y (by simp [ha])), hlb]
        · rfl
      · unfold pureF at hpure
        simp only [hop] at hpure
        rw [hpure]
    · rw [hpure]

/-- Operations that touch no memory: only the slots count, and a slot is all that they set. -/
theorem outF_free {s s' : St} {o : Oper} (hw : memfree o = true) (hs : ∀ t, t ∈ tmpsOf o.op.operands → s'.sl t = s.sl t) : outF tab o s' = outF tab o s := by
  have O : ∀ x, x ∈ o.op.operands.toList → opv s' x = opv s x := fun x hx => opv_same hs hx
  unfold outF
  split
  · rfl
  · rename_i t x hop; simp [memfree, hop] at hw
  · rename_i t len parts hop; simp [memfree, hop] at hw
  · rename_i t x y hop; simp [memfree, hop] at hw
  · rename_i t p x hop; simp [memfree, hop] at hw
  · rename_i c hop; simp [memfree, hop] at hw
  · unfold pureF
    split
    · rename_i x hop; rw [O x (by simp [hop, Op.operands])]
    · rename_i x hop; rw [O x (by simp [hop, Op.operands])]
    · rename_i c x y hop; rw [O c (by simp [hop, Op.operands]), O x (by simp [hop, Op.operands]), O y (by simp [hop, Op.operands])]
    · rename_i t parts hop
      have : (parts.toList.map fun (i, x) => (i, opv s' x)) = (parts.toList.map fun (i, x) => (i, opv s x)) := by
        apply List.map_congr_left
        rintro ⟨i, x⟩ hp
        simp only
        rw [O x (by simp only [hop, Op.operands, List.mem_map]; exact ⟨(i, x), hp, rfl⟩)]
      rw [this]
    · rename_i t x hop; simp [memfree, hop] at hw
    · rename_i op t x y t' hop; rw [O x (by simp [hop, Op.operands]), O y (by simp [hop, Op.operands])]
    · rename_i t x hop; rw [O x (by simp [hop, Op.operands])]
    · rename_i t x f hop; simp [memfree, hop] at hw
    · rename_i t x i hop; simp [memfree, hop] at hw
    · rename_i t x i hop; simp [memfree, hop] at hw
    · rename_i t x lo hi hop; simp [memfree, hop] at hw
    · rename_i t t' x hop; simp [memfree, hop] at hw
    · rename_i x i hop; rw [O x (by simp [hop, Op.operands])]
    · rename_i c hop; simp [memfree, hop] at hw
    · rfl

end Go.Ai
