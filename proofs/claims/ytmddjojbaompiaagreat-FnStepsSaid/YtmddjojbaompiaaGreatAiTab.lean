/- A program's table of types, computed from the program and then written out. -/
import Derived.Test.YtmddjojbaompiaaGreatAiOut
set_option linter.unusedVariables false
set_option linter.unusedSimpArgs false
namespace Go.Ai
open Go.RowKit
def acOf : Value → Option AC
 | .slice none 0 0 => some .nil
 | .slice _ _ _ => none
 | .agg _ => none
 | .tuple _ => none
 | v => some (.c (.v v))
theorem acOf_ok {v : Value} {a : AC} (h : acOf v = some a) : litV a = some v ∧ litOk a = true := by
 unfold acOf at h
 split at h
 ·obtain rfl := Option.some.inj h; exact ⟨rfl, rfl⟩
 ·cases h
 ·cases h
 ·cases h
 ·obtain rfl := Option.some.inj h
  refine ⟨rfl, ?_⟩
  rename_i h1 h2 h3 h4
  cases v <;> first | rfl | exact absurd rfl (h2 _ _ _) | exact absurd rfl (h3 _) | exact absurd rfl (h4 _)
def acsOf : List Value → Option (List AC)
 | [] => some []
 | v :: vs => match acOf v, acsOf vs with
  | some a, some as => some (a :: as)
  | _, _ => none
theorem acsOf_ok : ∀ (vs : List Value) (as : List AC), acsOf vs = some as → vs.map some = as.map litV ∧ as.all litOk = true
 | [], as, h => by obtain rfl := Option.some.inj h; exact ⟨rfl, rfl⟩
 | v :: vs, as, h => by
  simp only [acsOf] at h
  split at h
  ·rename_i a as' h1 h2
   obtain rfl := Option.some.inj h
   obtain ⟨k1, k2⟩ := acOf_ok h1
   obtain ⟨k3, k4⟩ := acsOf_ok vs as' h2
   exact ⟨by simp [k1, k3], by simp [k2, k4]⟩
  ·cases h
def ckOf (P : Program) (t : TypeId) : Option CK :=
 match P.underlying t with
 | some (.int k) => some (.int k)
 | some .string => some .str
 | some .bool => some .bool
 | _ => none
theorem ckOf_ok {P : Program} {t : TypeId} {c : CK} (h : ckOf P t = some c) : CkOk P t c := by
 unfold ckOf at h
 split at h
 ·rename_i k hk; obtain rfl := Option.some.inj h; exact hk
 ·rename_i hk; obtain rfl := Option.some.inj h; exact hk
 ·rename_i hk; obtain rfl := Option.some.inj h; exact hk
 ·cases h
def cmpsOf (P : Program) : List Field → Option (List (Nat × CK))
 | [] => some []
 | f :: fs => if f.name = "_" then none else match ckOf P f.type, cmpsOf P fs with
  | some c, some l => some ((f.offset, c) :: l)
  | _, _ => none
theorem cmpsOf_ok {P : Program} : ∀ (fs : List Field) (l : List (Nat × CK)), cmpsOf P fs = some l → CmpFs P fs l
 | [], l, h => by obtain rfl := Option.some.inj h; trivial
 | f :: fs, l, h => by
  simp only [cmpsOf] at h
  split at h
  ·cases h
  ·rename_i hn
   split at h
   ·rename_i c l' hc hl
    obtain rfl := Option.some.inj h
    exact ⟨hn, rfl, ckOf_ok hc, cmpsOf_ok fs l' hl⟩
   ·cases h
def cmpOf (P : Program) (t : TypeId) (fields : Array Field) : Option (List (Nat × CK)) :=
 if P.stoodInHeld t = false ∧ P.eqGuardType P.depth t = false then cmpsOf P fields.toList else none
def tyOf (P : Program) (t : TypeId) : TypeDesc → Option TyD
 | .int k => some (.int k)
 | .bool => some .bool
 | .string => some .str
 | .slice e => some (.slice e)
 | .struct fields => if fields.toList.all (fun f => decide (P.cellsOf f.type ≠ 0)) then some (.struct (fields.toList.map fun f => (f.offset, P.cellsOf f.type)) (cmpOf P t fields)) else none
 | .pointer _ => some .ptr
 | .func _ _ _ => some .func
 | .interface _ => some .iface
 | _ => none
theorem tyOf_ok {P : Program} {t : TypeId} {d : TypeDesc} {x : TyD} (h : tyOf P t d = some x) : tyMatch P x d = true := by
 unfold tyOf at h
 split at h <;> try (cases h; done)
 all_goals try (obtain rfl := Option.some.inj h; simp [tyMatch]; done)
 split at h
 ·rename_i hq
  obtain rfl := Option.some.inj h
  simp only [tyMatch, beq_self_eq_true, Bool.true_and]
  exact hq
 ·cases h
theorem tyOf_cmp {P : Program} {t : TypeId} {d : TypeDesc} {x : TyD} (hd : P.underlying t = some d) (h : tyOf P t d = some x) : ∀ fs l, x = .struct fs (some l) → CmpOk P t l := by
 intro fs l hx
 subst hx
 unfold tyOf at h
 split at h <;> try (simp at h; done)
 split at h
 ·rename_i fields _
  simp only [Option.some.injEq, TyD.struct.injEq] at h
  obtain ⟨_, h⟩ := h
  unfold cmpOf at h
  split at h
  ·rename_i hq
   exact ⟨hq.1, hq.2, fields, hd, cmpsOf_ok _ _ h⟩
  ·cases h
 ·cases h
def tiOf (P : Program) (t : TypeId) : Option TI :=
 match P.info? t, P.underlying t with
 | some info, some d => match info.zero, tyOf P t d with
  | some z, some ty => match acsOf z.cells.toList with
   | some as => if as.length = info.size then some ⟨ty, info.size, info.bytes, as⟩ else none
   | none => none
  | _, _ => none
 | _, _ => none
theorem tiOf_ok {P : Program} {t : TypeId} {ti : TI} (h : tiOf P t = some ti) : ∃ info z d, TI.Ok P t ti info z d := by
 unfold tiOf at h
 split at h
 ·rename_i info d h1 h2
  split at h
  ·rename_i z ty h3 h4
   split at h
   ·rename_i as h5
    split at h
    ·rename_i h6
     obtain rfl := Option.some.inj h
     obtain ⟨k1, k2⟩ := acsOf_ok _ _ h5
     exact ⟨info, z, d, h1, rfl, rfl, h3, k1, k2, h6, h2, tyOf_ok h4, tyOf_cmp h2 h4⟩
    ·cases h
   ·cases h
  ·cases h
 ·cases h
def tabOf (L : List (Nat × TI)) (t : TypeId) : Option TI :=
 match L with
 | [] => none
 | (k, i) :: L => if t = k then some i else tabOf L t
def allTab (P : Program) : List (Nat × TI) → Prop
 | [] => True
 | (k, i) :: L => tiOf P k = some i ∧ allTab P L
theorem tabOk_of (P : Program) : ∀ (L : List (Nat × TI)), allTab P L → TabOk P (tabOf L)
 | [], _, t, ti, h => by cases h
 | (k, i) :: L, hL, t, ti, h => by
  simp only [tabOf] at h
  split at h
  ·rename_i e
   subst e
   obtain rfl := Option.some.inj h
   exact tiOf_ok hL.1
  ·exact tabOk_of P L hL.2 t ti h
end Go.Ai
