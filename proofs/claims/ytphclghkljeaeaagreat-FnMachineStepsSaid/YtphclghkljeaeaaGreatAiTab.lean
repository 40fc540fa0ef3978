/- A program's table of types, computed from the program and then written out. -/
import Derived.Test.YtphclghkljeaeaaGreatAiOut
set_option linter.unusedVariables false
set_option linter.unusedSimpArgs false
namespace Go.Ai
open Go.RowKit
def bR1 : Value → Option AC
 | .slice none 0 0 => some .nil
 | .slice _ _ _ => none
 | .agg _ => none
 | .tuple _ => none
 | v => some (.c (.v v))
theorem vX1 {v : Value} {a : AC} (h : bR1 v = some a) : xE1 a = some v ∧ te0 a = true := by
 unfold bR1 at h
 split at h
 ·obtain rfl := Option.some.inj h; exact ⟨rfl, rfl⟩
 ·cases h
 ·cases h
 ·cases h
 ·obtain rfl := Option.some.inj h
  refine ⟨rfl, ?_⟩
  rename_i h1 h2 h3 h4
  cases v <;> first | rfl | exact absurd rfl (h2 _ _ _) | exact absurd rfl (h3 _) | exact absurd rfl (h4 _)
def jW1 : List Value → Option (List AC)
 | [] => some []
 | v :: vs => match bR1 v, jW1 vs with
  | some a, some as => some (a :: as)
  | _, _ => none
theorem rI0 : ∀ (vs : List Value) (as : List AC), jW1 vs = some as → vs.map some = as.map xE1 ∧ as.all te0 = true
 | [], as, h => by obtain rfl := Option.some.inj h; exact ⟨rfl, rfl⟩
 | v :: vs, as, h => by
  simp only [jW1] at h
  split at h
  ·rename_i a as' h1 h2
   obtain rfl := Option.some.inj h
   obtain ⟨k1, k2⟩ := vX1 h1
   obtain ⟨k3, k4⟩ := rI0 vs as' h2
   exact ⟨by simp [k1, k3], by simp [k2, k4]⟩
  ·cases h
def bU1 (P : Program) (t : TypeId) : Option CK :=
 match P.underlying t with
 | some (.int k) => some (.int k)
 | some .string => some .str
 | some .bool => some .bool
 | _ => none
theorem vf1 {P : Program} {t : TypeId} {c : CK} (h : bU1 P t = some c) : vV1 P t c := by
 unfold bU1 at h
 split at h
 ·rename_i k hk; obtain rfl := Option.some.inj h; exact hk
 ·rename_i hk; obtain rfl := Option.some.inj h; exact hk
 ·rename_i hk; obtain rfl := Option.some.inj h; exact hk
 ·cases h
def rW0 (P : Program) : List Field → Option (List (Nat × CK))
 | [] => some []
 | f :: fs => if f.name = "_" then none else match bU1 P f.type, rW0 P fs with
  | some c, some l => some ((f.offset, c) :: l)
  | _, _ => none
theorem dz0 {P : Program} : ∀ (fs : List Field) (l : List (Nat × CK)), rW0 P fs = some l → jP1 P fs l
 | [], l, h => by obtain rfl := Option.some.inj h; trivial
 | f :: fs, l, h => by
  simp only [rW0] at h
  split at h
  ·cases h
  ·rename_i hn
   split at h
   ·rename_i c l' hc hl
    obtain rfl := Option.some.inj h
    exact ⟨hn, rfl, vf1 hc, dz0 fs l' hl⟩
   ·cases h
def pZ1 (P : Program) (t : TypeId) (fields : Array Field) : Option (List (Nat × CK)) :=
 if P.stoodInHeld t = false ∧ P.eqGuardType P.depth t = false then rW0 P fields.toList else none
def fW1 (P : Program) (t : TypeId) : TypeDesc → Option TyD
 | .int k => some (.int k)
 | .bool => some .bool
 | .string => some .str
 | .slice e => some (.slice e)
 | .struct fields => if fields.toList.all (fun f => decide (P.cellsOf f.type ≠ 0) && (P.cellsOf f.type == 1 || bS1 P f.type)) then some (.struct (fields.toList.map fun f => (f.offset, P.cellsOf f.type)) (pZ1 P t fields)) else none
 | .pointer _ => some .ptr
 | .func _ _ _ => some .func
 | .interface _ => some .iface
 | _ => none
theorem xn1 {P : Program} {t : TypeId} {d : TypeDesc} {x : TyD} (h : fW1 P t d = some x) : zb0 P x d = true := by
 unfold fW1 at h
 split at h <;> try (cases h; done)
 all_goals try (obtain rfl := Option.some.inj h; simp [zb0]; done)
 split at h
 ·rename_i hq
  obtain rfl := Option.some.inj h
  simp only [zb0, beq_self_eq_true, Bool.true_and]
  exact hq
 ·cases h
theorem km1 {P : Program} {t : TypeId} {d : TypeDesc} {x : TyD} (hd : P.underlying t = some d) (h : fW1 P t d = some x) : ∀ fs l, x = .struct fs (some l) → vW1 P t l := by
 intro fs l hx
 subst hx
 unfold fW1 at h
 split at h <;> try (simp at h; done)
 split at h
 ·rename_i fields _
  simp only [Option.some.injEq, TyD.struct.injEq] at h
  obtain ⟨_, h⟩ := h
  unfold pZ1 at h
  split at h
  ·rename_i hq
   exact ⟨hq.1, hq.2, fields, hd, dz0 _ _ h⟩
  ·cases h
 ·cases h
def nD1 (P : Program) (t : TypeId) : Option TI :=
 match P.info? t, P.underlying t with
 | some info, some d => match info.zero, fW1 P t d with
  | some z, some ty => match jW1 z.cells.toList with
   | some as => if as.length = info.size then some ⟨ty, info.size, info.bytes, as⟩ else none
   | none => none
  | _, _ => none
 | _, _ => none
theorem xj1 {P : Program} {t : TypeId} {ti : TI} (h : nD1 P t = some ti) : ∃ info z d, TI.Ok P t ti info z d := by
 unfold nD1 at h
 split at h
 ·rename_i info d h1 h2
  split at h
  ·rename_i z ty h3 h4
   split at h
   ·rename_i as h5
    split at h
    ·rename_i h6
     obtain rfl := Option.some.inj h
     obtain ⟨k1, k2⟩ := rI0 _ _ h5
     exact ⟨info, z, d, h1, rfl, rfl, h3, k1, k2, h6, h2, xn1 h4, km1 h2 h4⟩
    ·cases h
   ·cases h
  ·cases h
 ·cases h
def kj1 (L : List (Nat × TI)) (t : TypeId) : Option TI :=
 match L with
 | [] => none
 | (k, i) :: L => if t = k then some i else kj1 L t
def ky1 (P : Program) : List (Nat × TI) → Prop
 | [] => True
 | (k, i) :: L => nD1 P k = some i ∧ ky1 P L
theorem sP0 (P : Program) : ∀ (L : List (Nat × TI)), ky1 P L → zT0 P (kj1 L)
 | [], _, t, ti, h => by cases h
 | (k, i) :: L, hL, t, ti, h => by
  simp only [kj1] at h
  split at h
  ·rename_i e
   subst e
   obtain rfl := Option.some.inj h
   exact xj1 hL.1
  ·exact sP0 P L hL.2 t ti h
end Go.Ai
