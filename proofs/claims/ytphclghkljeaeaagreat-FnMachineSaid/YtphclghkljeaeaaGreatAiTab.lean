/- A program's table of types, computed from the program and then written out. -/
import Derived.Test.YtphclghkljeaeaaGreatAiOut
set_option linter.unusedVariables false
set_option linter.unusedSimpArgs false
namespace Go.Ai
open Go.RowKit
def dX1 : Value → Option AC
 | .slice none 0 0 => some .nil
 | .slice _ _ _ => none
 | .agg _ => none
 | .tuple _ => none
 | v => some (.c (.v v))
theorem pH1 {v : Value} {a : AC} (h : dX1 v = some a) : pw1 a = some v ∧ qC1 a = true := by
 unfold dX1 at h
 split at h
 ·obtain rfl := Option.some.inj h; exact ⟨rfl, rfl⟩
 ·cases h
 ·cases h
 ·cases h
 ·obtain rfl := Option.some.inj h
  refine ⟨rfl, ?_⟩
  rename_i h1 h2 h3 h4
  cases v <;> first | rfl | exact absurd rfl (h2 _ _ _) | exact absurd rfl (h3 _) | exact absurd rfl (h4 _)
def vD1 : List Value → Option (List AC)
 | [] => some []
 | v :: vs => match dX1 v, vD1 vs with
  | some a, some as => some (a :: as)
  | _, _ => none
theorem sN0 : ∀ (vs : List Value) (as : List AC), vD1 vs = some as → vs.map some = as.map pw1 ∧ as.all qC1 = true
 | [], as, h => by obtain rfl := Option.some.inj h; exact ⟨rfl, rfl⟩
 | v :: vs, as, h => by
  simp only [vD1] at h
  split at h
  ·rename_i a as' h1 h2
   obtain rfl := Option.some.inj h
   obtain ⟨k1, k2⟩ := pH1 h1
   obtain ⟨k3, k4⟩ := sN0 vs as' h2
   exact ⟨by simp [k1, k3], by simp [k2, k4]⟩
  ·cases h
def da1 (P : Program) (t : TypeId) : Option CK :=
 match P.underlying t with
 | some (.int k) => some (.int k)
 | some .string => some .str
 | some .bool => some .bool
 | _ => none
theorem pP1 {P : Program} {t : TypeId} {c : CK} (h : da1 P t = some c) : pE1 P t c := by
 unfold da1 at h
 split at h
 ·rename_i k hk; obtain rfl := Option.some.inj h; exact hk
 ·rename_i hk; obtain rfl := Option.some.inj h; exact hk
 ·rename_i hk; obtain rfl := Option.some.inj h; exact hk
 ·cases h
def si0 (P : Program) : List Field → Option (List (Nat × CK))
 | [] => some []
 | f :: fs => if f.name = "_" then none else match da1 P f.type, si0 P fs with
  | some c, some l => some ((f.offset, c) :: l)
  | _, _ => none
theorem gv0 {P : Program} : ∀ (fs : List Field) (l : List (Nat × CK)), si0 P fs = some l → kv1 P fs l
 | [], l, h => by obtain rfl := Option.some.inj h; trivial
 | f :: fs, l, h => by
  simp only [si0] at h
  split at h
  ·cases h
  ·rename_i hn
   split at h
   ·rename_i c l' hc hl
    obtain rfl := Option.some.inj h
    exact ⟨hn, rfl, pP1 hc, gv0 fs l' hl⟩
   ·cases h
def bZ1 (P : Program) (t : TypeId) (fields : Array Field) : Option (List (Nat × CK)) :=
 if P.stoodInHeld t = false ∧ P.eqGuardType P.depth t = false then si0 P fields.toList else none
def cZ1 (P : Program) (t : TypeId) : TypeDesc → Option TyD
 | .int k => some (.int k)
 | .bool => some .bool
 | .string => some .str
 | .slice e => some (.slice e)
 | .struct fields => if fields.toList.all (fun f => decide (P.cellsOf f.type ≠ 0)) then some (.struct (fields.toList.map fun f => (f.offset, P.cellsOf f.type)) (bZ1 P t fields)) else none
 | .pointer _ => some .ptr
 | .func _ _ _ => some .func
 | .interface _ => some .iface
 | _ => none
theorem fj1 {P : Program} {t : TypeId} {d : TypeDesc} {x : TyD} (h : cZ1 P t d = some x) : zf0 P x d = true := by
 unfold cZ1 at h
 split at h <;> try (cases h; done)
 all_goals try (obtain rfl := Option.some.inj h; simp [zf0]; done)
 split at h
 ·rename_i hq
  obtain rfl := Option.some.inj h
  simp only [zf0, beq_self_eq_true, Bool.true_and]
  exact hq
 ·cases h
theorem xW1 {P : Program} {t : TypeId} {d : TypeDesc} {x : TyD} (hd : P.underlying t = some d) (h : cZ1 P t d = some x) : ∀ fs l, x = .struct fs (some l) → pF1 P t l := by
 intro fs l hx
 subst hx
 unfold cZ1 at h
 split at h <;> try (simp at h; done)
 split at h
 ·rename_i fields _
  simp only [Option.some.injEq, TyD.struct.injEq] at h
  obtain ⟨_, h⟩ := h
  unfold bZ1 at h
  split at h
  ·rename_i hq
   exact ⟨hq.1, hq.2, fields, hd, gv0 _ _ h⟩
  ·cases h
 ·cases h
def sM1 (P : Program) (t : TypeId) : Option TI :=
 match P.info? t, P.underlying t with
 | some info, some d => match info.zero, cZ1 P t d with
  | some z, some ty => match vD1 z.cells.toList with
   | some as => if as.length = info.size then some ⟨ty, info.size, info.bytes, as⟩ else none
   | none => none
  | _, _ => none
 | _, _ => none
theorem ff1 {P : Program} {t : TypeId} {ti : TI} (h : sM1 P t = some ti) : ∃ info z d, TI.Ok P t ti info z d := by
 unfold sM1 at h
 split at h
 ·rename_i info d h1 h2
  split at h
  ·rename_i z ty h3 h4
   split at h
   ·rename_i as h5
    split at h
    ·rename_i h6
     obtain rfl := Option.some.inj h
     obtain ⟨k1, k2⟩ := sN0 _ _ h5
     exact ⟨info, z, d, h1, rfl, rfl, h3, k1, k2, h6, h2, fj1 h4, xW1 h2 h4⟩
    ·cases h
   ·cases h
  ·cases h
 ·cases h
def xT1 (L : List (Nat × TI)) (t : TypeId) : Option TI :=
 match L with
 | [] => none
 | (k, i) :: L => if t = k then some i else xT1 L t
def xh1 (P : Program) : List (Nat × TI) → Prop
 | [] => True
 | (k, i) :: L => sM1 P k = some i ∧ xh1 P L
theorem tm0 (P : Program) : ∀ (L : List (Nat × TI)), xh1 P L → zS0 P (xT1 L)
 | [], _, t, ti, h => by cases h
 | (k, i) :: L, hL, t, ti, h => by
  simp only [xT1] at h
  split at h
  ·rename_i e
   subst e
   obtain rfl := Option.some.inj h
   exact ff1 hL.1
  ·exact tm0 P L hL.2 t ti h
end Go.Ai
