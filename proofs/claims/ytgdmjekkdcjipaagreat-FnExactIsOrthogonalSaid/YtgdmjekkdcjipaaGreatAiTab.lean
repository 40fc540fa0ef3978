/- A program's table of types, computed from the program and then written out. -/
import Derived.Test.YtgdmjekkdcjipaaGreatAiOut
set_option linter.unusedVariables false
set_option linter.unusedSimpArgs false
namespace Go.Ai
open Go.RowKit
def xx1 : Value → Option AC
 | .slice none 0 0 => some .nil
 | .slice _ _ _ => none
 | .agg _ => none
 | .tuple _ => none
 | v => some (.c (.v v))
theorem jc1 {v : Value} {a : AC} (h : xx1 v = some a) : kK1 a = some v ∧ sa0 a = true := by
 unfold xx1 at h
 split at h
 ·obtain rfl := Option.some.inj h; exact ⟨rfl, rfl⟩
 ·cases h
 ·cases h
 ·cases h
 ·obtain rfl := Option.some.inj h
  refine ⟨rfl, ?_⟩
  rename_i h1 h2 h3 h4
  cases v <;> first | rfl | exact absurd rfl (h2 _ _ _) | exact absurd rfl (h3 _) | exact absurd rfl (h4 _)
def wk1 : List Value → Option (List AC)
 | [] => some []
 | v :: vs => match xx1 v, wk1 vs with
  | some a, some as => some (a :: as)
  | _, _ => none
theorem nG0 : ∀ (vs : List Value) (as : List AC), wk1 vs = some as → vs.map some = as.map kK1 ∧ as.all sa0 = true
 | [], as, h => by obtain rfl := Option.some.inj h; exact ⟨rfl, rfl⟩
 | v :: vs, as, h => by
  simp only [wk1] at h
  split at h
  ·rename_i a as' h1 h2
   obtain rfl := Option.some.inj h
   obtain ⟨k1, k2⟩ := jc1 h1
   obtain ⟨k3, k4⟩ := nG0 vs as' h2
   exact ⟨by simp [k1, k3], by simp [k2, k4]⟩
  ·cases h
def pA1 (P : Program) (t : TypeId) : Option CK :=
 match P.underlying t with
 | some (.int k) => some (.int k)
 | some .string => some .str
 | some .bool => some .bool
 | _ => none
theorem jk1 {P : Program} {t : TypeId} {c : CK} (h : pA1 P t = some c) : jZ1 P t c := by
 unfold pA1 at h
 split at h
 ·rename_i k hk; obtain rfl := Option.some.inj h; exact hk
 ·rename_i hk; obtain rfl := Option.some.inj h; exact hk
 ·rename_i hk; obtain rfl := Option.some.inj h; exact hk
 ·cases h
def nP0 (P : Program) : List Field → Option (List (Nat × CK))
 | [] => some []
 | f :: fs => if f.name = "_" then none else match pA1 P f.type, nP0 P fs with
  | some c, some l => some ((f.offset, c) :: l)
  | _, _ => none
theorem dJ0 {P : Program} : ∀ (fs : List Field) (l : List (Nat × CK)), nP0 P fs = some l → wd1 P fs l
 | [], l, h => by obtain rfl := Option.some.inj h; trivial
 | f :: fs, l, h => by
  simp only [nP0] at h
  split at h
  ·cases h
  ·rename_i hn
   split at h
   ·rename_i c l' hc hl
    obtain rfl := Option.some.inj h
    exact ⟨hn, rfl, jk1 hc, dJ0 fs l' hl⟩
   ·cases h
def vc1 (P : Program) (t : TypeId) (fields : Array Field) : Option (List (Nat × CK)) :=
 if P.stoodInHeld t = false ∧ P.eqGuardType P.depth t = false then nP0 P fields.toList else none
def xP1 (P : Program) (t : TypeId) : TypeDesc → Option TyD
 | .int k => some (.int k)
 | .bool => some .bool
 | .string => some .str
 | .slice e => some (.slice e)
 | .struct fields => if fields.toList.all (fun f => decide (P.cellsOf f.type ≠ 0) && (P.cellsOf f.type == 1 || xy1 P f.type)) then some (.struct (fields.toList.map fun f => (f.offset, P.cellsOf f.type)) (vc1 P t fields)) else none
 | .pointer _ => some .ptr
 | .func _ _ _ => some .func
 | .interface _ => some .iface
 | _ => none
theorem kw1 {P : Program} {t : TypeId} {d : TypeDesc} {x : TyD} (h : xP1 P t d = some x) : zX0 P x d = true := by
 unfold xP1 at h
 split at h <;> try (cases h; done)
 all_goals try (obtain rfl := Option.some.inj h; simp [zX0]; done)
 split at h
 ·rename_i hq
  obtain rfl := Option.some.inj h
  simp only [zX0, beq_self_eq_true, Bool.true_and]
  exact hq
 ·cases h
theorem yv1 {P : Program} {t : TypeId} {d : TypeDesc} {x : TyD} (hd : P.underlying t = some d) (h : xP1 P t d = some x) : ∀ fs l, x = .struct fs (some l) → ja1 P t l := by
 intro fs l hx
 subst hx
 unfold xP1 at h
 split at h <;> try (simp at h; done)
 split at h
 ·rename_i fields _
  simp only [Option.some.injEq, TyD.struct.injEq] at h
  obtain ⟨_, h⟩ := h
  unfold vc1 at h
  split at h
  ·rename_i hq
   exact ⟨hq.1, hq.2, fields, hd, dJ0 _ _ h⟩
  ·cases h
 ·cases h
def dN1 (P : Program) (t : TypeId) : Option TI :=
 match P.info? t, P.underlying t with
 | some info, some d => match info.zero, xP1 P t d with
  | some z, some ty => match wk1 z.cells.toList with
   | some as => if as.length = info.size then some ⟨ty, info.size, info.bytes, as⟩ else none
   | none => none
  | _, _ => none
 | _, _ => none
theorem ks1 {P : Program} {t : TypeId} {ti : TI} (h : dN1 P t = some ti) : ∃ info z d, TI.Ok P t ti info z d := by
 unfold dN1 at h
 split at h
 ·rename_i info d h1 h2
  split at h
  ·rename_i z ty h3 h4
   split at h
   ·rename_i as h5
    split at h
    ·rename_i h6
     obtain rfl := Option.some.inj h
     obtain ⟨k1, k2⟩ := nG0 _ _ h5
     exact ⟨info, z, d, h1, rfl, rfl, h3, k1, k2, h6, h2, kw1 h4, yv1 h2 h4⟩
    ·cases h
   ·cases h
  ·cases h
 ·cases h
def yp1 (L : List (Nat × TI)) (t : TypeId) : Option TI :=
 match L with
 | [] => none
 | (k, i) :: L => if t = k then some i else yp1 L t
def jB1 (P : Program) : List (Nat × TI) → Prop
 | [] => True
 | (k, i) :: L => dN1 P k = some i ∧ jB1 P L
theorem rO0 (P : Program) : ∀ (L : List (Nat × TI)), jB1 P L → zU0 P (yp1 L)
 | [], _, t, ti, h => by cases h
 | (k, i) :: L, hL, t, ti, h => by
  simp only [yp1] at h
  split at h
  ·rename_i e
   subst e
   obtain rfl := Option.some.inj h
   exact ks1 hL.1
  ·exact rO0 P L hL.2 t ti h
end Go.Ai
