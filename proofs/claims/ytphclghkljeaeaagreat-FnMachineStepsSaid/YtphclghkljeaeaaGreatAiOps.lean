/- The abstract machine's operations: what each gives out of abstract operands. -/
import Derived.Test.YtphclghkljeaeaaGreatAiGrow
set_option linter.unusedVariables false
set_option linter.unusedSimpArgs false
namespace Go.Ai
open Go.RowKit
inductive CK where
 | int (k : IntKind) | str | bool
 deriving DecidableEq
inductive TyD where
 | int (k : IntKind) | bool | str | slice (e : TypeId) | struct (fs : List (Nat × Nat)) (cmp : Option (List (Nat × CK))) | ptr | func | iface
 deriving DecidableEq
structure TI where
 d : TyD
 size : Nat
 bytes : Nat
 zero : List AC
abbrev Tab := TypeId → Option TI
def xE1 : AC → Option Value
 | .c (.v x) => some x
 | .nil => some (.slice none 0 0)
 | _ => none
def te0 : AC → Bool
 | .c (.v (.slice _ _ _)) => false
 | .c (.v (.agg _)) => false
 | .c (.v (.tuple _)) => false
 | .c (.v _) => true
 | .nil => true
 | _ => false
def bS1 (P : Program) (t : TypeId) : Bool := match P.underlying t with
 | some (.struct _) => true
 | some (.array _ _) => true
 | _ => false
def zb0 (P : Program) : TyD → TypeDesc → Bool
 | .int k, .int k' => k == k'
 | .bool, .bool => true
 | .str, .string => true
 | .slice e, .slice e' => e == e'
 | .struct fs _, .struct fields => fields.toList.map (fun f => (f.offset, P.cellsOf f.type)) == fs && fields.toList.all (fun f => decide (P.cellsOf f.type ≠ 0) && (P.cellsOf f.type == 1 || bS1 P f.type))
 | .ptr, .pointer _ => true
 | .func, .func _ _ _ => true
 | .iface, .interface _ => true
 | _, _ => false
def vV1 (P : Program) (t : TypeId) : CK → Prop
 | .int k => P.underlying t = some (.int k)
 | .str => P.underlying t = some .string
 | .bool => P.underlying t = some .bool
def jP1 (P : Program) : List Field → List (Nat × CK) → Prop
 | [], [] => True
 | f :: fs, (o, c) :: l => f.name ≠ "_" ∧ f.offset = o ∧ vV1 P f.type c ∧ jP1 P fs l
 | _, _ => False
def vW1 (P : Program) (t : TypeId) (l : List (Nat × CK)) : Prop :=
 P.stoodInHeld t = false ∧ P.eqGuardType P.depth t = false ∧ ∃ fields, P.underlying t = some (.struct fields) ∧ jP1 P fields.toList l
structure TI.Ok (P : Program) (t : TypeId) (ti : TI) (info : TypeInfo) (z : Value) (d : TypeDesc) : Prop where
 inf : P.info? t = some info
 size : info.size = ti.size
 bytes : info.bytes = ti.bytes
 zero : info.zero = some z
 cells : z.cells.toList.map some = ti.zero.map xE1
 lits : ti.zero.all te0 = true
 len : ti.zero.length = ti.size
 und : P.underlying t = some d
 desc : zb0 P ti.d d = true
 cmp : ∀ fs l, ti.d = .struct fs (some l) → vW1 P t l
def zT0 (P : Program) (tab : Tab) : Prop := ∀ t ti, tab t = some ti → ∃ info z d, TI.Ok P t ti info z d
def gK1 : Value → Bool
 | .slice _ _ _ => false
 | .agg _ => false
 | .tuple _ => false
 | _ => true
theorem xM1 {x : Value} (h : gK1 x = true) : okv x := by cases x <;> simp_all [gK1, okv]
def jB0 : Value → Option AC
 | .slice none 0 0 => some .nil
 | .slice _ _ _ => none
 | .agg _ => none
 | .tuple _ => none
 | v => some (.c (.v v))
def yQ0 : List Value → Option (List AC)
 | [] => some []
 | v :: vs => match jB0 v, yQ0 vs with
  | some a, some as => some (a :: as)
  | _, _ => none
def qo1 : Option (List AC) → AV
 | some as => .agg as
 | none => .any
def vr0 : Value → AV
 | .slice none 0 0 => .one .nil
 | .slice _ _ _ => .any
 | .agg xs => qo1 (yQ0 xs.toList)
 | .tuple _ => .any
 | v => .one (.c (.v v))
def opv (s : St) : Operand → AV
 | .tmp t => s.sl t
 | .const v => vr0 v
 | .func f => .one (.c (.v (.func (.func f) #[] #[])))
 | .global _ => .any
def TyD.agg : TyD → Bool
 | .struct _ _ => true
 | _ => false
def AV.cs : AV → Option (List AC)
 | .one a => some [a]
 | .agg as => some as
 | _ => none
def wl1 (agg : Bool) (as : List AC) : Option AV :=
 if agg then some (.agg as) else match as with
  | [a] => some (.one a)
  | _ => none
def splice (cells : List AC) (off : Nat) (xs : List AC) : List AC := cells.take off ++ (xs ++ cells.drop (off + xs.length))
def kk0 (place : Nat → Option (Nat × Nat)) (cells : List AC) : List (Nat × AV) → Option (List AC)
 | [] => some cells
 | (i, v) :: rest =>
  match place i, v.cs with
  | some (off, size), some xs => if xs.length = size ∧ off + xs.length ≤ cells.length then kk0 place (splice cells off xs) rest else none
  | _, _ => none
def kZ0 (sz : Nat) : Nat → List AC → List (List AC)
 | 0, _ => []
 | n + 1, l => l.take sz :: kZ0 sz n (l.drop sz)
def unD : AC → AC
 | .d x => .c x
 | .m _ => .any
 | a => a
abbrev nI0 (n : Int) : AV := .one (.c (.v (.int .i64 n)))
abbrev jr0 (b : Bool) : AV := .one (.c (.v (.bool b)))
abbrev fP1 (s : ByteArray) : AV := .one (.c (.v (.string s)))
def ct0 (tab : Tab) (lb : Lk) (t : TypeId) (p : AV) : Option (Prop × AV) :=
 match tab t, p with
 | some ti, .one (.ptr l off) =>
  match lb l with
  | some (.var cells) => if off + ti.size ≤ cells.length then (wl1 ti.d.agg ((cells.drop off).take ti.size)).map fun v => (True, v) else none
  | _ => none
 | some ti, .one (.ep l n i off) =>
  match lb l with
  | some (.arr _ sz rows _) => if n = rows.length ∧ off + ti.size ≤ sz then
    (if ti.d.agg then some (True, .agg ((((rows.getD i []).drop off).take ti.size).map unD))
     else if ti.size = 1 then some (True, .one (unD ((rows.getD i []).getD off .any))) else none) else none
  | _ => none
 | some ti, .one (.ip cs) =>
  if ti.d.agg then some (ti.size ≤ cs.length, .agg ((cs.take ti.size).map .c)) else if ti.size = 1 then some (0 < cs.length, .one (.c (cs.getD 0 (.v (.bool false))))) else none
 | _, _ => none
def wP1 (k : IntKind) (n : Int) : AV := .one (.c (.v (.int k n)))
def rP0 (op : BinOp) (k : IntKind) (a b : Int) : Option (Prop × AV) :=
 match op with
 | .add => some (True, wP1 k (k.wrap (a + b)))
 | .sub => some (True, wP1 k (k.wrap (a - b)))
 | .mul => some (True, wP1 k (k.wrap (a * b)))
 | .quo => some (b ≠ 0, wP1 k (k.wrap (a.tdiv b)))
 | .rem => some (b ≠ 0, wP1 k (a.tmod b))
 | .eql => some (True, jr0 (a == b))
 | .neq => some (True, jr0 (a != b))
 | .lss => some (True, jr0 (decide (a < b)))
 | .leq => some (True, jr0 (decide (a ≤ b)))
 | .gtr => some (True, jr0 (decide (a > b)))
 | .geq => some (True, jr0 (decide (a ≥ b)))
 | .and => some (True, wP1 k (k.wrap ((BitVec.ofInt k.bits a &&& BitVec.ofInt k.bits b).toNat : Nat)))
 | .xor => some (True, wP1 k (k.wrap ((BitVec.ofInt k.bits a ^^^ BitVec.ofInt k.bits b).toNat : Nat)))
 | _ => none
def rQ0 (op : BinOp) (k : IntKind) (a b : Int) : Option (Prop × AV) :=
 match op with
 | .shr => some (0 ≤ b, wP1 k (a.fdiv (2 ^ (min b.toNat k.bits))))
 | _ => none
def rR0 (op : BinOp) (x y : ByteArray) : Option (Prop × AV) :=
 match op with
 | .add => some (((x.size + y.size : Nat) : Int) ≤ 9223372036854775807, fP1 (x ++ y))
 | .eql => some (True, jr0 (x.toList == y.toList))
 | .neq => some (True, jr0 (!(x.toList == y.toList)))
 | .lss => some (True, jr0 (Op.bytesLess x.toList y.toList))
 | _ => none
def jp1 (as bs : List AC) : List (Nat × CK) → Option Bool
 | [] => some true
 | (o, c) :: l => match c, as[o]?, bs[o]?, jp1 as bs l with
  | .int _, some (.c (.v (.int k a))), some (.c (.v (.int k' b))), some r => if k = k' then some ((a == b) && r) else none
  | .str, some (.c (.v (.string a))), some (.c (.v (.string b))), some r => some ((a == b) && r)
  | .bool, some (.c (.v (.bool a))), some (.c (.v (.bool b))), some r => some ((a == b) && r)
  | _, _, _, _ => none
def xG1 : AC → Option Bool
 | .nil => some true
 | .e1 => some false
 | .c (.sl (_ :: _)) => some false
 | _ => none
def pT1 (tab : Tab) (op : BinOp) (t : TypeId) (x y : AV) : Option (Prop × AV) :=
 match x, y with
 | .one (.c (.v (.int k a))), .one (.c (.v (.int k' b))) => if k = k' then rP0 op k a b else rQ0 op k a b
 | .one (.c (.v (.string a))), .one (.c (.v (.string b))) => rR0 op a b
 | .one (.c (.v (.bool a))), .one (.c (.v (.bool b))) =>
  match tab t, op with
  | some ⟨.bool, _, _, _⟩, .eql => some (True, jr0 (a == b))
  | some ⟨.bool, _, _, _⟩, .neq => some (True, jr0 (!(a == b)))
  | _, _ => none
 | .agg as, .agg bs =>
  match tab t, op with
  | some ⟨.struct _ (some l), _, _, _⟩, .eql => (jp1 as bs l).map fun r => (True, jr0 r)
  | some ⟨.struct _ (some l), _, _, _⟩, .neq => (jp1 as bs l).map fun r => (True, jr0 (!r))
  | _, _ => none
 | .one a, .one .nil =>
  match tab t, op with
  | some ⟨.slice _, _, _, _⟩, .eql => (xG1 a).map fun b => (True, jr0 b)
  | some ⟨.slice _, _, _, _⟩, .neq => (xG1 a).map fun b => (True, jr0 (!b))
  | _, _ => none
 | _, _ => none
def xD1 (lb : Lk) (t : Option TI) (x : AV) : Option (Prop × AV) :=
 match t, x with
 | some ⟨.slice _, _, _, _⟩, .one (.c (.sl rows)) => some (True, nI0 rows.length)
 | some ⟨.slice _, _, _, _⟩, .one .nil => some (True, nI0 0)
 | some ⟨.slice _, _, _, _⟩, .one .e1 => some (True, nI0 0)
 | some ⟨.slice _, _, _, _⟩, .one .e0 => some (True, nI0 0)
 | some ⟨.slice _, _, _, _⟩, .one (.own l n) => (match lb l with | some (.arr _ _ rows _) => if n = rows.length then some (True, nI0 n) else none | _ => none)
 | some ⟨.slice _, _, _, _⟩, .one (.tk k i) => (match lb k with | some (.tok xs) => (match xs[i]? with | some (some (.sl rows)) => some (True, nI0 rows.length) | _ => none) | _ => none)
 | some ⟨.str, _, _, _⟩, .one (.c (.v (.string s))) => some (True, nI0 s.size)
 | _, _ => none
def fX0 (tab : Tab) (t : Option TI) (x : AV) (lo hi : Option AV) : Option (Prop × AV) :=
 match t, x, lo, hi with
 | some ⟨.str, _, _, _⟩, .one (.c (.v (.string s))), some (.one (.c (.v (.int .i64 l)))), some (.one (.c (.v (.int .i64 h)))) => some (0 ≤ l ∧ l ≤ h ∧ h ≤ s.size, fP1 (s.extract l.toNat h.toNat))
 | some ⟨.str, _, _, _⟩, .one (.c (.v (.string s))), some (.one (.c (.v (.int .i64 l)))), none => some (0 ≤ l ∧ l ≤ s.size, fP1 (s.extract l.toNat s.size))
 | some ⟨.str, _, _, _⟩, .one (.c (.v (.string s))), none, some (.one (.c (.v (.int .i64 h)))) => some (0 ≤ h ∧ h ≤ s.size, fP1 (s.extract 0 h.toNat))
 | some ⟨.slice e, _, _, _⟩, .one (.c (.sl rows)), lo, hi =>
  match tab e with
  | some ti => (match lo, hi with
   | some (.one (.c (.v (.int .i64 l)))), none => some (0 ≤ l ∧ l ≤ rows.length ∧ (∀ r, r ∈ rows → r.length = ti.size), .one (.c (.sl (rows.drop l.toNat))))
   | none, some (.one (.c (.v (.int .i64 h)))) => some (0 ≤ h ∧ h ≤ rows.length ∧ (∀ r, r ∈ rows → r.length = ti.size), .one (.c (.sl (rows.take h.toNat))))
   | some (.one (.c (.v (.int .i64 l)))), some (.one (.c (.v (.int .i64 h)))) => some (0 ≤ l ∧ l ≤ h ∧ h ≤ rows.length ∧ (∀ r, r ∈ rows → r.length = ti.size), .one (.c (.sl ((rows.take h.toNat).drop l.toNat))))
   | _, _ => none)
  | none => none
 | _, _, _, _ => none
def dJ0 (tab : Tab) (t : Option TI) (x lo hi mx : AV) : Option (Prop × AV) :=
 match t, x, lo, hi, mx with
 | some ⟨.slice e, _, _, _⟩, .one (.c (.sl _)), .one (.c (.v (.int .i64 0))), .one (.c (.v (.int .i64 0))), .one (.c (.v (.int .i64 0))) => (tab e).map fun _ => (True, .one .e0)
 | _, _, _, _, _ => none
def wH0 (lb : Lk) (t : Option TI) (p : AV) (f : Nat) : Option (Prop × AV) :=
 match t with
 | some ⟨.struct fs _, _, _, _⟩ =>
  match fs[f]? with
  | some (fo, _) => (match p with
   | .one (.ptr l off) => (match lb l with | some (.var _) => some (True, .one (.ptr l (off + fo))) | _ => none)
   | .one (.ep l n i off) => (match lb l with | some (.arr _ _ rows _) => if n = rows.length then some (True, .one (.ep l n i (off + fo))) else none | _ => none)
   | .one (.ip cs) => some (fo ≤ cs.length, .one (.ip (cs.drop fo)))
   | _ => none)
  | none => none
 | _ => none
def gO0 (t : Option TI) (x : AV) (f : Nat) : Option (Prop × AV) :=
 match t with
 | some ⟨.struct fs _, _, _, _⟩ =>
  match fs[f]? with
  | some (off, size) => (match x with
   | .agg cs => if size ≠ 1 ∧ off + size ≤ cs.length then some (True, .agg ((cs.drop off).take size)) else none
   | _ => none)
  | none => none
 | _ => none
def ve1 (lb : Lk) (p : AV) : Option (Prop × AV) :=
 match p with
 | .one (.ptr l off) => (match lb l with | some (.var _) => some (True, .one (.ptr l off)) | _ => none)
 | .one (.ip cs) => some (True, .one (.ip cs))
 | _ => none
def wJ0 (tab : Tab) (lb : Lk) (t : TypeId) (x i : AV) : Option (Prop × AV) :=
 match tab t, i with
 | some ⟨.slice e, _, _, _⟩, .one (.c (.v (.int .i64 i))) =>
  match tab e, x with
  | some ti, .one (.c (.sl rows)) => some (0 ≤ i ∧ i < rows.length ∧ (rows.getD i.toNat []).length = ti.size, .one (.ip (rows.getD i.toNat [])))
  | some ti, .one (.own l n) => (match lb l with | some (.arr _ sz rows _) => if n = rows.length ∧ sz = ti.size then some (0 ≤ i ∧ i < n, .one (.ep l n i.toNat 0)) else none | _ => none)
  | _, _ => none
 | _, _ => none
def gh0 (t : Option TI) (x i : AV) : Option (Prop × AV) :=
 match t, x, i with
 | some ⟨.str, _, _, _⟩, .one (.c (.v (.string s))), .one (.c (.v (.int .i64 i))) => some (0 ≤ i ∧ i < s.size, .one (.c (.v (.int .u8 (s.data.getD i.toNat 0).toNat))))
 | _, _, _ => none
def fh1 (x y : AV) : Option (Prop × AV) :=
 match x, y with
 | .one (.c (.v (.int k a))), .one (.c (.v (.int _ b))) => some (True, wP1 k (if b > a then b else a))
 | _, _ => none
def ro0 : List AC → Bool
 | [.c (.v (.int .u8 _))] => true
 | _ => false
def dt0 : List AC → Int
 | [.c (.v (.int .u8 m))] => m
 | _ => 0
def qa1 (rows : List (List AC)) : ByteArray := (rows.map dt0).foldl (fun r n => r.push (UInt8.ofNat n.toNat)) ByteArray.empty
def gF0 (tab : Tab) (lb : Lk) (src dst : TypeId) (x : AV) : Option (Prop × AV) :=
 match tab src, tab dst, x with
 | some ⟨.int _, _, _, _⟩, some ⟨.int k, _, _, _⟩, .one (.c (.v (.int _ n))) => some (True, wP1 k (k.wrap n))
 | some ⟨.slice e, _, _, _⟩, some ⟨.str, _, _, _⟩, .one (.own l n) => (match tab e with
  | some ⟨.int .u8, _, _, _⟩ => (match lb l with
   | some (.arr _ _ rows _) => if n = rows.length then some (∀ r, r ∈ rows → ro0 r = true, fP1 (qa1 rows)) else none
   | _ => none)
  | _ => none)
 | _, _, _ => none
def cQ0 : List AV → Option (List AC)
 | [] => some []
 | .one a :: vs => (cQ0 vs).map fun as => a :: as
 | _ => none
def yj0 (tab : Tab) (s : St) (c : Call) : Option (Prop × AV) :=
 match c.callee with
 | .builtin .len => (match c.args.toList, c.argTypes.toList with | [x], [t] => xD1 s.lb (tab t) (opv s x) | _, _ => none)
 | .builtin .max => (match c.args.toList with | [x, y] => fh1 (opv s x) (opv s y) | _ => none)
 | _ => none
def kA0 (tab : Tab) (o : Oper) (s : St) : Option (Prop × AV) :=
 match o.op with
 | .move x => some (True, opv s x)
 | .assign x => some (True, opv s x)
 | .pick c a b => (match opv s c with | .one (.c (.v (.bool t))) => some (True, if t then opv s a else opv s b) | _ => none)
 | .build t parts => (match tab t with
  | some ⟨.struct fs _, _, _, zero⟩ => (kk0 (fun i => fs[i]?) zero (parts.toList.map fun (i, x) => (i, opv s x))).map fun cs => (True, .agg cs)
  | _ => none)
 | .load t x => ct0 tab s.lb t (opv s x)
 | .binOp op t x y _ => pT1 tab op t (opv s x) (opv s y)
 | .unOp .not _ x => (match opv s x with | .one (.c (.v (.bool b))) => some (True, jr0 (!b)) | _ => none)
 | .fieldAddr t x f => wH0 s.lb (tab t) (opv s x) f
 | .nilCheck x => ve1 s.lb (opv s x)
 | .indexAddr t x i => wJ0 tab s.lb t (opv s x) (opv s i)
 | .index t x i => gh0 (tab t) (opv s x) (opv s i)
 | .slice t x lo hi none => fX0 tab (tab t) (opv s x) (lo.map (opv s)) (hi.map (opv s))
 | .slice t x (some lo) (some hi) (some mx) => dJ0 tab (tab t) (opv s x) (opv s lo) (opv s hi) (opv s mx)
 | .convert t t' x => gF0 tab s.lb t t' (opv s x)
 | .extract x i => (match opv s x with | .tup vs => (vs[i]?).map fun v => (True, v) | _ => none)
 | .field t x f => gO0 (tab t) (opv s x) f
 | .makeFunc (.func f) fst caps => (match fst.toList with | [] => (cQ0 (caps.toList.map (opv s))).map fun cs => (True, .one (.clo f cs)) | _ => none)
 | .call c => yj0 tab s c
 | _ => none
inductive Eff where
 | val (v : AV)
 | new (v : AV) (B : LB)
 | upd (v : AV) (l : Nat) (B : LB)
def pz0 (lb : Lk) (y : AV) : Option (List (List AC)) :=
 match y with
 | .one (.c (.sl rows)) => some (rows.map fun r => r.map .c)
 | .one .nil => some []
 | .one .e1 => some []
 | .one .e0 => some []
 | .one (.own l n) => (match lb l with | some (.arr _ _ rows _) => if n = rows.length then some (rows.map fun r => r.map unD) else none | _ => none)
 | _ => none
def jq0 (tab : Tab) (lb : Lk) (d : Nat) (e : TypeId) (x y : AV) : Option (Prop × Eff) :=
 match tab e with
 | none => none
 | some ti =>
  match x with
  | .one (.own l n) => (match pz0 lb y, lb l with
   | some more, some (.arr e' sz rows fz) => if e = e' ∧ sz = ti.size ∧ n = rows.length then
     some ((∀ r, r ∈ more → r.length = ti.size) ∧ (rows.length + more.length) * ti.bytes ≤ 140737488355328 ∧ rows.length + more.length ≤ 140737488355328, .upd (.one (.own l (n + more.length))) l (.arr e sz (rows ++ more) fz)) else none
   | _, _ => none)
  | .one .nil => (match pz0 lb y with
   | some [] => some (True, .val (.one .nil))
   | some (m0 :: more) => if 0 < ti.size then some (0 < (m0 :: more).length ∧ (∀ r, r ∈ m0 :: more → r.length = ti.size) ∧ (m0 :: more).length * ti.bytes ≤ 140737488355328 ∧ (m0 :: more).length ≤ 140737488355328, .new (.one (.own d (m0 :: more).length)) (.arr e ti.size (m0 :: more) false)) else none
   | none => none)
  | .one .e0 => (match pz0 lb y with
   | some [] => some (True, .val (.one .e0))
   | some (m0 :: more) => if 0 < ti.size then some (0 < (m0 :: more).length ∧ (∀ r, r ∈ m0 :: more → r.length = ti.size) ∧ (m0 :: more).length * ti.bytes ≤ 140737488355328 ∧ (m0 :: more).length ≤ 140737488355328, .new (.one (.own d (m0 :: more).length)) (.arr e ti.size (m0 :: more) false)) else none
   | none => none)
  | _ => none
def vg0 (tab : Tab) (lb : Lk) (t : TypeId) (p x : AV) : Option (Prop × Eff) :=
 match tab t, p, x.cs with
 | some ti, .one (.ptr l off), some xs => (match lb l with
  | some (.var cells) => if xs.length = ti.size ∧ off + xs.length ≤ cells.length then some (True, .upd .any l (.var (splice cells off xs))) else none
  | _ => none)
 | some ti, .one (.ep l n i off), some xs => (match lb l with
  | some (.arr e sz rows false) => if xs.length = ti.size ∧ off + xs.length ≤ sz ∧ n = rows.length then some (∀ a, a ∈ ((rows.getD i []).drop off).take xs.length → unD a = a, .upd .any l (.arr e sz (rows.set i (splice (rows.getD i []) off xs)) false)) else none
  | _ => none)
 | _, _, _ => none
def xz0 (tab : Tab) (o : Oper) (s : St) (c : Call) : Option (Prop × Eff) :=
 match c.callee with
 | .builtin .append => (match c.args.toList, c.argTypes.toList with
  | [x, y], [t, t'] => (match tab t with
   | some ⟨.slice e, _, _, _⟩ => if t = t' then jq0 tab s.lb (o.dst.getD 0) e (opv s x) (opv s y) else none
   | _ => none)
  | _, _ => none)
 | _ => (yj0 tab s c).map fun (p, v) => (p, .val v)
def vV0 (tab : Tab) (o : Oper) (s : St) : Option (Prop × Eff) :=
 match o.op with
 | .alloc t => (tab t).map fun ti => (True, .new (.one (.ptr (o.dst.getD 0) 0)) (.var ti.zero))
 | .box _ x => (opv s x).cs.map fun cs => (True, .new (.one (.ptr (o.dst.getD 0) 0)) (.var cs))
 | .buildSlice t len parts => (match tab t with
  | some ⟨.slice e, _, _, _⟩ => (match tab e with
   | some ti => if 0 < ti.size ∧ len * ti.size ≤ 16777216 then
     (kk0 (fun i => some (i * ti.size, ti.size)) (List.replicate len ti.zero).flatten (parts.toList.map fun (i, x) => (i, opv s x))).map fun cs =>
      (True, .new (.one (.own (o.dst.getD 0) len)) (.arr e ti.size (kZ0 ti.size len cs) false)) else none
   | none => none)
  | _ => none)
 | .makeSlice t x y => (match tab t with
  | some ⟨.slice e, _, _, _⟩ => (match tab e, opv s x, opv s y with
   | some ti, .one (.c (.v (.int .i64 n))), .one (.c (.v (.int .i64 m))) => if 0 < ti.size then
     some (n = m ∧ 0 ≤ n ∧ n ≤ 140737488355328 ∧ n * ti.bytes ≤ 140737488355328, .new (.one (.own (o.dst.getD 0) n.toNat)) (.arr e ti.size (List.replicate n.toNat ti.zero) false)) else none
   | _, _, _ => none)
  | _ => none)
 | .store t p x => vg0 tab s.lb t (opv s p) (opv s x)
 | .call c => xz0 tab o s c
 | _ => (kA0 tab o s).map fun (p, v) => (p, .val v)
def Eff.app : Eff → Option Tmp → St → St
 | .val v, d, s => s.set d v
 | .new v B, d, s => (s.put (d.getD 0) B).set d v
 | .upd v l B, d, s => (s.put l B).set d v
def Eff.ok : Eff → Option Tmp → St → Prop
 | .val _, d, s => ∀ t, d = some t → t < s.n
 | .new _ _, d, s => ∃ t, d = some t ∧ t < s.n ∧ s.lb t = none
 | .upd _ _ _, d, s => ∀ t, d = some t → t < s.n
end Go.Ai
