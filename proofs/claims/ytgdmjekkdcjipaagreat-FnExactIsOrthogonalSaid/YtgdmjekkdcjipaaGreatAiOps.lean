/- The abstract machine's operations: what each gives out of abstract operands. -/
import Derived.Test.YtgdmjekkdcjipaaGreatAiGrow
set_option linter.unusedVariables false
set_option linter.unusedSimpArgs false
namespace Go.Ai
open Go.RowKit
inductive CK where
 | int (k : IntKind) | str | bool
 deriving DecidableEq
inductive TyD where
 | int (k : IntKind) | bool | str | slice (e : TypeId) | struct (fs : List (Nat × Nat)) (cmp : Option (List (Nat × CK))) | ptr | func | iface
 deriving DecidableEq
structure TI where
 d : TyD
 size : Nat
 bytes : Nat
 zero : List AC
abbrev Tab := TypeId → Option TI
def kK1 : AC → Option Value
 | .c (.v x) => some x
 | .nil => some (.slice none 0 0)
 | _ => none
def sa0 : AC → Bool
 | .c (.v (.slice _ _ _)) => false
 | .c (.v (.agg _)) => false
 | .c (.v (.tuple _)) => false
 | .c (.v _) => true
 | .nil => true
 | _ => false
def xy1 (P : Program) (t : TypeId) : Bool := match P.underlying t with
 | some (.struct _) => true
 | some (.array _ _) => true
 | _ => false
def zX0 (P : Program) : TyD → TypeDesc → Bool
 | .int k, .int k' => k == k'
 | .bool, .bool => true
 | .str, .string => true
 | .slice e, .slice e' => e == e'
 | .struct fs _, .struct fields => fields.toList.map (fun f => (f.offset, P.cellsOf f.type)) == fs && fields.toList.all (fun f => decide (P.cellsOf f.type ≠ 0) && (P.cellsOf f.type == 1 || xy1 P f.type))
 | .ptr, .pointer _ => true
 | .func, .func _ _ _ => true
 | .iface, .interface _ => true
 | _, _ => false
def jZ1 (P : Program) (t : TypeId) : CK → Prop
 | .int k => P.underlying t = some (.int k)
 | .str => P.underlying t = some .string
 | .bool => P.underlying t = some .bool
def wd1 (P : Program) : List Field → List (Nat × CK) → Prop
 | [], [] => True
 | f :: fs, (o, c) :: l => f.name ≠ "_" ∧ f.offset = o ∧ jZ1 P f.type c ∧ wd1 P fs l
 | _, _ => False
def ja1 (P : Program) (t : TypeId) (l : List (Nat × CK)) : Prop :=
 P.stoodInHeld t = false ∧ P.eqGuardType P.depth t = false ∧ ∃ fields, P.underlying t = some (.struct fields) ∧ wd1 P fields.toList l
structure TI.Ok (P : Program) (t : TypeId) (ti : TI) (info : TypeInfo) (z : Value) (d : TypeDesc) : Prop where
 inf : P.info? t = some info
 size : info.size = ti.size
 bytes : info.bytes = ti.bytes
 zero : info.zero = some z
 cells : z.cells.toList.map some = ti.zero.map kK1
 lits : ti.zero.all sa0 = true
 len : ti.zero.length = ti.size
 und : P.underlying t = some d
 desc : zX0 P ti.d d = true
 cmp : ∀ fs l, ti.d = .struct fs (some l) → ja1 P t l
def zU0 (P : Program) (tab : Tab) : Prop := ∀ t ti, tab t = some ti → ∃ info z d, TI.Ok P t ti info z d
def fv1 : Value → Bool
 | .slice _ _ _ => false
 | .agg _ => false
 | .tuple _ => false
 | _ => true
theorem kT1 {x : Value} (h : fv1 x = true) : okv x := by cases x <;> simp_all [fv1, okv]
def yO0 : Value → Option AC
 | .slice none 0 0 => some .nil
 | .slice _ _ _ => none
 | .agg _ => none
 | .tuple _ => none
 | v => some (.c (.v v))
def wp0 : List Value → Option (List AC)
 | [] => some []
 | v :: vs => match yO0 v, wp0 vs with
  | some a, some as => some (a :: as)
  | _, _ => none
def zM1 : Option (List AC) → AV
 | some as => .agg as
 | none => .any
def vM0 : Value → AV
 | .slice none 0 0 => .one .nil
 | .slice _ _ _ => .any
 | .agg xs => zM1 (wp0 xs.toList)
 | .tuple _ => .any
 | v => .one (.c (.v v))
def opv (s : St) : Operand → AV
 | .tmp t => s.sl t
 | .const v => vM0 v
 | .func f => .one (.c (.v (.func (.func f) #[] #[])))
 | .global _ => .any
def TyD.agg : TyD → Bool
 | .struct _ _ => true
 | _ => false
def AV.cs : AV → Option (List AC)
 | .one a => some [a]
 | .agg as => some as
 | _ => none
def qJ1 (agg : Bool) (as : List AC) : Option AV :=
 if agg then some (.agg as) else match as with
  | [a] => some (.one a)
  | _ => none
def splice (cells : List AC) (off : Nat) (xs : List AC) : List AC := cells.take off ++ (xs ++ cells.drop (off + xs.length))
def jv0 (place : Nat → Option (Nat × Nat)) (cells : List AC) : List (Nat × AV) → Option (List AC)
 | [] => some cells
 | (i, v) :: rest =>
  match place i, v.cs with
  | some (off, size), some xs => if xs.length = size ∧ off + xs.length ≤ cells.length then jv0 place (splice cells off xs) rest else none
  | _, _ => none
def jp0 (sz : Nat) : Nat → List AC → List (List AC)
 | 0, _ => []
 | n + 1, l => l.take sz :: jp0 sz n (l.drop sz)
def unD : AC → AC
 | .d x => .c x
 | .m _ => .any
 | a => a
abbrev mP0 (n : Int) : AV := .one (.c (.v (.int .i64 n)))
abbrev jB0 (b : Bool) : AV := .one (.c (.v (.bool b)))
abbrev xJ1 (s : ByteArray) : AV := .one (.c (.v (.string s)))
def cA0 (tab : Tab) (lb : Lk) (t : TypeId) (p : AV) : Option (Prop × AV) :=
 match tab t, p with
 | some ti, .one (.ptr l off) =>
  match lb l with
  | some (.var cells) => if off + ti.size ≤ cells.length then (qJ1 ti.d.agg ((cells.drop off).take ti.size)).map fun v => (True, v) else none
  | _ => none
 | some ti, .one (.ep l n i off) =>
  match lb l with
  | some (.arr _ sz rows _) => if n = rows.length ∧ off + ti.size ≤ sz then
    (if ti.d.agg then some (True, .agg ((((rows.getD i []).drop off).take ti.size).map unD))
     else if ti.size = 1 then some (True, .one (unD ((rows.getD i []).getD off .any))) else none) else none
  | _ => none
 | some ti, .one (.ip cs) =>
  if ti.d.agg then some (ti.size ≤ cs.length, .agg ((cs.take ti.size).map .c)) else if ti.size = 1 then some (0 < cs.length, .one (.c (cs.getD 0 (.v (.bool false))))) else none
 | _, _ => none
def zs1 (k : IntKind) (n : Int) : AV := .one (.c (.v (.int k n)))
def nL0 (op : BinOp) (k : IntKind) (a b : Int) : Option (Prop × AV) :=
 match op with
 | .add => some (True, zs1 k (k.wrap (a + b)))
 | .sub => some (True, zs1 k (k.wrap (a - b)))
 | .mul => some (True, zs1 k (k.wrap (a * b)))
 | .quo => some (b ≠ 0, zs1 k (k.wrap (a.tdiv b)))
 | .rem => some (b ≠ 0, zs1 k (a.tmod b))
 | .eql => some (True, jB0 (a == b))
 | .neq => some (True, jB0 (a != b))
 | .lss => some (True, jB0 (decide (a < b)))
 | .leq => some (True, jB0 (decide (a ≤ b)))
 | .gtr => some (True, jB0 (decide (a > b)))
 | .geq => some (True, jB0 (decide (a ≥ b)))
 | .and => some (True, zs1 k (k.wrap ((BitVec.ofInt k.bits a &&& BitVec.ofInt k.bits b).toNat : Nat)))
 | .xor => some (True, zs1 k (k.wrap ((BitVec.ofInt k.bits a ^^^ BitVec.ofInt k.bits b).toNat : Nat)))
 | _ => none
def nM0 (op : BinOp) (k : IntKind) (a b : Int) : Option (Prop × AV) :=
 match op with
 | .shr => some (0 ≤ b, zs1 k (a.fdiv (2 ^ (min b.toNat k.bits))))
 | _ => none
def nN0 (op : BinOp) (x y : ByteArray) : Option (Prop × AV) :=
 match op with
 | .add => some (((x.size + y.size : Nat) : Int) ≤ 9223372036854775807, xJ1 (x ++ y))
 | .eql => some (True, jB0 (x.toList == y.toList))
 | .neq => some (True, jB0 (!(x.toList == y.toList)))
 | .lss => some (True, jB0 (Op.bytesLess x.toList y.toList))
 | _ => none
def wv1 (as bs : List AC) : List (Nat × CK) → Option Bool
 | [] => some true
 | (o, c) :: l => match c, as[o]?, bs[o]?, wv1 as bs l with
  | .int _, some (.c (.v (.int k a))), some (.c (.v (.int k' b))), some r => if k = k' then some ((a == b) && r) else none
  | .str, some (.c (.v (.string a))), some (.c (.v (.string b))), some r => some ((a == b) && r)
  | .bool, some (.c (.v (.bool a))), some (.c (.v (.bool b))), some r => some ((a == b) && r)
  | _, _, _, _ => none
def kN1 : AC → Option Bool
 | .nil => some true
 | .e1 => some false
 | .c (.sl (_ :: _)) => some false
 | _ => none
def vX1 (tab : Tab) (op : BinOp) (t : TypeId) (x y : AV) : Option (Prop × AV) :=
 match x, y with
 | .one (.c (.v (.int k a))), .one (.c (.v (.int k' b))) => if k = k' then nL0 op k a b else nM0 op k a b
 | .one (.c (.v (.string a))), .one (.c (.v (.string b))) => nN0 op a b
 | .one (.c (.v (.bool a))), .one (.c (.v (.bool b))) =>
  match tab t, op with
  | some ⟨.bool, _, _, _⟩, .eql => some (True, jB0 (a == b))
  | some ⟨.bool, _, _, _⟩, .neq => some (True, jB0 (!(a == b)))
  | _, _ => none
 | .agg as, .agg bs =>
  match tab t, op with
  | some ⟨.struct _ (some l), _, _, _⟩, .eql => (wv1 as bs l).map fun r => (True, jB0 r)
  | some ⟨.struct _ (some l), _, _, _⟩, .neq => (wv1 as bs l).map fun r => (True, jB0 (!r))
  | _, _ => none
 | .one a, .one .nil =>
  match tab t, op with
  | some ⟨.slice _, _, _, _⟩, .eql => (kN1 a).map fun b => (True, jB0 b)
  | some ⟨.slice _, _, _, _⟩, .neq => (kN1 a).map fun b => (True, jB0 (!b))
  | _, _ => none
 | _, _ => none
def kJ1 (lb : Lk) (t : Option TI) (x : AV) : Option (Prop × AV) :=
 match t, x with
 | some ⟨.slice _, _, _, _⟩, .one (.c (.sl rows)) => some (True, mP0 rows.length)
 | some ⟨.slice _, _, _, _⟩, .one .nil => some (True, mP0 0)
 | some ⟨.slice _, _, _, _⟩, .one .e1 => some (True, mP0 0)
 | some ⟨.slice _, _, _, _⟩, .one .e0 => some (True, mP0 0)
 | some ⟨.slice _, _, _, _⟩, .one (.own l n) => (match lb l with | some (.arr _ _ rows _) => if n = rows.length then some (True, mP0 n) else none | _ => none)
 | some ⟨.slice _, _, _, _⟩, .one (.tk k i) => (match lb k with | some (.tok xs) => (match xs[i]? with | some (some (.sl rows)) => some (True, mP0 rows.length) | _ => none) | _ => none)
 | some ⟨.str, _, _, _⟩, .one (.c (.v (.string s))) => some (True, mP0 s.size)
 | _, _ => none
def xC0 (tab : Tab) (t : Option TI) (x : AV) (lo hi : Option AV) : Option (Prop × AV) :=
 match t, x, lo, hi with
 | some ⟨.str, _, _, _⟩, .one (.c (.v (.string s))), some (.one (.c (.v (.int .i64 l)))), some (.one (.c (.v (.int .i64 h)))) => some (0 ≤ l ∧ l ≤ h ∧ h ≤ s.size, xJ1 (s.extract l.toNat h.toNat))
 | some ⟨.str, _, _, _⟩, .one (.c (.v (.string s))), some (.one (.c (.v (.int .i64 l)))), none => some (0 ≤ l ∧ l ≤ s.size, xJ1 (s.extract l.toNat s.size))
 | some ⟨.str, _, _, _⟩, .one (.c (.v (.string s))), none, some (.one (.c (.v (.int .i64 h)))) => some (0 ≤ h ∧ h ≤ s.size, xJ1 (s.extract 0 h.toNat))
 | some ⟨.slice e, _, _, _⟩, .one (.c (.sl rows)), lo, hi =>
  match tab e with
  | some ti => (match lo, hi with
   | some (.one (.c (.v (.int .i64 l)))), none => some (0 ≤ l ∧ l ≤ rows.length ∧ (∀ r, r ∈ rows → r.length = ti.size), .one (.c (.sl (rows.drop l.toNat))))
   | none, some (.one (.c (.v (.int .i64 h)))) => some (0 ≤ h ∧ h ≤ rows.length ∧ (∀ r, r ∈ rows → r.length = ti.size), .one (.c (.sl (rows.take h.toNat))))
   | some (.one (.c (.v (.int .i64 l)))), some (.one (.c (.v (.int .i64 h)))) => some (0 ≤ l ∧ l ≤ h ∧ h ≤ rows.length ∧ (∀ r, r ∈ rows → r.length = ti.size), .one (.c (.sl ((rows.take h.toNat).drop l.toNat))))
   | _, _ => none)
  | none => none
 | _, _, _, _ => none
def cU0 (tab : Tab) (t : Option TI) (x lo hi mx : AV) : Option (Prop × AV) :=
 match t, x, lo, hi, mx with
 | some ⟨.slice e, _, _, _⟩, .one (.c (.sl _)), .one (.c (.v (.int .i64 0))), .one (.c (.v (.int .i64 0))), .one (.c (.v (.int .i64 0))) => (tab e).map fun _ => (True, .one .e0)
 | _, _, _, _, _ => none
def qV0 (lb : Lk) (t : Option TI) (p : AV) (f : Nat) : Option (Prop × AV) :=
 match t with
 | some ⟨.struct fs _, _, _, _⟩ =>
  match fs[f]? with
  | some (fo, _) => (match p with
   | .one (.ptr l off) => (match lb l with | some (.var _) => some (True, .one (.ptr l (off + fo))) | _ => none)
   | .one (.ep l n i off) => (match lb l with | some (.arr _ _ rows _) => if n = rows.length then some (True, .one (.ep l n i (off + fo))) else none | _ => none)
   | .one (.ip cs) => some (fo ≤ cs.length, .one (.ip (cs.drop fo)))
   | _ => none)
  | none => none
 | _ => none
def nb0 (t : Option TI) (x : AV) (f : Nat) : Option (Prop × AV) :=
 match t with
 | some ⟨.struct fs _, _, _, _⟩ =>
  match fs[f]? with
  | some (off, size) => (match x with
   | .agg cs => if size ≠ 1 ∧ off + size ≤ cs.length then some (True, .agg ((cs.drop off).take size)) else none
   | _ => none)
  | none => none
 | _ => none
def jj1 (lb : Lk) (p : AV) : Option (Prop × AV) :=
 match p with
 | .one (.ptr l off) => (match lb l with | some (.var _) => some (True, .one (.ptr l off)) | _ => none)
 | .one (.ip cs) => some (True, .one (.ip cs))
 | _ => none
def qX0 (tab : Tab) (lb : Lk) (t : TypeId) (x i : AV) : Option (Prop × AV) :=
 match tab t, i with
 | some ⟨.slice e, _, _, _⟩, .one (.c (.v (.int .i64 i))) =>
  match tab e, x with
  | some ti, .one (.c (.sl rows)) => some (0 ≤ i ∧ i < rows.length ∧ (rows.getD i.toNat []).length = ti.size, .one (.ip (rows.getD i.toNat [])))
  | some ti, .one (.own l n) => (match lb l with | some (.arr _ sz rows _) => if n = rows.length ∧ sz = ti.size then some (0 ≤ i ∧ i < n, .one (.ep l n i.toNat 0)) else none | _ => none)
  | _, _ => none
 | _, _ => none
def dq0 (t : Option TI) (x i : AV) : Option (Prop × AV) :=
 match t, x, i with
 | some ⟨.str, _, _, _⟩, .one (.c (.v (.string s))), .one (.c (.v (.int .i64 i))) => some (0 ≤ i ∧ i < s.size, .one (.c (.v (.int .u8 (s.data.getD i.toNat 0).toNat))))
 | _, _, _ => none
def xb1 (x y : AV) : Option (Prop × AV) :=
 match x, y with
 | .one (.c (.v (.int k a))), .one (.c (.v (.int _ b))) => some (True, zs1 k (if b > a then b else a))
 | _, _ => none
def zt1 : List AC → Bool
 | [.c (.v (.int .u8 _))] => true
 | _ => false
def dD0 : List AC → Int
 | [.c (.v (.int .u8 m))] => m
 | _ => 0
def zA1 (rows : List (List AC)) : ByteArray := (rows.map dD0).foldl (fun r n => r.push (UInt8.ofNat n.toNat)) ByteArray.empty
def ls0 (tab : Tab) (lb : Lk) (src dst : TypeId) (x : AV) : Option (Prop × AV) :=
 match tab src, tab dst, x with
 | some ⟨.int _, _, _, _⟩, some ⟨.int k, _, _, _⟩, .one (.c (.v (.int _ n))) => some (True, zs1 k (k.wrap n))
 | some ⟨.slice e, _, _, _⟩, some ⟨.str, _, _, _⟩, .one (.own l n) => (match tab e with
  | some ⟨.int .u8, _, _, _⟩ => (match lb l with
   | some (.arr _ _ rows _) => if n = rows.length then some (∀ r, r ∈ rows → zt1 r = true, xJ1 (zA1 rows)) else none
   | _ => none)
  | _ => none)
 | _, _, _ => none
def bY0 : List AV → Option (List AC)
 | [] => some []
 | .one a :: vs => (bY0 vs).map fun as => a :: as
 | _ => none
def wz0 (tab : Tab) (s : St) (c : Call) : Option (Prop × AV) :=
 match c.callee with
 | .builtin .len => (match c.args.toList, c.argTypes.toList with | [x], [t] => kJ1 s.lb (tab t) (opv s x) | _, _ => none)
 | .builtin .max => (match c.args.toList with | [x, y] => xb1 (opv s x) (opv s y) | _ => none)
 | _ => none
def jO0 (tab : Tab) (o : Oper) (s : St) : Option (Prop × AV) :=
 match o.op with
 | .move x => some (True, opv s x)
 | .assign x => some (True, opv s x)
 | .pick c a b => (match opv s c with | .one (.c (.v (.bool t))) => some (True, if t then opv s a else opv s b) | _ => none)
 | .build t parts => (match tab t with
  | some ⟨.struct fs _, _, _, zero⟩ => (jv0 (fun i => fs[i]?) zero (parts.toList.map fun (i, x) => (i, opv s x))).map fun cs => (True, .agg cs)
  | _ => none)
 | .load t x => cA0 tab s.lb t (opv s x)
 | .binOp op t x y _ => vX1 tab op t (opv s x) (opv s y)
 | .unOp .not _ x => (match opv s x with | .one (.c (.v (.bool b))) => some (True, jB0 (!b)) | _ => none)
 | .fieldAddr t x f => qV0 s.lb (tab t) (opv s x) f
 | .nilCheck x => jj1 s.lb (opv s x)
 | .indexAddr t x i => qX0 tab s.lb t (opv s x) (opv s i)
 | .index t x i => dq0 (tab t) (opv s x) (opv s i)
 | .slice t x lo hi none => xC0 tab (tab t) (opv s x) (lo.map (opv s)) (hi.map (opv s))
 | .slice t x (some lo) (some hi) (some mx) => cU0 tab (tab t) (opv s x) (opv s lo) (opv s hi) (opv s mx)
 | .convert t t' x => ls0 tab s.lb t t' (opv s x)
 | .extract x i => (match opv s x with | .tup vs => (vs[i]?).map fun v => (True, v) | _ => none)
 | .field t x f => nb0 (tab t) (opv s x) f
 | .makeFunc (.func f) fst caps => (match fst.toList with | [] => (bY0 (caps.toList.map (opv s))).map fun cs => (True, .one (.clo f cs)) | _ => none)
 | .call c => wz0 tab s c
 | _ => none
inductive Eff where
 | val (v : AV)
 | new (v : AV) (B : LB)
 | upd (v : AV) (l : Nat) (B : LB)
def pV0 (lb : Lk) (y : AV) : Option (List (List AC)) :=
 match y with
 | .one (.c (.sl rows)) => some (rows.map fun r => r.map .c)
 | .one .nil => some []
 | .one .e1 => some []
 | .one .e0 => some []
 | .one (.own l n) => (match lb l with | some (.arr _ _ rows _) => if n = rows.length then some (rows.map fun r => r.map unD) else none | _ => none)
 | _ => none
def yz0 (tab : Tab) (lb : Lk) (d : Nat) (e : TypeId) (x y : AV) : Option (Prop × Eff) :=
 match tab e with
 | none => none
 | some ti =>
  match x with
  | .one (.own l n) => (match pV0 lb y, lb l with
   | some more, some (.arr e' sz rows fz) => if e = e' ∧ sz = ti.size ∧ n = rows.length then
     some ((∀ r, r ∈ more → r.length = ti.size) ∧ (rows.length + more.length) * ti.bytes ≤ 140737488355328 ∧ rows.length + more.length ≤ 140737488355328, .upd (.one (.own l (n + more.length))) l (.arr e sz (rows ++ more) fz)) else none
   | _, _ => none)
  | .one .nil => (match pV0 lb y with
   | some [] => some (True, .val (.one .nil))
   | some (m0 :: more) => if 0 < ti.size then some (0 < (m0 :: more).length ∧ (∀ r, r ∈ m0 :: more → r.length = ti.size) ∧ (m0 :: more).length * ti.bytes ≤ 140737488355328 ∧ (m0 :: more).length ≤ 140737488355328, .new (.one (.own d (m0 :: more).length)) (.arr e ti.size (m0 :: more) false)) else none
   | none => none)
  | .one .e0 => (match pV0 lb y with
   | some [] => some (True, .val (.one .e0))
   | some (m0 :: more) => if 0 < ti.size then some (0 < (m0 :: more).length ∧ (∀ r, r ∈ m0 :: more → r.length = ti.size) ∧ (m0 :: more).length * ti.bytes ≤ 140737488355328 ∧ (m0 :: more).length ≤ 140737488355328, .new (.one (.own d (m0 :: more).length)) (.arr e ti.size (m0 :: more) false)) else none
   | none => none)
  | _ => none
def kv0 (tab : Tab) (lb : Lk) (t : TypeId) (p x : AV) : Option (Prop × Eff) :=
 match tab t, p, x.cs with
 | some ti, .one (.ptr l off), some xs => (match lb l with
  | some (.var cells) => if xs.length = ti.size ∧ off + xs.length ≤ cells.length then some (True, .upd .any l (.var (splice cells off xs))) else none
  | _ => none)
 | some ti, .one (.ep l n i off), some xs => (match lb l with
  | some (.arr e sz rows false) => if xs.length = ti.size ∧ off + xs.length ≤ sz ∧ n = rows.length then some (∀ a, a ∈ ((rows.getD i []).drop off).take xs.length → unD a = a, .upd .any l (.arr e sz (rows.set i (splice (rows.getD i []) off xs)) false)) else none
  | _ => none)
 | _, _, _ => none
def xO0 (tab : Tab) (o : Oper) (s : St) (c : Call) : Option (Prop × Eff) :=
 match c.callee with
 | .builtin .append => (match c.args.toList, c.argTypes.toList with
  | [x, y], [t, t'] => (match tab t with
   | some ⟨.slice e, _, _, _⟩ => if t = t' then yz0 tab s.lb (o.dst.getD 0) e (opv s x) (opv s y) else none
   | _ => none)
  | _, _ => none)
 | _ => (wz0 tab s c).map fun (p, v) => (p, .val v)
def kQ0 (tab : Tab) (o : Oper) (s : St) : Option (Prop × Eff) :=
 match o.op with
 | .alloc t => (tab t).map fun ti => (True, .new (.one (.ptr (o.dst.getD 0) 0)) (.var ti.zero))
 | .box _ x => (opv s x).cs.map fun cs => (True, .new (.one (.ptr (o.dst.getD 0) 0)) (.var cs))
 | .buildSlice t len parts => (match tab t with
  | some ⟨.slice e, _, _, _⟩ => (match tab e with
   | some ti => if 0 < ti.size ∧ len * ti.size ≤ 16777216 then
     (jv0 (fun i => some (i * ti.size, ti.size)) (List.replicate len ti.zero).flatten (parts.toList.map fun (i, x) => (i, opv s x))).map fun cs =>
      (True, .new (.one (.own (o.dst.getD 0) len)) (.arr e ti.size (jp0 ti.size len cs) false)) else none
   | none => none)
  | _ => none)
 | .makeSlice t x y => (match tab t with
  | some ⟨.slice e, _, _, _⟩ => (match tab e, opv s x, opv s y with
   | some ti, .one (.c (.v (.int .i64 n))), .one (.c (.v (.int .i64 m))) => if 0 < ti.size then
     some (n = m ∧ 0 ≤ n ∧ n ≤ 140737488355328 ∧ n * ti.bytes ≤ 140737488355328, .new (.one (.own (o.dst.getD 0) n.toNat)) (.arr e ti.size (List.replicate n.toNat ti.zero) false)) else none
   | _, _, _ => none)
  | _ => none)
 | .store t p x => kv0 tab s.lb t (opv s p) (opv s x)
 | .call c => xO0 tab o s c
 | _ => (jO0 tab o s).map fun (p, v) => (p, .val v)
def Eff.app : Eff → Option Tmp → St → St
 | .val v, d, s => s.set d v
 | .new v B, d, s => (s.put (d.getD 0) B).set d v
 | .upd v l B, d, s => (s.put l B).set d v
def Eff.ok : Eff → Option Tmp → St → Prop
 | .val _, d, s => ∀ t, d = some t → t < s.n
 | .new _ _, d, s => ∃ t, d = some t ∧ t < s.n ∧ s.lb t = none
 | .upd _ _ _, d, s => ∀ t, d = some t → t < s.n
end Go.Ai
