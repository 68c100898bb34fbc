/- The abstract heap machine: a deterministic evaluator over the model's own code; its heap has blocks with numbers, no capacities and no draws. No condition. -/
import Derived.Below
import Derived.OrdersHeld
import Derived.Deep.MidRow
import Derived.Deep.AppendSrc
import Derived.KernelRfl
set_option linter.unusedVariables false
set_option linter.unusedSimpArgs false
namespace Go.Proofs.Ythoabddfionmoaa.AH
open Go

inductive V where
  | int (k : IntKind) (n : Int)
  | bool (b : Bool)
  | str (s : ByteArray)
  | ptr (id off : Nat)
  | sl (e id off len : Nat)
  | fn (f : Nat) (caps : List (Nat × Nat))
  | agg (cs : List V)
  | tup (vs : List V)
  deriving Inhabited

structure Blk where
  cells : List V
  ver : Nat
  alive : Bool
  deriving Inhabited

structure H where
  lo : Nat
  next : Nat
  blk : Nat → Blk

def H.upd (h : H) (id : Nat) (b : Blk) : H := { h with blk := fun j => if j = id then b else h.blk j }
def H.load (h : H) (id off n : Nat) : Option (List V) :=
  if (h.blk id).alive = true ∧ off + n ≤ (h.blk id).cells.length then some (((h.blk id).cells.drop off).take n) else none
def H.store (h : H) (id off : Nat) (vs : List V) : Option H :=
  if (h.blk id).alive = true ∧ h.lo ≤ id ∧ off + vs.length ≤ (h.blk id).cells.length then
    some (h.upd id ⟨(h.blk id).cells.take off ++ vs ++ (h.blk id).cells.drop (off + vs.length), (h.blk id).ver + 1, true⟩) else none
def H.new (h : H) (cs : List V) : H := { h with next := h.next + 1, blk := fun j => if j = h.next then ⟨cs, (h.blk h.next).ver, true⟩ else h.blk j }
def H.kill (h : H) (id : Nat) : H := h.upd id ⟨(h.blk id).cells, (h.blk id).ver + 1, false⟩

abbrev Env := List (Nat × V)
def Env.get : Env → Nat → Option V
  | [], _ => none
  | (k, v) :: r, t => if k = t then some v else Env.get r t
def Env.put : Env → Nat → V → Env
  | [], t, v => [(t, v)]
  | (k, u) :: r, t, v => if k = t then (k, v) :: r else (k, u) :: Env.put r t v
def Env.del : Env → Nat → Env
  | [], _ => []
  | (k, u) :: r, t => if k = t then Env.del r t else (k, u) :: Env.del r t
def Env.keep (ks : List Nat) (E : Env) : Env := ks.filterMap fun k => (Env.get E k).map fun v => (k, v)

/-! ### Constants -/
def ofC : Value → Option V
  | .int k n => some (.int k n)
  | .bool b => some (.bool b)
  | .string s => some (.str s)
  | .pointer none => some (.ptr 0 0)
  | .slice none 0 0 => some (.sl 0 0 0 0)
  | _ => none
def ofCs : List Value → Option (List V)
  | [] => some []
  | c :: r => (ofC c).bind fun v => (ofCs r).map (v :: ·)
def ofV : Value → Option V
  | .agg cs => (ofCs cs.toList).map V.agg
  | c => ofC c
def V.one : V → Bool
  | .agg _ | .tup _ => false
  | _ => true

def opd (E : Env) : Operand → Option V
  | .tmp t => Env.get E t
  | .const v => ofV v
  | .func f => some (.fn f [])
  | .global _ => none

/-! ### Types, out of the program's own table -/
section
variable (P : Program)
def ldTy (t : TypeId) : Option (Nat × Bool) :=
  match P.underlying t, P.info? t with
  | some d, some i => some (i.size, d.isRow)
  | _, _ => none
def zeroOf (t : TypeId) : Option (List V) :=
  match P.info? t with
  | some i => match i.zero with
    | some z => ofCs z.cells.toList
    | none => none
  | none => none
/-- The element type, its cells and bytes. -/
def elemOf' (t : TypeId) : Option (TypeId × Nat × Nat) :=
  match P.underlying t with
  | some (.slice e) => match P.info? e with
    | some i => if 0 < i.size then some (e, i.size, i.bytes) else none
    | none => none
  | _ => none
/-- A field: its place, its cells, is it a row. -/
def fieldOf (s : TypeId) (f : Nat) : Option (Nat × Nat × Bool) :=
  match P.underlying s with
  | some (.struct fields) => match fields[f]? with
    | some fd => match ldTy P fd.type with
      | some (n, row) => if n = 0 then none else some (fd.offset, n, row)
      | none => none
    | none => none
  | _ => none

/-! ### Values' operations -/
def ldV (h : H) (t : TypeId) : V → Option V
  | .ptr id off => (ldTy P t).bind fun x => if x.2 then (h.load id off x.1).map V.agg else (h.load id off 1).bind List.head?
  | _ => none
def intOp (op : BinOp) (k : IntKind) (x y : Int) : Option V :=
  match op with
  | .add => some (.int k (k.wrap (x + y)))
  | .sub => some (.int k (k.wrap (x - y)))
  | .mul => some (.int k (k.wrap (x * y)))
  | .quo => if y = 0 then none else some (.int k (k.wrap (x.tdiv y)))
  | .rem => if y = 0 then none else some (.int k (x.tmod y))
  | .and => some (.int k (k.wrap (BitVec.ofInt k.bits x &&& BitVec.ofInt k.bits y).toNat))
  | .or => some (.int k (k.wrap (BitVec.ofInt k.bits x ||| BitVec.ofInt k.bits y).toNat))
  | .xor => some (.int k (k.wrap (BitVec.ofInt k.bits x ^^^ BitVec.ofInt k.bits y).toNat))
  | .andNot => some (.int k (k.wrap (BitVec.ofInt k.bits x &&& ~~~ BitVec.ofInt k.bits y).toNat))
  | .eql => some (.bool (x == y))
  | .neq => some (.bool (x != y))
  | .lss => some (.bool (x < y))
  | .leq => some (.bool (x ≤ y))
  | .gtr => some (.bool (x > y))
  | .geq => some (.bool (x ≥ y))
  | _ => none
def shOp (op : BinOp) (k : IntKind) (x y : Int) : Option V :=
  if y < 0 then none else
    match op with
    | .shl => some (.int k (k.wrap (x * 2 ^ (min y.toNat k.bits))))
    | .shr => some (.int k (x.fdiv (2 ^ (min y.toNat k.bits))))
    | _ => none
def strOp (op : BinOp) (x y : ByteArray) : Option V :=
  match op with
  | .add => if ((x.size + y.size : Nat) : Int) > IntKind.i64.max then none else some (.str (x ++ y))
  | .eql => some (.bool (x.toList == y.toList))
  | .neq => some (.bool !(x.toList == y.toList))
  | .lss => some (.bool (Op.bytesLess x.toList y.toList))
  | .leq => some (.bool (Op.bytesLess x.toList y.toList || x.toList == y.toList))
  | .gtr => some (.bool !(Op.bytesLess x.toList y.toList || x.toList == y.toList))
  | .geq => some (.bool !(Op.bytesLess x.toList y.toList))
  | _ => none
/-- The part of a struct at a field. -/
def partV (n : Nat) (row : Bool) (cs : List V) (off : Nat) : Option V :=
  if row then (if off + n ≤ cs.length then some (.agg ((cs.drop off).take n)) else none) else cs[off]?
def eqFields (eq : TypeId → V → V → Option Bool) (xs ys : List V) : List Field → Option Bool
  | [] => some true
  | f :: r =>
    if f.name = "_" then eqFields eq xs ys r else
    match ldTy P f.type with
    | some (n, row) => (partV n row xs f.offset).bind fun x => (partV n row ys f.offset).bind fun y => (eq f.type x y).bind fun b => if b then eqFields eq xs ys r else some false
    | none => none
def eqV : Nat → TypeId → V → V → Option Bool
  | 0, _, _, _ => none
  | d + 1, t, x, y =>
    match P.underlying t, x, y with
    | some .bool, .bool a, .bool b => some (a == b)
    | some (.int _), .int k a, .int k' b => if k = k' then some (a == b) else none
    | some .string, .str a, .str b => some (a == b)
    | some (.slice _), .sl _ a _ _, .sl _ b _ _ => if a = 0 then some (b == 0) else if b = 0 then some false else none
    | some (.pointer _), .ptr a _, .ptr b _ => if a = 0 then some (b == 0) else if b = 0 then some false else none
    | some (.struct fields), .agg xs, .agg ys => if P.stoodInHeld t then none else eqFields P (eqV d) xs ys fields.toList
    | _, _, _ => none
def binV (op : BinOp) (t : TypeId) (x y : V) : Option V :=
  match op, x, y with
  | .shl, .int k a, .int _ b => shOp .shl k a b
  | .shr, .int k a, .int _ b => shOp .shr k a b
  | op, .int k a, .int k' b => if k = k' then intOp op k a b else none
  | op, .str a, .str b => strOp op a b
  | .eql, .agg x, .agg y => if P.eqGuardType P.depth t then none else (eqV P Op.maxDepth t (.agg x) (.agg y)).map V.bool
  | .neq, .agg x, .agg y => if P.eqGuardType P.depth t then none else (eqV P Op.maxDepth t (.agg x) (.agg y)).map fun b => V.bool !b
  | .eql, .bool x, .bool y => (eqV P Op.maxDepth t (.bool x) (.bool y)).map V.bool
  | .neq, .bool x, .bool y => (eqV P Op.maxDepth t (.bool x) (.bool y)).map fun b => V.bool !b
  | .eql, .sl x a b c, .sl y d e f => (eqV P Op.maxDepth t (.sl x a b c) (.sl y d e f)).map V.bool
  | .neq, .sl x a b c, .sl y d e f => (eqV P Op.maxDepth t (.sl x a b c) (.sl y d e f)).map fun b => V.bool !b
  | .eql, .ptr a b, .ptr d e => (eqV P Op.maxDepth t (.ptr a b) (.ptr d e)).map V.bool
  | .neq, .ptr a b, .ptr d e => (eqV P Op.maxDepth t (.ptr a b) (.ptr d e)).map fun b => V.bool !b
  | _, _, _ => none
def unV (op : UnOp) (x : V) : Option V :=
  match op, x with
  | .neg, .int k n => some (.int k (k.wrap (0 - n)))
  | .xor, .int k n => some (.int k (k.wrap (BitVec.ofInt k.bits (if k.signed then -1 else k.max) ^^^ BitVec.ofInt k.bits n).toNat))
  | .not, .bool b => some (.bool !b)
  | _, _ => none
def byteOfV : V → Option UInt8
  | .int .u8 n => some (UInt8.ofNat n.toNat)
  | _ => none
def bytesOf : List V → Option (List UInt8)
  | [] => some []
  | v :: r => (byteOfV v).bind fun b => (bytesOf r).map (b :: ·)
/-- The conversions that write nothing. -/
def cvV (h : H) (src dst : TypeId) (x : V) : Option V :=
  match P.underlying src, P.underlying dst, x with
  | some _, some (.int k), .int _ n => some (.int k (k.wrap n))
  | some _, some .string, .str s => some (.str s)
  | some (.slice e), some .string, .sl _ id off len =>
    match P.underlying e with
    | some (.int .u8) => if id = 0 then some (.str .empty) else if len = 0 then some (.str .empty) else (h.load id off len).bind fun cs => (bytesOf cs).map fun l => .str ⟨l.toArray⟩
    | _ => none
  | _, _, _ => none
def bound (E : Env) (x : Option Operand) (d : Nat) (most : Nat) : Option Nat :=
  match x with
  | none => some d
  | some o => match opd E o with
    | some (.int _ n) => if 0 ≤ n ∧ n ≤ (most : Int) then some n.toNat else none
    | _ => none
/-- x[lo:hi:mx]. -/
def slV (E : Env) (t : TypeId) (x : V) (lo hi mx : Option Operand) : Option V :=
  match P.underlying t, x with
  | some .string, .str s =>
    if mx.isSome then none else (bound E hi s.size s.size).bind fun h => (bound E lo 0 h).bind fun l => some (.str (s.extract l h))
  | some (.slice e), .sl z id off len =>
    match P.info? e with
    | some i => if i.size = z ∨ id = 0 then (bound E mx len len).bind fun m => if mx.isSome && hi.isNone then none else (bound E hi len m).bind fun h => (bound E lo 0 h).bind fun l =>
        some (.sl z id (off + l * i.size) (h - l)) else none
    | none => none
  | _, _ => none
def fldAddr (s : TypeId) (f : Nat) : V → Option V
  | .ptr id off => if id = 0 then none else (fieldOf P s f).map fun x => .ptr id (off + x.1)
  | _ => none
def fldV (s : TypeId) (f : Nat) : V → Option V
  | .agg cs => (fieldOf P s f).bind fun x => partV x.2.1 x.2.2 cs x.1
  | _ => none
def idxAddr (t : TypeId) (x i : V) : Option V :=
  match x, i with
  | .sl _ id off len, .int _ n => (elemOf' P t).bind fun e => if 0 ≤ n ∧ n < (len : Int) then some (.ptr id (off + n.toNat * e.2.1)) else none
  | _, _ => none
def idxV (t : TypeId) (x i : V) : Option V :=
  match P.underlying t, x, i with
  | some .string, .str s, .int _ n => if 0 ≤ n then (s[n.toNat]?).map fun b => .int .u8 b.toNat else none
  | _, _, _ => none
def extV (x : V) (i : Nat) : Option V :=
  match x with
  | .tup vs => vs[i]?
  | _ => none
/-- A value into a list of cells. -/
def splice (cells : List V) (off : Nat) (vs : List V) : Option (List V) :=
  if off + vs.length ≤ cells.length then some (cells.take off ++ vs ++ cells.drop (off + vs.length)) else none
def cellsV : V → Option (List V)
  | .tup _ => none
  | .agg cs => some cs
  | v => some [v]
def fillV (place : Nat → Option (Nat × Nat)) (E : Env) : List (Nat × Operand) → List V → Option (List V)
  | [], cells => some cells
  | (i, o) :: r, cells => (opd E o).bind fun v => (cellsV v).bind fun vs => (place i).bind fun p => if vs.length = p.2 then (splice cells p.1 vs).bind fun cs => fillV place E r cs else none
def buildV (E : Env) (t : TypeId) (parts : List (Nat × Operand)) : Option V :=
  match P.underlying t with
  | some (.struct fields) => (zeroOf P t).bind fun z => (fillV (fun i => match fields[i]? with | some f => (P.info? f.type).map fun x => (f.offset, x.size) | none => none) E parts z).bind fun cs =>
      if fields.all (fun f => (P.info? f.type).isSome) then some (.agg cs) else none
  | _ => none
def lenV (t : TypeId) (x : V) : Option V :=
  match P.underlying t, x with
  | some .string, .str s => some (.int .i64 s.size)
  | some (.slice _), .sl _ _ _ n => some (.int .i64 n)
  | _, _ => none
def mmV (mx : Bool) : V → V → Option V
  | .int k x, .int _ y => some (.int k (if mx then (if x < y then y else x) else (if y < x then y else x)))
  | _, _ => none
def mmVs (mx : Bool) (E : Env) : V → List Operand → Option V
  | v, [] => some v
  | v, o :: r => (opd E o).bind fun x => (mmV mx v x).bind fun u => mmVs mx E u r
def capsOf (E : Env) : List Operand → Option (List (Nat × Nat))
  | [] => some []
  | o :: r => match opd E o with
    | some (.ptr id off) => if id = 0 then none else (capsOf E r).map ((id, off) :: ·)
    | _ => none
def opds (E : Env) : List Operand → Option (List V)
  | [] => some []
  | o :: r => (opd E o).bind fun v => (opds E r).map (v :: ·)

/-! ### The operations that write nothing -/
def isQ : Op → Bool
  | .move _ | .assign _ | .pick .. | .load .. | .nilCheck _ | .binOp .. | .unOp .. | .slice .. | .fieldAddr .. | .field .. | .indexAddr .. | .index .. | .extract .. | .build .. | .makeFunc .. => true
  | .convert _ d _ => match P.underlying d with | some (.slice _) => false | _ => true
  | .call c => match c.callee with | .builtin .len | .builtin .min | .builtin .max => true | _ => false
  | _ => false
def qOp (E : Env) (h : H) : Op → Option V
  | .move x | .assign x => opd E x
  | .pick c a b => (opd E c).bind fun c => match c with | .bool t => if t then opd E a else opd E b | _ => none
  | .load t a => (opd E a).bind (ldV P h t)
  | .nilCheck x => (opd E x).bind fun v => match v with | .ptr id off => if id = 0 then none else some (.ptr id off) | .fn f cs => some (.fn f cs) | _ => none
  | .binOp op t x y _ => (opd E x).bind fun a => (opd E y).bind fun b => binV P op t a b
  | .unOp op _ x => (opd E x).bind (unV op)
  | .convert s d x => (opd E x).bind (cvV P h s d)
  | .slice t x lo hi mx => (opd E x).bind fun v => slV P E t v lo hi mx
  | .fieldAddr s x f => (opd E x).bind (fldAddr P s f)
  | .field s x f => (opd E x).bind (fldV P s f)
  | .indexAddr t x i => (opd E x).bind fun a => (opd E i).bind fun b => idxAddr P t a b
  | .index t x i => (opd E x).bind fun a => (opd E i).bind fun b => idxV P t a b
  | .extract x i => (opd E x).bind fun v => extV v i
  | .build t parts => buildV P E t parts.toList
  | .makeFunc (.func f) first caps => if first.isEmpty then (capsOf E caps.toList).map (V.fn f) else none
  | .call c => match c.callee, c.args.toList, c.argTypes.toList with
    | .builtin .len, [x], t :: _ => (opd E x).bind (lenV P t)
    | .builtin .min, x :: r, _ => (opd E x).bind fun v => mmVs false E v r
    | .builtin .max, x :: r, _ => (opd E x).bind fun v => mmVs true E v r
    | _, _, _ => none
  | _ => none

/-! ### The operations that make or write memory, or call -/
def newV (h : H) (cs : List V) : Option V × H := (some (.ptr h.next 0), h.new cs)
/-- The cells of so many elements behind a slice or a string. -/
def srcV (h : H) (t : TypeId) (size : Nat) : V → Option (Nat × List V)
  | .sl _ id off n => match P.underlying t with
    | some (.slice _) => if id = 0 then some (0, []) else if n * size = 0 then (if n = 0 then some (0, []) else none) else (h.load id off (n * size)).map fun cs => (n, cs)
    | _ => none
  | .str s => match P.underlying t with
    | some .string => if size = 1 then some (s.size, s.data.toList.map fun b => V.int .u8 b.toNat) else none
    | _ => none
  | _ => none
def appV (h : H) (t tx : TypeId) (s x : V) : Option (Option V × H) :=
  match s with
  | .sl ez id off len => (elemOf' P t).bind fun e => (zeroOf P e.1).bind fun z => (srcV P h tx e.2.1 x).bind fun y =>
      if y.1 = 0 then some (some (.sl ez id off len), h) else
      if (len + y.1) * e.2.2 ≤ 140737488355328 ∧ len + y.1 ≤ 4611686018427387904 ∧ (id = 0 ∧ len = 0 ∨ (h.blk id).alive = true ∧ h.lo ≤ id ∧ id ≠ 0 ∧ ez = e.2.1) ∧ z.length = e.2.1 then
        (if len = 0 then some [] else h.load id off (len * e.2.1)).bind fun olds => some (some (.sl e.2.1 h.next 0 (len + y.1)), (h.new (olds ++ y.2)).kill id)
      else none
  | _ => none
def cvtW (h : H) (s d : TypeId) (v : V) : Option (V × H) :=
  match P.underlying s, P.underlying d, v with
  | some .string, some (.slice e), .str b => match P.underlying e with
    | some (.int .u8) => if b.size < 4611686018427387904 then some (.sl 1 h.next 0 b.size, h.new (b.data.toList.map fun c => V.int .u8 c.toNat)) else none
    | _ => none
  | _, _, _ => none
def eOp (call : Nat → List V → H → Option (V × H)) (E : Env) (h : H) : Op → Option (Option V × H)
  | .alloc t => (zeroOf P t).map fun z => newV h z
  | .box t x => (opd E x).bind fun v => (cellsV v).map fun cs => newV h cs
  | .buildSlice t n parts => (elemOf' P t).bind fun e => if n * e.2.1 ≤ 16777216 then (zeroOf P e.1).bind fun z =>
      if n * e.2.1 = 0 ∨ z.length = e.2.1 then
        (fillV (fun i => some (i * e.2.1, e.2.1)) E parts.toList ((List.replicate n z).flatten)).map fun cs => (some (.sl e.2.1 h.next 0 n), h.new cs)
      else none
    else none
  | .store t a x => (opd E a).bind fun p => (opd E x).bind fun v => (cellsV v).bind fun vs => match p with
    | .ptr id off => (ldTy P t).bind fun y => if vs.length = y.1 then (h.store id off vs).map fun h' => (none, h') else none
    | _ => none
  | .makeSlice t l c => (opd E l).bind fun a => (opd E c).bind fun b => (elemOf' P t).bind fun e => (zeroOf P e.1).bind fun z => match a, b with
    | .int _ n, .int _ m => if n = m ∧ 0 ≤ n ∧ n ≤ 4611686018427387904 ∧ (e.2.2 : Int) * n ≤ 281474976710656 ∧ z.length = e.2.1 then some (some (.sl e.2.1 h.next 0 n.toNat), h.new ((List.replicate n.toNat z).flatten)) else none
    | _, _ => none
  | .convert s d x => (opd E x).bind fun v => (cvtW P h s d v).map fun r => (some r.1, r.2)
  | .call c => match c.callee, c.args.toList, c.argTypes.toList with
    | .builtin .append, [s, x], t :: tx :: _ => (opd E s).bind fun a => (opd E x).bind fun b => appV P h t tx a b
    | .value f, args, _ => (opd E f).bind fun g => match g with
      | .fn k caps => (opds E args).bind fun vs => (call k (vs ++ caps.map fun p => V.ptr p.1 p.2) h).map fun r => (some r.1, r.2)
      | _ => none
    | _, _, _ => none
  | _ => none

/-! ### Regions -/
def wantedV (ops : Array Oper) (o : Oper) (E : Env) : Option Bool :=
  match o.guard with
  | none => some true
  | some (j, want) => match ((ops[j]?).bind (·.dst)).bind (Env.get E) with
    | some (.bool b) => some (b == want)
    | some (.tup []) => some false
    | _ => none
def put1 (N : Nat) (E : Env) (d : Option Tmp) (v : V) : Option Env :=
  match d with
  | none => some E
  | some d => if d < N then some (Env.put E d v) else none
/-- Is its value another's guard? -/
def isGuard (ops : Array Oper) (o : Oper) : Bool := ops.toList.any fun o' => match o'.guard with
  | some (j, _) => match (ops[j]?).bind (·.dst), o.dst with
    | some a, some b => a == b
    | _, _ => false
  | none => false
def gput (ops : Array Oper) (N : Nat) (o : Oper) (E : Env) (v : V) : Option Env :=
  match isGuard ops o with
  | true => match v with
    | .bool _ => put1 N E o.dst v
    | _ => none
  | false => put1 N E o.dst v
def del1 (E : Env) : Option Tmp → Env
  | none => E
  | some d => Env.del E d
def evOper (call : Nat → List V → H → Option (V × H)) (ops : Array Oper) (N : Nat) (o : Oper) (E : Env) (h : H) : Option (Env × H) :=
  (wantedV ops o E).bind fun b =>
    if b then
      if isQ P o.op then (qOp P E h o.op).bind fun v => (gput ops N o E v).map fun E' => (E', h)
      else (eOp P call E h o.op).bind fun r => match r.1 with
        | some v => (gput ops N o E v).map fun E' => (E', r.2)
        | none => some (del1 E o.dst, r.2)
    else (put1 N E o.dst (.tup [])).map fun E' => (E', h)
def evOps (call : Nat → List V → H → Option (V × H)) (ops : Array Oper) (N : Nat) : List Oper → Env → H → Option (Env × H)
  | [], E, h => some (E, h)
  | o :: r, E, h => (evOper P call ops N o E h).bind fun x => evOps call ops N r x.1 x.2

/-- What a quiet operation reads of the heap: its number, the block, the block's version. -/
def readsOf (E : Env) (h : H) (i : Nat) : Op → List (Nat × Nat × Nat)
  | .load _ a => match opd E a with | some (.ptr id _) => [(i, id, (h.blk id).ver)] | _ => []
  | .convert _ _ x => match opd E x with | some (.sl _ id _ n) => if n = 0 ∨ id = 0 then [] else [(i, id, (h.blk id).ver)] | _ => []
  | _ => []
def edgeOn (o : Oper) (i : Nat) : Bool := o.after.any fun e => Region.binds .any e && e.on == i
def pend (h' : H) (o : Oper) (L : List (Nat × Nat × Nat)) : Bool := L.all fun x => edgeOn o x.1 || (h'.blk x.2.1).ver == x.2.2
def pickNext (ops : Array Oper) (listed : Array Bool) : Option Nat :=
  match (Region.ready .any ops listed).find? (fun i => match ops[i]? with | some o => isQ P o.op && Region.free .any ops listed i | none => false) with
  | some i => some i
  | none => match Region.ready .any ops listed with
    | [i] => some i
    | _ => none
def evAny (call : Nat → List V → H → Option (V × H)) (ops : Array Oper) (N : Nat) : Nat → Array Bool → List (Nat × Nat × Nat) → Env → H → Option (Env × H)
  | 0, listed, _, E, h => if (Region.ready .any ops listed).isEmpty then some (E, h) else none
  | fuel + 1, listed, L, E, h =>
    if (Region.ready .any ops listed).isEmpty then some (E, h) else
    match pickNext P ops listed with
    | none => none
    | some i => match ops[i]? with
      | none => none
      | some o =>
        if isQ P o.op then
          if Region.free .any ops listed i then
            (wantedV ops o E).bind fun b =>
              if b then (qOp P E h o.op).bind fun v => (gput ops N o E v).bind fun E' => evAny call ops N fuel (listed.setIfInBounds i true) (readsOf E h i o.op ++ L) E' h
              else (put1 N E o.dst (.tup [])).bind fun E' => evAny call ops N fuel (listed.setIfInBounds i true) L E' h
          else none
        else (evOper P call ops N o E h).bind fun x => if pend x.2 o L then evAny call ops N fuel (listed.setIfInBounds i true) L x.1 x.2 else none

/-! ### Code -/
inductive X where
  | nrm
  | ex (id : Nat)
  | ret
  deriving DecidableEq
def firstReg : Code → Option Nat
  | .region id _ _ => some id
  | .seq a _ => firstReg a
  | .block _ c => firstReg c
  | .loop c => firstReg c
  | _ => none
def keepAt (ann : Nat → List Nat) (c : Code) (E : Env) : Env :=
  match firstReg c with
  | some r => Env.keep (ann r) E
  | none => E
def iterN (body : Env → H → Option (X × Env × H)) : Nat → Env → H → Option (X × Env × H)
  | 0, _, _ => none
  | n + 1, E, h => (body E h).bind fun r => match r.1 with
    | .nrm => iterN body n r.2.1 r.2.2
    | _ => some r
open Classical in
noncomputable def iterR (body : Env → H → Option (X × Env × H)) (E : Env) (h : H) : Option (X × Env × H) :=
  if hx : ∃ n r, iterN body n E h = some r then some (Classical.choose (Classical.choose_spec hx)) else none
noncomputable def evC (call : Nat → List V → H → Option (V × H)) (ann : Nat → List Nat) (N : Nat) : Code → Env → H → Option (X × Env × H)
  | .skip, E, h => some (.nrm, E, h)
  | .region _ ops false, E, h => (evOps P call ops N ops.toList E h).map fun x => (.nrm, x.1, x.2)
  | .region _ ops true, E, h => if Region.noSelect ops then (evAny P call ops N ops.size (Array.replicate ops.size false) [] E h).map fun x => (.nrm, x.1, x.2) else none
  | .seq a b, E, h => (evC call ann N a E h).bind fun r => match r.1 with
    | .nrm => evC call ann N b (keepAt ann b r.2.1) r.2.2
    | _ => some r
  | .cond c a b, E, h => match opd E c with
    | some (.bool t) => if t then evC call ann N a (keepAt ann a E) h else evC call ann N b (keepAt ann b E) h
    | _ => none
  | .block id c, E, h => (evC call ann N c E h).bind fun r => match r.1 with
    | .ex id' => if id' = id then some (.nrm, r.2.1, r.2.2) else some r
    | _ => some r
  | .loop c, E, h => iterR (fun E h => (evC call ann N c E h).map fun r => match r.1 with | .nrm => (.nrm, keepAt ann c r.2.1, r.2.2) | _ => r) (keepAt ann c E) h
  | .exit id, E, h => some (.ex id, E, h)
  | .ret, E, h => some (.ret, E, h)
  | .label _, E, h => some (.nrm, E, h)
  | _, _, _ => none

/-! ### Functions -/
def paramEnv : Nat → List V → Env
  | _, [] => []
  | i, v :: r => (i, v) :: paramEnv (i + 1) r
def resV (E : Env) (h : H) : ResultVar → Option V
  | .tmp t => Env.get E t
  | .cell a t => (Env.get E a).bind (ldV P h t)
def ntup : V → Option V
  | .tup _ => none
  | v => some v
def ressV (E : Env) (h : H) : List ResultVar → Option (List V)
  | [] => some []
  | r :: l => (resV P E h r).bind fun v => (ntup v).bind fun v => (ressV E h l).map (v :: ·)
def tupOf : List V → V
  | [v] => v
  | vs => .tup vs
noncomputable def evBody (call : Nat → List V → H → Option (V × H)) (ann : Nat → List Nat) (fn : Func) (args : List V) (h : H) : Option (V × H) :=
  match fn.body with
  | some c => if args.length ≤ fn.ntmps ∧ (fn.name == "runtime.NumGoroutine") = false then
      (evC P call ann fn.ntmps c (keepAt ann c (paramEnv 0 args)) h).bind fun r => match r.1 with
        | .ex _ => none
        | _ => (ressV P r.2.1 r.2.2 fn.results.toList).map fun vs => (tupOf vs, r.2.2)
    else none
  | none => none
/-- The functions whose meaning is given beside their text. -/
abbrev Prims := Nat → Option (List V → H → Option (V × H))
noncomputable def evF (prims : Prims) (ann : Nat → Nat → List Nat) : Nat → Nat → List V → H → Option (V × H)
  | 0, _, _, _ => none
  | n + 1, f, args, h => match prims f with
    | some p => p args h
    | none => match P.funcs[f]? with
      | some fn => evBody P (evF prims ann n) (ann f) fn args h
      | none => none
end
end Go.Proofs.Ythoabddfionmoaa.AH
