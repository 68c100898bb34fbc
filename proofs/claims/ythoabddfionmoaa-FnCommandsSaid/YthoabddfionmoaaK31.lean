/- The abstract heap machine: a deterministic evaluator over the model's own code; its heap has blocks with numbers, no capacities and no draws. The relation between the abstract heap and the model's world, and the operations that write nothing. The operations that write nothing, held against the model. The operations that write nothing, one by one. The operations that write nothing, the rest and all together. The operations that write nothing, all together. The operations that write nothing, all together: 'qOp_sim'. The operations that make or write memory: the heap's side. The operations that make or write memory, or call, held against the model. One operation, held against the model. Regions, in the text's order and in a drawn order, held against the model. Code and functions, held against the model: 'evF_sim'. Its conditions: each function whose meaning is given beside its text comes to it. No condition. -/
import Derived.Below
import Derived.OrdersHeld
import Derived.Deep.MidRow
import Derived.Deep.AppendSrc
import Derived.KernelRfl
import Derived.Laws.BytesArg
import Derived.Laws.IdiomStrings
import Derived.Laws.MakeOwn
import Derived.Deep.Upon
set_option linter.unusedVariables false
set_option linter.unusedSimpArgs false
namespace Go.Proofs.Ythoabddfionmoaa.AH
open Go

inductive V where
  | int (k : IntKind) (n : Int)
  | bool (b : Bool)
  | str (s : ByteArray)
  | ptr (id off : Nat)
  | sl (e id off len : Nat)
  | fn (f : Nat) (caps : List (Nat × Nat))
  | agg (cs : List V)
  | tup (vs : List V)
  deriving Inhabited

structure Blk where
  cells : List V
  ver : Nat
  alive : Bool
  deriving Inhabited

structure H where
  lo : Nat
  next : Nat
  blk : Nat → Blk

def H.upd (h : H) (id : Nat) (b : Blk) : H := { h with blk := fun j => if j = id then b else h.blk j }
def H.load (h : H) (id off n : Nat) : Option (List V) :=
  if (h.blk id).alive = true ∧ off + n ≤ (h.blk id).cells.length then some (((h.blk id).cells.drop off).take n) else none
def H.store (h : H) (id off : Nat) (vs : List V) : Option H :=
  if (h.blk id).alive = true ∧ h.lo ≤ id ∧ off + vs.length ≤ (h.blk id).cells.length then
    some (h.upd id ⟨(h.blk id).cells.take off ++ vs ++ (h.blk id).cells.drop (off + vs.length), (h.blk id).ver + 1, true⟩) else none
def H.new (h : H) (cs : List V) : H := { h with next := h.next + 1, blk := fun j => if j = h.next then ⟨cs, (h.blk h.next).ver, true⟩ else h.blk j }
def H.kill (h : H) (id : Nat) : H := h.upd id ⟨(h.blk id).cells, (h.blk id).ver + 1, false⟩

abbrev Env := List (Nat × V)
def Env.get : Env → Nat → Option V
  | [], _ => none
  | (k, v) :: r, t => if k = t then some v else Env.get r t
def Env.put : Env → Nat → V → Env
  | [], t, v => [(t, v)]
  | (k, u) :: r, t, v => if k = t then (k, v) :: r else (k, u) :: Env.put r t v
def Env.del : Env → Nat → Env
  | [], _ => []
  | (k, u) :: r, t => if k = t then Env.del r t else (k, u) :: Env.del r t
def Env.keep (ks : List Nat) (E : Env) : Env := ks.filterMap fun k => (Env.get E k).map fun v => (k, v)

/-! ### Constants -/
def ofC : Value → Option V
  | .int k n => some (.int k n)
  | .bool b => some (.bool b)
  | .string s => some (.str s)
  | .pointer none => some (.ptr 0 0)
  | .slice none 0 0 => some (.sl 0 0 0 0)
  | _ => none
def ofCs : List Value → Option (List V)
  | [] => some []
  | c :: r => (ofC c).bind fun v => (ofCs r).map (v :: ·)
def ofV : Value → Option V
  | .agg cs => (ofCs cs.toList).map V.agg
  | c => ofC c
def V.one : V → Bool
  | .agg _ | .tup _ => false
  | _ => true

def opd (E : Env) : Operand → Option V
  | .tmp t => Env.get E t
  | .const v => ofV v
  | .func f => some (.fn f [])
  | .global _ => none

/-! ### Types, out of the program's own table -/
section
variable (P : Program)
def ldTy (t : TypeId) : Option (Nat × Bool) :=
  match P.underlying t, P.info? t with
  | some d, some i => some (i.size, d.isRow)
  | _, _ => none
def zeroOf (t : TypeId) : Option (List V) :=
  match P.info? t with
  | some i => match i.zero with
    | some z => ofCs z.cells.toList
    | none => none
  | none => none
/-- The element type, its cells and bytes. -/
def elemOf' (t : TypeId) : Option (TypeId × Nat × Nat) :=
  match P.underlying t with
  | some (.slice e) => match P.info? e with
    | some i => if 0 < i.size then some (e, i.size, i.bytes) else none
    | none => none
  | _ => none
/-- A field: its place, its cells, is it a row. -/
def fieldOf (s : TypeId) (f : Nat) : Option (Nat × Nat × Bool) :=
  match P.underlying s with
  | some (.struct fields) => match fields[f]? with
    | some fd => match ldTy P fd.type with
      | some (n, row) => if n = 0 then none else some (fd.offset, n, row)
      | none => none
    | none => none
  | _ => none

/-! ### Values' operations -/
def ldV (h : H) (t : TypeId) : V → Option V
  | .ptr id off => (ldTy P t).bind fun x => if x.2 then (h.load id off x.1).map V.agg else (h.load id off 1).bind List.head?
  | _ => none
def intOp (op : BinOp) (k : IntKind) (x y : Int) : Option V :=
  match op with
  | .add => some (.int k (k.wrap (x + y)))
  | .sub => some (.int k (k.wrap (x - y)))
  | .mul => some (.int k (k.wrap (x * y)))
  | .quo => if y = 0 then none else some (.int k (k.wrap (x.tdiv y)))
  | .rem => if y = 0 then none else some (.int k (x.tmod y))
  | .and => some (.int k (k.wrap (BitVec.ofInt k.bits x &&& BitVec.ofInt k.bits y).toNat))
  | .or => some (.int k (k.wrap (BitVec.ofInt k.bits x ||| BitVec.ofInt k.bits y).toNat))
  | .xor => some (.int k (k.wrap (BitVec.ofInt k.bits x ^^^ BitVec.ofInt k.bits y).toNat))
  | .andNot => some (.int k (k.wrap (BitVec.ofInt k.bits x &&& ~~~ BitVec.ofInt k.bits y).toNat))
  | .eql => some (.bool (x == y))
  | .neq => some (.bool (x != y))
  | .lss => some (.bool (x < y))
  | .leq => some (.bool (x ≤ y))
  | .gtr => some (.bool (x > y))
  | .geq => some (.bool (x ≥ y))
  | _ => none
def shOp (op : BinOp) (k : IntKind) (x y : Int) : Option V :=
  if y < 0 then none else
    match op with
    | .shl => some (.int k (k.wrap (x * 2 ^ (min y.toNat k.bits))))
    | .shr => some (.int k (x.fdiv (2 ^ (min y.toNat k.bits))))
    | _ => none
def strOp (op : BinOp) (x y : ByteArray) : Option V :=
  match op with
  | .add => if ((x.size + y.size : Nat) : Int) > IntKind.i64.max then none else some (.str (x ++ y))
  | .eql => some (.bool (x.toList == y.toList))
  | .neq => some (.bool !(x.toList == y.toList))
  | .lss => some (.bool (Op.bytesLess x.toList y.toList))
  | .leq => some (.bool (Op.bytesLess x.toList y.toList || x.toList == y.toList))
  | .gtr => some (.bool !(Op.bytesLess x.toList y.toList || x.toList == y.toList))
  | .geq => some (.bool !(Op.bytesLess x.toList y.toList))
  | _ => none
/-- The part of a struct at a field. -/
def partV (n : Nat) (row : Bool) (cs : List V) (off : Nat) : Option V :=
  if row then (if off + n ≤ cs.length then some (.agg ((cs.drop off).take n)) else none) else cs[off]?
def eqFields (eq : TypeId → V → V → Option Bool) (xs ys : List V) : List Field → Option Bool
  | [] => some true
  | f :: r =>
    if f.name = "_" then eqFields eq xs ys r else
    match ldTy P f.type with
    | some (n, row) => (partV n row xs f.offset).bind fun x => (partV n row ys f.offset).bind fun y => (eq f.type x y).bind fun b => if b then eqFields eq xs ys r else some false
    | none => none
def eqV : Nat → TypeId → V → V → Option Bool
  | 0, _, _, _ => none
  | d + 1, t, x, y =>
    match P.underlying t, x, y with
    | some .bool, .bool a, .bool b => some (a == b)
    | some (.int _), .int k a, .int k' b => if k = k' then some (a == b) else none
    | some .string, .str a, .str b => some (a == b)
    | some (.slice _), .sl _ a _ _, .sl _ b _ _ => if a = 0 then some (b == 0) else if b = 0 then some false else none
    | some (.pointer _), .ptr a _, .ptr b _ => if a = 0 then some (b == 0) else if b = 0 then some false else none
    | some (.struct fields), .agg xs, .agg ys => if P.stoodInHeld t then none else eqFields P (eqV d) xs ys fields.toList
    | _, _, _ => none
def binV (op : BinOp) (t : TypeId) (x y : V) : Option V :=
  match op, x, y with
  | .shl, .int k a, .int _ b => shOp .shl k a b
  | .shr, .int k a, .int _ b => shOp .shr k a b
  | op, .int k a, .int k' b => if k = k' then intOp op k a b else none
  | op, .str a, .str b => strOp op a b
  | .eql, .agg x, .agg y => if P.eqGuardType P.depth t then none else (eqV P Op.maxDepth t (.agg x) (.agg y)).map V.bool
  | .neq, .agg x, .agg y => if P.eqGuardType P.depth t then none else (eqV P Op.maxDepth t (.agg x) (.agg y)).map fun b => V.bool !b
  | .eql, .bool x, .bool y => (eqV P Op.maxDepth t (.bool x) (.bool y)).map V.bool
  | .neq, .bool x, .bool y => (eqV P Op.maxDepth t (.bool x) (.bool y)).map fun b => V.bool !b
  | .eql, .sl x a b c, .sl y d e f => (eqV P Op.maxDepth t (.sl x a b c) (.sl y d e f)).map V.bool
  | .neq, .sl x a b c, .sl y d e f => (eqV P Op.maxDepth t (.sl x a b c) (.sl y d e f)).map fun b => V.bool !b
  | .eql, .ptr a b, .ptr d e => (eqV P Op.maxDepth t (.ptr a b) (.ptr d e)).map V.bool
  | .neq, .ptr a b, .ptr d e => (eqV P Op.maxDepth t (.ptr a b) (.ptr d e)).map fun b => V.bool !b
  | _, _, _ => none
def unV (op : UnOp) (x : V) : Option V :=
  match op, x with
  | .neg, .int k n => some (.int k (k.wrap (0 - n)))
  | .xor, .int k n => some (.int k (k.wrap (BitVec.ofInt k.bits (if k.signed then -1 else k.max) ^^^ BitVec.ofInt k.bits n).toNat))
  | .not, .bool b => some (.bool !b)
  | _, _ => none
def byteOfV : V → Option UInt8
  | .int .u8 n => some (UInt8.ofNat n.toNat)
  | _ => none
def bytesOf : List V → Option (List UInt8)
  | [] => some []
  | v :: r => (byteOfV v).bind fun b => (bytesOf r).map (b :: ·)
/-- The conversions that write nothing. -/
def cvV (h : H) (src dst : TypeId) (x : V) : Option V :=
  match P.underlying src, P.underlying dst, x with
  | some _, some (.int k), .int _ n => some (.int k (k.wrap n))
  | some _, some .string, .str s => some (.str s)
  | some (.slice e), some .string, .sl _ id off len =>
    match P.underlying e with
    | some (.int .u8) => if id = 0 then some (.str .empty) else if len = 0 then some (.str .empty) else (h.load id off len).bind fun cs => (bytesOf cs).map fun l => .str ⟨l.toArray⟩
    | _ => none
  | _, _, _ => none
def bound (E : Env) (x : Option Operand) (d : Nat) (most : Nat) : Option Nat :=
  match x with
  | none => some d
  | some o => match opd E o with
    | some (.int _ n) => if 0 ≤ n ∧ n ≤ (most : Int) then some n.toNat else none
    | _ => none
/-- x[lo:hi:mx]. -/
def slV (E : Env) (t : TypeId) (x : V) (lo hi mx : Option Operand) : Option V :=
  match P.underlying t, x with
  | some .string, .str s =>
    if mx.isSome then none else (bound E hi s.size s.size).bind fun h => (bound E lo 0 h).bind fun l => some (.str (s.extract l h))
  | some (.slice e), .sl z id off len =>
    match P.info? e with
    | some i => if i.size = z ∨ id = 0 then (bound E mx len len).bind fun m => if mx.isSome && hi.isNone then none else (bound E hi len m).bind fun h => (bound E lo 0 h).bind fun l =>
        some (.sl z id (off + l * i.size) (h - l)) else none
    | none => none
  | _, _ => none
def fldAddr (s : TypeId) (f : Nat) : V → Option V
  | .ptr id off => if id = 0 then none else (fieldOf P s f).map fun x => .ptr id (off + x.1)
  | _ => none
def fldV (s : TypeId) (f : Nat) : V → Option V
  | .agg cs => (fieldOf P s f).bind fun x => partV x.2.1 x.2.2 cs x.1
  | _ => none
def idxAddr (t : TypeId) (x i : V) : Option V :=
  match x, i with
  | .sl _ id off len, .int _ n => (elemOf' P t).bind fun e => if 0 ≤ n ∧ n < (len : Int) then some (.ptr id (off + n.toNat * e.2.1)) else none
  | _, _ => none
def idxV (t : TypeId) (x i : V) : Option V :=
  match P.underlying t, x, i with
  | some .string, .str s, .int _ n => if 0 ≤ n then (s[n.toNat]?).map fun b => .int .u8 b.toNat else none
  | _, _, _ => none
def extV (x : V) (i : Nat) : Option V :=
  match x with
  | .tup vs => vs[i]?
  | _ => none
/-- A value into a list of cells. -/
def splice (cells : List V) (off : Nat) (vs : List V) : Option (List V) :=
  if off + vs.length ≤ cells.length then some (cells.take off ++ vs ++ cells.drop (off + vs.length)) else none
def cellsV : V → Option (List V)
  | .tup _ => none
  | .agg cs => some cs
  | v => some [v]
def fillV (place : Nat → Option (Nat × Nat)) (E : Env) : List (Nat × Operand) → List V → Option (List V)
  | [], cells => some cells
  | (i, o) :: r, cells => (opd E o).bind fun v => (cellsV v).bind fun vs => (place i).bind fun p => if vs.length = p.2 then (splice cells p.1 vs).bind fun cs => fillV place E r cs else none
def buildV (E : Env) (t : TypeId) (parts : List (Nat × Operand)) : Option V :=
  match P.underlying t with
  | some (.struct fields) => (zeroOf P t).bind fun z => (fillV (fun i => match fields[i]? with | some f => (P.info? f.type).map fun x => (f.offset, x.size) | none => none) E parts z).bind fun cs =>
      if fields.all (fun f => (P.info? f.type).isSome) then some (.agg cs) else none
  | _ => none
def lenV (t : TypeId) (x : V) : Option V :=
  match P.underlying t, x with
  | some .string, .str s => some (.int .i64 s.size)
  | some (.slice _), .sl _ _ _ n => some (.int .i64 n)
  | _, _ => none
def mmV (mx : Bool) : V → V → Option V
  | .int k x, .int _ y => some (.int k (if mx then (if x < y then y else x) else (if y < x then y else x)))
  | _, _ => none
def mmVs (mx : Bool) (E : Env) : V → List Operand → Option V
  | v, [] => some v
  | v, o :: r => (opd E o).bind fun x => (mmV mx v x).bind fun u => mmVs mx E u r
def capsOf (E : Env) : List Operand → Option (List (Nat × Nat))
  | [] => some []
  | o :: r => match opd E o with
    | some (.ptr id off) => if id = 0 then none else (capsOf E r).map ((id, off) :: ·)
    | _ => none
def opds (E : Env) : List Operand → Option (List V)
  | [] => some []
  | o :: r => (opd E o).bind fun v => (opds E r).map (v :: ·)

/-! ### The operations that write nothing -/
def isQ : Op → Bool
  | .move _ | .assign _ | .pick .. | .load .. | .nilCheck _ | .binOp .. | .unOp .. | .slice .. | .fieldAddr .. | .field .. | .indexAddr .. | .index .. | .extract .. | .build .. | .makeFunc .. => true
  | .convert _ d _ => match P.underlying d with | some (.slice _) => false | _ => true
  | .call c => match c.callee with | .builtin .len | .builtin .min | .builtin .max => true | _ => false
  | _ => false
def qOp (E : Env) (h : H) : Op → Option V
  | .move x | .assign x => opd E x
  | .pick c a b => (opd E c).bind fun c => match c with | .bool t => if t then opd E a else opd E b | _ => none
  | .load t a => (opd E a).bind (ldV P h t)
  | .nilCheck x => (opd E x).bind fun v => match v with | .ptr id off => if id = 0 then none else some (.ptr id off) | .fn f cs => some (.fn f cs) | _ => none
  | .binOp op t x y _ => (opd E x).bind fun a => (opd E y).bind fun b => binV P op t a b
  | .unOp op _ x => (opd E x).bind (unV op)
  | .convert s d x => (opd E x).bind (cvV P h s d)
  | .slice t x lo hi mx => (opd E x).bind fun v => slV P E t v lo hi mx
  | .fieldAddr s x f => (opd E x).bind (fldAddr P s f)
  | .field s x f => (opd E x).bind (fldV P s f)
  | .indexAddr t x i => (opd E x).bind fun a => (opd E i).bind fun b => idxAddr P t a b
  | .index t x i => (opd E x).bind fun a => (opd E i).bind fun b => idxV P t a b
  | .extract x i => (opd E x).bind fun v => extV v i
  | .build t parts => buildV P E t parts.toList
  | .makeFunc (.func f) first caps => if first.isEmpty then (capsOf E caps.toList).map (V.fn f) else none
  | .call c => match c.callee, c.args.toList, c.argTypes.toList with
    | .builtin .len, [x], t :: _ => (opd E x).bind (lenV P t)
    | .builtin .min, x :: r, _ => (opd E x).bind fun v => mmVs false E v r
    | .builtin .max, x :: r, _ => (opd E x).bind fun v => mmVs true E v r
    | _, _, _ => none
  | _ => none

/-! ### The operations that make or write memory, or call -/
def newV (h : H) (cs : List V) : Option V × H := (some (.ptr h.next 0), h.new cs)
/-- The cells of so many elements behind a slice or a string. -/
def srcV (h : H) (t : TypeId) (size : Nat) : V → Option (Nat × List V)
  | .sl _ id off n => match P.underlying t with
    | some (.slice _) => if id = 0 then some (0, []) else if n * size = 0 then (if n = 0 then some (0, []) else none) else (h.load id off (n * size)).map fun cs => (n, cs)
    | _ => none
  | .str s => match P.underlying t with
    | some .string => if size = 1 then some (s.size, s.data.toList.map fun b => V.int .u8 b.toNat) else none
    | _ => none
  | _ => none
def appV (h : H) (t tx : TypeId) (s x : V) : Option (Option V × H) :=
  match s with
  | .sl ez id off len => (elemOf' P t).bind fun e => (zeroOf P e.1).bind fun z => (srcV P h tx e.2.1 x).bind fun y =>
      if y.1 = 0 then some (some (.sl ez id off len), h) else
      if (len + y.1) * e.2.2 ≤ 140737488355328 ∧ len + y.1 ≤ 4611686018427387904 ∧ (id = 0 ∧ len = 0 ∨ (h.blk id).alive = true ∧ h.lo ≤ id ∧ id ≠ 0 ∧ ez = e.2.1) ∧ z.length = e.2.1 then
        (if len = 0 then some [] else h.load id off (len * e.2.1)).bind fun olds => some (some (.sl e.2.1 h.next 0 (len + y.1)), (h.new (olds ++ y.2)).kill id)
      else none
  | _ => none
def cvtW (h : H) (s d : TypeId) (v : V) : Option (V × H) :=
  match P.underlying s, P.underlying d, v with
  | some .string, some (.slice e), .str b => match P.underlying e with
    | some (.int .u8) => if b.size < 4611686018427387904 then some (.sl 1 h.next 0 b.size, h.new (b.data.toList.map fun c => V.int .u8 c.toNat)) else none
    | _ => none
  | _, _, _ => none
def eOp (call : Nat → List V → H → Option (V × H)) (E : Env) (h : H) : Op → Option (Option V × H)
  | .alloc t => (zeroOf P t).map fun z => newV h z
  | .box t x => (opd E x).bind fun v => (cellsV v).map fun cs => newV h cs
  | .buildSlice t n parts => (elemOf' P t).bind fun e => if n * e.2.1 ≤ 16777216 then (zeroOf P e.1).bind fun z =>
      if n * e.2.1 = 0 ∨ z.length = e.2.1 then
        (fillV (fun i => some (i * e.2.1, e.2.1)) E parts.toList ((List.replicate n z).flatten)).map fun cs => (some (.sl e.2.1 h.next 0 n), h.new cs)
      else none
    else none
  | .store t a x => (opd E a).bind fun p => (opd E x).bind fun v => (cellsV v).bind fun vs => match p with
    | .ptr id off => (ldTy P t).bind fun y => if vs.length = y.1 then (h.store id off vs).map fun h' => (none, h') else none
    | _ => none
  | .makeSlice t l c => (opd E l).bind fun a => (opd E c).bind fun b => (elemOf' P t).bind fun e => (zeroOf P e.1).bind fun z => match a, b with
    | .int _ n, .int _ m => if n = m ∧ 0 ≤ n ∧ n ≤ 4611686018427387904 ∧ (e.2.2 : Int) * n ≤ 281474976710656 ∧ z.length = e.2.1 then some (some (.sl e.2.1 h.next 0 n.toNat), h.new ((List.replicate n.toNat z).flatten)) else none
    | _, _ => none
  | .convert s d x => (opd E x).bind fun v => (cvtW P h s d v).map fun r => (some r.1, r.2)
  | .call c => match c.callee, c.args.toList, c.argTypes.toList with
    | .builtin .append, [s, x], t :: tx :: _ => (opd E s).bind fun a => (opd E x).bind fun b => appV P h t tx a b
    | .value f, args, _ => (opd E f).bind fun g => match g with
      | .fn k caps => (opds E args).bind fun vs => (call k (vs ++ caps.map fun p => V.ptr p.1 p.2) h).map fun r => (some r.1, r.2)
      | _ => none
    | _, _, _ => none
  | _ => none

/-! ### Regions -/
def wantedV (ops : Array Oper) (o : Oper) (E : Env) : Option Bool :=
  match o.guard with
  | none => some true
  | some (j, want) => match ((ops[j]?).bind (·.dst)).bind (Env.get E) with
    | some (.bool b) => some (b == want)
    | some (.tup []) => some false
    | _ => none
def put1 (N : Nat) (E : Env) (d : Option Tmp) (v : V) : Option Env :=
  match d with
  | none => some E
  | some d => if d < N then some (Env.put E d v) else none
/-- Is its value another's guard? -/
def isGuard (ops : Array Oper) (o : Oper) : Bool := ops.toList.any fun o' => match o'.guard with
  | some (j, _) => match (ops[j]?).bind (·.dst), o.dst with
    | some a, some b => a == b
    | _, _ => false
  | none => false
def gput (ops : Array Oper) (N : Nat) (o : Oper) (E : Env) (v : V) : Option Env :=
  match isGuard ops o with
  | true => match v with
    | .bool _ => put1 N E o.dst v
    | _ => none
  | false => put1 N E o.dst v
def del1 (E : Env) : Option Tmp → Env
  | none => E
  | some d => Env.del E d
def evOper (call : Nat → List V → H → Option (V × H)) (ops : Array Oper) (N : Nat) (o : Oper) (E : Env) (h : H) : Option (Env × H) :=
  (wantedV ops o E).bind fun b =>
    if b then
      if isQ P o.op then (qOp P E h o.op).bind fun v => (gput ops N o E v).map fun E' => (E', h)
      else (eOp P call E h o.op).bind fun r => match r.1 with
        | some v => (gput ops N o E v).map fun E' => (E', r.2)
        | none => some (del1 E o.dst, r.2)
    else (put1 N E o.dst (.tup [])).map fun E' => (E', h)
def evOps (call : Nat → List V → H → Option (V × H)) (ops : Array Oper) (N : Nat) : List Oper → Env → H → Option (Env × H)
  | [], E, h => some (E, h)
  | o :: r, E, h => (evOper P call ops N o E h).bind fun x => evOps call ops N r x.1 x.2

/-- What a quiet operation reads of the heap: its number, the block, the block's version. -/
def readsOf (E : Env) (h : H) (i : Nat) : Op → List (Nat × Nat × Nat)
  | .load _ a => match opd E a with | some (.ptr id _) => [(i, id, (h.blk id).ver)] | _ => []
  | .convert _ _ x => match opd E x with | some (.sl _ id _ n) => if n = 0 ∨ id = 0 then [] else [(i, id, (h.blk id).ver)] | _ => []
  | _ => []
def edgeOn (o : Oper) (i : Nat) : Bool := o.after.any fun e => Region.binds .any e && e.on == i
def pend (h' : H) (o : Oper) (L : List (Nat × Nat × Nat)) : Bool := L.all fun x => edgeOn o x.1 || (h'.blk x.2.1).ver == x.2.2
/-- The machine that has nothing yet. -/
def H.none : H := ⟨1, 1, fun _ => ⟨[], 0, false⟩⟩
/-- Numbers, bools, texts alone. -/
def scal1 : V → Bool
  | .int .. | .bool _ | .str _ => true
  | _ => false
def scal : V → Bool
  | .tup vs => vs.all scal1
  | v => scal1 v
/-- A call that may be put off. -/
def isCl : Op → Bool
  | .call c => match c.callee with | .value _ => true | _ => false
  | _ => false
/-- What a call of numbers and texts answers by itself. -/
def pcall (call : Nat → List V → H → Option (V × H)) (k : Nat) (vs : List V) : Option V :=
  match vs.all scal1 with
  | true => (call k vs H.none).bind fun r => match scal r.1 with | true => some r.1 | false => none
  | false => none
def pcV (call : Nat → List V → H → Option (V × H)) (E : Env) : Op → Option V
  | .call c => match c.callee with
    | .value f => (opd E f).bind fun g => match g with
      | .fn k [] => (opds E c.args.toList).bind fun vs => pcall call k vs
      | _ => none
    | _ => none
  | _ => none
def many (ops : Array Oper) (listed : Array Bool) : Bool := match Region.ready .any ops listed with
  | [_] => false
  | _ => true
/-- Is it an operation that goes ahead of the others? -/
def isA (ops : Array Oper) (listed : Array Bool) (o : Oper) : Bool := isQ P o.op || (isCl o.op && many ops listed)
def qpV (call : Nat → List V → H → Option (V × H)) (E : Env) (h : H) (o : Op) : Option V :=
  match isQ P o with
  | true => qOp P E h o
  | false => pcV call E o
def pickNext (ops : Array Oper) (listed : Array Bool) : Option Nat :=
  match (Region.ready .any ops listed).find? (fun i => match ops[i]? with | some o => isQ P o.op && Region.free .any ops listed i | none => false) with
  | some i => some i
  | none => match Region.ready .any ops listed with
    | [i] => some i
    | is => is.find? (fun i => match ops[i]? with | some o => isCl o.op && Region.free .any ops listed i | none => false)
def evAny (call : Nat → List V → H → Option (V × H)) (ops : Array Oper) (N : Nat) : Nat → Array Bool → List (Nat × Nat × Nat) → Env → H → Option (Env × H)
  | 0, listed, _, E, h => if (Region.ready .any ops listed).isEmpty then some (E, h) else none
  | fuel + 1, listed, L, E, h =>
    if (Region.ready .any ops listed).isEmpty then some (E, h) else
    match pickNext P ops listed with
    | none => none
    | some i => match ops[i]? with
      | none => none
      | some o =>
        if isA P ops listed o then
          if Region.free .any ops listed i then
            (wantedV ops o E).bind fun b =>
              if b then (qpV P call E h o.op).bind fun v => (gput ops N o E v).bind fun E' => evAny call ops N fuel (listed.setIfInBounds i true) (readsOf E h i o.op ++ L) E' h
              else (put1 N E o.dst (.tup [])).bind fun E' => evAny call ops N fuel (listed.setIfInBounds i true) L E' h
          else none
        else (evOper P call ops N o E h).bind fun x => if pend x.2 o L then evAny call ops N fuel (listed.setIfInBounds i true) L x.1 x.2 else none

/-! ### Code -/
inductive X where
  | nrm
  | ex (id : Nat)
  | ret
  deriving DecidableEq
def firstReg : Code → Option Nat
  | .region id _ _ => some id
  | .seq a _ => firstReg a
  | .block _ c => firstReg c
  | .loop c => firstReg c
  | _ => none
def keepAt (ann : Nat → List Nat) (c : Code) (E : Env) : Env :=
  match firstReg c with
  | some r => Env.keep (ann r) E
  | none => E
def iterN (body : Env → H → Option (X × Env × H)) : Nat → Env → H → Option (X × Env × H)
  | 0, _, _ => none
  | n + 1, E, h => (body E h).bind fun r => match r.1 with
    | .nrm => iterN body n r.2.1 r.2.2
    | _ => some r
open Classical in
noncomputable def iterR (body : Env → H → Option (X × Env × H)) (E : Env) (h : H) : Option (X × Env × H) :=
  if hx : ∃ n r, iterN body n E h = some r then some (Classical.choose (Classical.choose_spec hx)) else none
noncomputable def evC (call : Nat → List V → H → Option (V × H)) (ann : Nat → List Nat) (N : Nat) : Code → Env → H → Option (X × Env × H)
  | .skip, E, h => some (.nrm, E, h)
  | .region _ ops false, E, h => (evOps P call ops N ops.toList E h).map fun x => (.nrm, x.1, x.2)
  | .region _ ops true, E, h => if Region.noSelect ops then (evAny P call ops N ops.size (Array.replicate ops.size false) [] E h).map fun x => (.nrm, x.1, x.2) else none
  | .seq a b, E, h => (evC call ann N a E h).bind fun r => match r.1 with
    | .nrm => evC call ann N b (keepAt ann b r.2.1) r.2.2
    | _ => some r
  | .cond c a b, E, h => match opd E c with
    | some (.bool t) => if t then evC call ann N a (keepAt ann a E) h else evC call ann N b (keepAt ann b E) h
    | _ => none
  | .block id c, E, h => (evC call ann N c E h).bind fun r => match r.1 with
    | .ex id' => if id' = id then some (.nrm, r.2.1, r.2.2) else some r
    | _ => some r
  | .loop c, E, h => iterR (fun E h => (evC call ann N c E h).map fun r => match r.1 with | .nrm => (.nrm, keepAt ann c r.2.1, r.2.2) | _ => r) (keepAt ann c E) h
  | .exit id, E, h => some (.ex id, E, h)
  | .ret, E, h => some (.ret, E, h)
  | .label _, E, h => some (.nrm, E, h)
  | _, _, _ => none

/-! ### Functions -/
def paramEnv : Nat → List V → Env
  | _, [] => []
  | i, v :: r => (i, v) :: paramEnv (i + 1) r
def resV (E : Env) (h : H) : ResultVar → Option V
  | .tmp t => Env.get E t
  | .cell a t => (Env.get E a).bind (ldV P h t)
def ntup : V → Option V
  | .tup _ => none
  | v => some v
def ressV (E : Env) (h : H) : List ResultVar → Option (List V)
  | [] => some []
  | r :: l => (resV P E h r).bind fun v => (ntup v).bind fun v => (ressV E h l).map (v :: ·)
def tupOf : List V → V
  | [v] => v
  | vs => .tup vs
noncomputable def evBody (call : Nat → List V → H → Option (V × H)) (ann : Nat → List Nat) (fn : Func) (args : List V) (h : H) : Option (V × H) :=
  match fn.body with
  | some c => if args.length ≤ fn.ntmps ∧ (fn.name == "runtime.NumGoroutine") = false then
      (evC P call ann fn.ntmps c (keepAt ann c (paramEnv 0 args)) h).bind fun r => match r.1 with
        | .ex _ => none
        | _ => (ressV P r.2.1 r.2.2 fn.results.toList).map fun vs => (tupOf vs, r.2.2)
    else none
  | none => none
/-- The functions whose meaning is given beside their text. -/
abbrev Prims := Nat → Option (List V → H → Option (V × H))
noncomputable def evF (prims : Prims) (ann : Nat → Nat → List Nat) : Nat → Nat → List V → H → Option (V × H)
  | 0, _, _, _ => none
  | n + 1, f, args, h => match prims f with
    | some p => p args h
    | none => match P.funcs[f]? with
      | some fn => evBody P (evF prims ann n) (ann f) fn args h
      | none => none
end
end Go.Proofs.Ythoabddfionmoaa.AH
namespace Go.Proofs.Ythoabddfionmoaa.AH
open Go Go.RowKit

structure Loc where
  b : Nat
  base : Nat
  room : Nat
  /-- Made of a string's bytes: a mark stands behind its last cell. -/
  str : Bool

def All2 {α β : Type} (R : α → β → Prop) : List α → List β → Prop
  | [], [] => True
  | x :: xs, y :: ys => R x y ∧ All2 R xs ys
  | _, _ => False

theorem All2.length {α β : Type} {R : α → β → Prop} : ∀ {xs : List α} {ys : List β}, All2 R xs ys → xs.length = ys.length
  | [], [], _ => rfl
  | _ :: _, _ :: _, h => by simp [All2.length h.2]
  | [], _ :: _, h => h.elim
  | _ :: _, [], h => h.elim
theorem All2.mono {α β : Type} {R S : α → β → Prop} (hi : ∀ x y, R x y → S x y) : ∀ {xs : List α} {ys : List β}, All2 R xs ys → All2 S xs ys
  | [], [], _ => trivial
  | _ :: _, _ :: _, h => ⟨hi _ _ h.1, All2.mono hi h.2⟩
  | [], _ :: _, h => h.elim
  | _ :: _, [], h => h.elim
theorem All2.append {α β : Type} {R : α → β → Prop} : ∀ {xs : List α} {ys : List β} {xs' : List α} {ys' : List β}, All2 R xs ys → All2 R xs' ys' → All2 R (xs ++ xs') (ys ++ ys')
  | [], [], _, _, _, h => h
  | _ :: _, _ :: _, _, _, h, h' => ⟨h.1, All2.append h.2 h'⟩
  | [], _ :: _, _, _, h, _ => h.elim
  | _ :: _, [], _, _, h, _ => h.elim
theorem All2.get {α β : Type} {R : α → β → Prop} : ∀ {xs : List α} {ys : List β}, All2 R xs ys → ∀ {i : Nat} {x : α}, xs[i]? = some x → ∃ y, ys[i]? = some y ∧ R x y
  | [], [], _, _, _, h => by simp at h
  | a :: xs, b :: ys, h, 0, x, hx => by
    simp at hx; subst hx; exact ⟨b, by simp, h.1⟩
  | a :: xs, b :: ys, h, i + 1, x, hx => by
    simp at hx; obtain ⟨y, hy, hr⟩ := All2.get h.2 hx; exact ⟨y, by simpa using hy, hr⟩
  | [], _ :: _, h, _, _, _ => h.elim
  | _ :: _, [], h, _, _, _ => h.elim
theorem All2.of_get {α β : Type} {R : α → β → Prop} : ∀ {xs : List α} {ys : List β}, xs.length = ys.length → (∀ (i : Nat) (x : α) (y : β), xs[i]? = some x → ys[i]? = some y → R x y) → All2 R xs ys
  | [], [], _, _ => trivial
  | a :: xs, b :: ys, hl, h => ⟨h 0 a b (by simp) (by simp), All2.of_get (by simpa using hl) fun i x y hx hy => h (i + 1) x y (by simpa using hx) (by simpa using hy)⟩
  | [], _ :: _, hl, _ => by simp at hl
  | _ :: _, [], hl, _ => by simp at hl
theorem All2.take {α β : Type} {R : α → β → Prop} {xs : List α} {ys : List β} (h : All2 R xs ys) (n : Nat) : All2 R (xs.take n) (ys.take n) :=
  All2.of_get (by simp [h.length]) fun i x y hx hy => by
    by_cases hi : i < n
    · rw [List.getElem?_take_of_lt hi] at hx hy
      obtain ⟨y', hy', hr⟩ := h.get hx
      rw [hy] at hy'; cases hy'; exact hr
    · rw [List.getElem?_eq_none (by simp; omega)] at hx; cases hx
theorem All2.drop {α β : Type} {R : α → β → Prop} {xs : List α} {ys : List β} (h : All2 R xs ys) (n : Nat) : All2 R (xs.drop n) (ys.drop n) :=
  All2.of_get (by simp [h.length]) fun i x y hx hy => by
    rw [List.getElem?_drop] at hx hy
    obtain ⟨y', hy', hr⟩ := h.get hx
    rw [hy] at hy'; cases hy'; exact hr
theorem All2.right {α β : Type} {R : α → β → Prop} {p : β → Prop} (hp : ∀ x y, R x y → p y) : ∀ {xs : List α} {ys : List β}, All2 R xs ys → ∀ y ∈ ys, p y
  | [], [], _, y, hy => by cases hy
  | a :: xs, b :: ys, h, y, hy => by
    rcases List.mem_cons.1 hy with rfl | hy
    · exact hp _ _ h.1
    · exact All2.right hp h.2 y hy
  | [], _ :: _, h, _, _ => h.elim
  | _ :: _, [], h, _, _ => h.elim

abbrev Bet := Nat → Option Loc
def RelP (β : Bet) (p : Nat × Nat) (c : Value) : Prop := ∃ l, β p.1 = some l ∧ p.1 ≠ 0 ∧ c = .pointer (some ⟨l.b, l.base + p.2, none⟩)
def RelC (β : Bet) : V → Value → Prop
  | .int k n, c => c = .int k n
  | .bool b, c => c = .bool b
  | .str s, c => c = .string s
  | .ptr id off, c => (id = 0 ∧ off = 0 ∧ c = .pointer none) ∨ (id ≠ 0 ∧ ∃ l, β id = some l ∧ c = .pointer (some ⟨l.b, l.base + off, none⟩))
  | .sl e id off len, c => (id = 0 ∧ off = 0 ∧ len = 0 ∧ c = .slice none 0 0) ∨
      (id ≠ 0 ∧ ∃ l a cap, β id = some l ∧ c = .slice (some a) len cap ∧ len ≤ cap ∧ (0 < cap → a = ⟨l.b, l.base + off, none⟩ ∧ off + cap * e ≤ l.room) ∧ (e ≠ 1 → l.str = false))
  | .fn f caps, c => ∃ cs : List Value, c = .func (.func f) #[] cs.toArray ∧ All2 (RelP β) caps cs
  | .agg _, _ => False
  | .tup _, _ => False
def RelA (β : Bet) : V → Value → Prop
  | .agg cs, c => ∃ cs' : List Value, c = .agg cs'.toArray ∧ All2 (RelC β) cs cs'
  | v, c => RelC β v c
def RelV (β : Bet) : V → Value → Prop
  | .tup vs, c => ∃ cs' : List Value, c = .tuple cs'.toArray ∧ All2 (RelA β) vs cs'
  | v, c => RelA β v c

theorem RelC.one {β : Bet} {v : V} {c : Value} (h : RelC β v c) : c.oneCell' = true := by
  cases v <;> simp only [RelC] at h
  case ptr => rcases h with ⟨_, _, rfl⟩ | ⟨_, l, _, rfl⟩ <;> rfl
  case sl => rcases h with ⟨_, _, _, rfl⟩ | ⟨_, l, a, cap, _, rfl, _⟩ <;> rfl
  case fn => obtain ⟨cs, rfl, _⟩ := h; rfl
  all_goals (subst h; rfl)
theorem RelC.vone {β : Bet} {v : V} {c : Value} (h : RelC β v c) : v.one = true := by
  cases v <;> simp_all [RelC, V.one]
theorem RelC.toA {β : Bet} {v : V} {c : Value} (h : RelC β v c) : RelA β v c := by
  cases v <;> first | exact h | exact h.elim
theorem RelA.toV {β : Bet} {v : V} {c : Value} (h : RelA β v c) : RelV β v c := by
  cases v <;> first | exact h | exact (show False from h).elim
theorem RelC.toV {β : Bet} {v : V} {c : Value} (h : RelC β v c) : RelV β v c := h.toA.toV

def Sub (β β' : Bet) : Prop := ∀ id l, β id = some l → β' id = some l
theorem Sub.refl (β : Bet) : Sub β β := fun _ _ h => h
theorem Sub.trans {a b c : Bet} (h : Sub a b) (k : Sub b c) : Sub a c := fun id l x => k id l (h id l x)
theorem RelP.mono {β β' : Bet} (hs : Sub β β') (p : Nat × Nat) (c : Value) (h : RelP β p c) : RelP β' p c := by
  obtain ⟨l, h1, h2⟩ := h; exact ⟨l, hs _ _ h1, h2⟩
theorem RelC.mono {β β' : Bet} (hs : Sub β β') (v : V) (c : Value) (h : RelC β v c) : RelC β' v c := by
  cases v <;> simp only [RelC] at h ⊢ <;> try exact h
  case ptr => exact h.imp id fun ⟨h0, l, h1, h2⟩ => ⟨h0, l, hs _ _ h1, h2⟩
  case sl => exact h.imp id fun ⟨h0, l, a, cap, h1, h2⟩ => ⟨h0, l, a, cap, hs _ _ h1, h2⟩
  case fn => obtain ⟨cs, h1, h2⟩ := h; exact ⟨cs, h1, h2.mono (RelP.mono hs)⟩
theorem RelA.mono {β β' : Bet} (hs : Sub β β') (v : V) (c : Value) (h : RelA β v c) : RelA β' v c := by
  cases v <;> simp only [RelA] at h ⊢
  case agg => obtain ⟨cs, h1, h2⟩ := h; exact ⟨cs, h1, h2.mono (RelC.mono hs)⟩
  all_goals exact RelC.mono hs _ _ h
theorem RelV.mono {β β' : Bet} (hs : Sub β β') (v : V) (c : Value) (h : RelV β v c) : RelV β' v c := by
  cases v <;> simp only [RelV] at h ⊢
  case tup => obtain ⟨cs, h1, h2⟩ := h; exact ⟨cs, h1, h2.mono (RelA.mono hs)⟩
  all_goals exact RelA.mono hs _ _ h

/-! ### Environments -/
def RelE (β : Bet) (E : Env) (tmps : Array Value) : Prop := ∀ t v, Env.get E t = some v → ∃ c, tmps[t]? = some c ∧ RelV β v c
theorem Env.get_put : ∀ (E : Env) (d t : Nat) (v : V), Env.get (Env.put E d v) t = if d = t then some v else Env.get E t
  | [], d, t, v => by simp [Env.put, Env.get]
  | (k, u) :: r, d, t, v => by
    by_cases hk : k = d
    · subst hk
      simp only [Env.put, if_true, Env.get]
      by_cases h : k = t <;> simp [h]
    · simp only [Env.put, hk, if_false, Env.get]
      by_cases h : k = t
      · subst h
        simp [Ne.symm hk]
      · simp only [h, if_false]; exact Env.get_put r d t v
theorem Env.get_del : ∀ (E : Env) (d t : Nat), Env.get (Env.del E d) t = if d = t then none else Env.get E t
  | [], d, t => by simp [Env.del, Env.get]
  | (k, u) :: r, d, t => by
    by_cases hk : k = d
    · subst hk
      simp only [Env.del, if_true]
      rw [Env.get_del r k t]
      by_cases h : k = t <;> simp [h, Env.get]
    · simp only [Env.del, hk, if_false, Env.get]
      by_cases h : k = t
      · subst h
        simp [Ne.symm hk]
      · simp only [h, if_false]; exact Env.get_del r d t
theorem Env.get_keep : ∀ (ks : List Nat) (E : Env) (t : Nat) (v : V), Env.get (Env.keep ks E) t = some v → Env.get E t = some v
  | [], E, t, v, h => by simp [Env.keep, Env.get] at h
  | k :: ks, E, t, v, h => by
    unfold Env.keep at h
    rw [List.filterMap_cons] at h
    cases hk : Env.get E k with
    | none => rw [hk] at h; exact Env.get_keep ks E t v h
    | some u =>
      rw [hk] at h
      simp only [Option.map_some, Env.get] at h
      by_cases e : k = t
      · subst e; rw [if_pos rfl] at h; rw [hk]; exact h
      · rw [if_neg e] at h; exact Env.get_keep ks E t v h
theorem RelE.mono {β β' : Bet} (hs : Sub β β') {E : Env} {t : Array Value} (h : RelE β E t) : RelE β' E t := fun i v hv => by
  obtain ⟨c, h1, h2⟩ := h i v hv; exact ⟨c, h1, h2.mono hs⟩
theorem RelE.keep {β : Bet} {E : Env} {t : Array Value} (h : RelE β E t) (ks : List Nat) : RelE β (Env.keep ks E) t := fun i v hv => h i v (Env.get_keep ks E i v hv)
theorem RelE.keepAt {β : Bet} {E : Env} {t : Array Value} (h : RelE β E t) (ann : Nat → List Nat) (c : Code) : RelE β (keepAt ann c E) t := by
  unfold AH.keepAt; split
  · exact h.keep _
  · exact h
theorem RelE.put {β : Bet} {E : Env} {a : Act} (h : RelE β E a.tmps) {d : Tmp} {v : V} {c : Value} (hv : RelV β v c) (hd : d < a.tmps.size) : RelE β (Env.put E d v) (a.put (some d) c).tmps := fun i u hu => by
  rw [Env.get_put] at hu
  by_cases e : d = i
  · subst e; rw [if_pos rfl] at hu; cases hu; exact ⟨c, by simp [Act.put, hd], hv⟩
  · rw [if_neg e] at hu; obtain ⟨c', h1, h2⟩ := h i u hu
    exact ⟨c', by simp [Act.put, Array.getElem?_setIfInBounds_ne e, h1], h2⟩
theorem RelE.del {β : Bet} {E : Env} {a : Act} (h : RelE β E a.tmps) (d : Option Tmp) (c : Value) : RelE β (del1 E d) (a.put d c).tmps := by
  cases d with
  | none => exact h
  | some d => intro i u hu
              simp only [del1] at hu
              rw [Env.get_del] at hu
              by_cases e : d = i
              · rw [if_pos e] at hu; cases hu
              · rw [if_neg e] at hu; obtain ⟨c', h1, h2⟩ := h i u hu
                exact ⟨c', by simp [Act.put, Array.getElem?_setIfInBounds_ne e, h1], h2⟩
theorem put_size (a : Act) (d : Option Tmp) (c : Value) : (a.put d c).tmps.size = a.tmps.size := by cases d <;> simp [Act.put]
theorem put_defers (a : Act) (d : Option Tmp) (c : Value) : (a.put d c).defers = a.defers := by cases d <;> rfl
theorem RelE.put1 {β : Bet} {E E' : Env} {a : Act} {N : Nat} (h : RelE β E a.tmps) {d : Option Tmp} {v : V} {c : Value} (hv : RelV β v c) (hN : a.tmps.size = N) (hp : put1 N E d v = some E') : RelE β E' (a.put d c).tmps := by
  cases d with
  | none => simp only [AH.put1] at hp; cases hp; exact h
  | some d =>
    simp only [AH.put1] at hp
    split at hp
    · rename_i hlt; cases hp; exact h.put hv (by rw [hN]; exact hlt)
    · cases hp

/-! ### The heap -/
/-- No mark stands behind a block's last cell. -/
def NoMark (w : World) (b : Nat) : Prop := ∃ t n, w.shape? b = some (t, n) ∧ w.frozen? ⟨b, n, none⟩ = false
theorem shape?_setCell (w : World) (a : Addr) (v : Value) (k : Nat) : (w.setCell a v).shape? k = w.shape? k := by
  unfold World.shape? World.setCell
  simp only [Array.getElem?_modify]
  by_cases h : a.block = k
  · rw [if_pos h]
    cases hk : w.heap[k]? with
    | none => rfl
    | some o =>
      cases o with
      | cells c e f => by_cases hs : a.spot.isSome = true <;> simp [hs]
      | _ => simp
  · rw [if_neg h]
theorem shape?_setCells (b : Nat) : ∀ (vs : List Value) (o : Nat) (w : World) (k : Nat), (w.setCells b o vs).shape? k = w.shape? k
  | [], _, _, _ => rfl
  | v :: r, o, w, k => by rw [World.setCells, shape?_setCells b r, shape?_setCell]
theorem shape?_alloc_lt (w : World) (o : Obj) (k : Nat) (h : k < w.heap.size) : (w.alloc o).shape? k = w.shape? k := by
  unfold World.shape? World.alloc
  simp [Array.getElem?_push_lt h, h]
theorem NoMark.setCells {w : World} {b : Nat} (h : NoMark w b) (c o : Nat) (vs : List Value) : NoMark (w.setCells c o vs) b := by
  obtain ⟨t, n, h1, h2⟩ := h
  exact ⟨t, n, by rw [shape?_setCells]; exact h1, by rw [World.frozen?_setCells]; exact h2⟩
theorem NoMark.alloc {w : World} {b : Nat} (h : NoMark w b) (hb : b < w.heap.size) (o : Obj) : NoMark (w.alloc o) b := by
  obtain ⟨t, n, h1, h2⟩ := h
  exact ⟨t, n, by rw [shape?_alloc_lt _ _ _ hb]; exact h1, by rw [World.frozen?_alloc_past _ _ _ hb]; exact h2⟩
theorem shape?_alloc_mark (w : World) (C : Array Value) (t : TypeId) (fr : Nat × Nat) : (w.alloc (.cells C t fr)).shape? w.heap.size = some (t, C.size) := by
  unfold World.shape? World.alloc
  simp
structure RelH (B : Nat) (β : Bet) (h : H) (w : World) : Prop where
  cell : ∀ id, (h.blk id).alive = true → ∃ l, β id = some l ∧ (h.blk id).cells.length ≤ l.room ∧
    (∀ i v, (h.blk id).cells[i]? = some v → ∃ c, w.cell? ⟨l.b, l.base + i, none⟩ = some c ∧ RelC β v c) ∧
    (h.lo ≤ id → (B ≤ l.b ∧ (l.str = false → NoMark w l.b)) ∧ ∀ i, i < l.room → (w.cell? ⟨l.b, l.base + i, none⟩).isSome = true ∧ w.frozen? ⟨l.b, l.base + i, none⟩ = false)
  inj : ∀ id id' l l', (h.blk id).alive = true → (h.blk id').alive = true → id ≠ id' → h.lo ≤ id → β id = some l → β id' = some l' → l.b ≠ l'.b
  bnd : ∀ id, h.next ≤ id → (h.blk id).alive = false ∧ β id = none
  zero : (h.blk 0).alive = false
  pos : 0 < h.next
  lo : h.lo ≤ h.next
  hB : B ≤ w.heap.size
  blt : ∀ id l, β id = some l → l.b < w.heap.size

/-- From one state to a later one. -/
structure Ext (B : Nat) (β : Bet) (h : H) (w : World) (β' : Bet) (h' : H) (w' : World) : Prop where
  sub : Sub β β'
  below : Below B w w'
  lo : h'.lo = h.lo
  next : h.next ≤ h'.next
  ver : ∀ id, id < h.next → (h.blk id).ver ≤ (h'.blk id).ver
  same : ∀ id, id < h.next → (h.blk id).alive = true → (h'.blk id).ver = (h.blk id).ver → (h'.blk id).alive = true ∧ (h'.blk id).cells = (h.blk id).cells ∧
    ∀ l, β id = some l → ∀ i, i < (h.blk id).cells.length → w'.cell? ⟨l.b, l.base + i, none⟩ = w.cell? ⟨l.b, l.base + i, none⟩
theorem Ext.refl (B : Nat) (β : Bet) (h : H) (w : World) : Ext B β h w β h w :=
  ⟨Sub.refl _, Below.refl _ _, rfl, Nat.le_refl _, fun _ _ => Nat.le_refl _, fun _ _ ha _ => ⟨ha, rfl, fun _ _ _ _ => rfl⟩⟩
theorem Ext.trans {B : Nat} {β β' β'' : Bet} {h h' h'' : H} {w w' w'' : World} (x : Ext B β h w β' h' w') (y : Ext B β' h' w' β'' h'' w'') : Ext B β h w β'' h'' w'' :=
  ⟨x.sub.trans y.sub, x.below.trans y.below, y.lo.trans x.lo, Nat.le_trans x.next y.next,
   fun id hi => Nat.le_trans (x.ver id hi) (y.ver id (Nat.lt_of_lt_of_le hi x.next)),
   fun id hi ha hv => by
    have h1 := x.ver id hi
    have h2 := y.ver id (Nat.lt_of_lt_of_le hi x.next)
    obtain ⟨a1, a2, a3⟩ := x.same id hi ha (by omega)
    obtain ⟨b1, b2, b3⟩ := y.same id (Nat.lt_of_lt_of_le hi x.next) a1 (by omega)
    exact ⟨b1, b2.trans a2, fun l hl i hlt => (b3 l (x.sub _ _ hl) i (by rw [a2]; exact hlt)).trans (a3 l hl i hlt)⟩⟩
@[simp] theorem noMark_drew (w : World) (b : Nat) : NoMark w.drew b = NoMark w b := rfl
theorem RelH.drew {B : Nat} {β : Bet} {h : H} {w : World} (x : RelH B β h w) : RelH B β h w.drew := ⟨by simpa using x.cell, x.inj, x.bnd, x.zero, x.pos, x.lo, x.hB, x.blt⟩
theorem RelH.lt {B : Nat} {β : Bet} {h : H} {w : World} (x : RelH B β h w) {id : Nat} (ha : (h.blk id).alive = true) : id < h.next := by
  rcases Nat.lt_or_ge id h.next with h1 | h1
  · exact h1
  · rw [(x.bnd id h1).1] at ha; cases ha

/-- The worlds in which the blocks that an operation reads are as they are. -/
def AgreeR (β : Bet) (h : H) (w w' : World) (rs : List (Nat × Nat × Nat)) : Prop :=
  ∀ x ∈ rs, ∀ l, β x.2.1 = some l → ∀ k, k < (h.blk x.2.1).cells.length → w'.cell? ⟨l.b, l.base + k, none⟩ = w.cell? ⟨l.b, l.base + k, none⟩
theorem AgreeR.refl (β : Bet) (h : H) (w : World) (rs : List (Nat × Nat × Nat)) : AgreeR β h w w rs := fun _ _ _ _ _ _ => rfl

/-! ### Loads -/
theorem load_rel {B : Nat} {β : Bet} {h : H} {w : World} (hH : RelH B β h w) {id off n : Nat} {cs : List V} (hl : h.load id off n = some cs) :
    cs.length = n ∧ ∃ l cs', β id = some l ∧ id ≠ 0 ∧ w.rangeAt l.b (l.base + off) cs' ∧ All2 (RelC β) cs cs' ∧
      ∀ w' : World, (∀ k, k < (h.blk id).cells.length → w'.cell? ⟨l.b, l.base + k, none⟩ = w.cell? ⟨l.b, l.base + k, none⟩) → w'.rangeAt l.b (l.base + off) cs' := by
  unfold H.load at hl
  split at hl
  · rename_i hc
    obtain ⟨ha, hle⟩ := hc
    cases hl
    have hlen : (((h.blk id).cells.drop off).take n).length = n := by simp; omega
    obtain ⟨l, hb, hroom, hcell, _⟩ := hH.cell id ha
    have hex : ∀ i, i < n → ∃ c, w.cell? ⟨l.b, l.base + off + i, none⟩ = some c ∧ ∀ v, (h.blk id).cells[off + i]? = some v → RelC β v c := fun i hi => by
      have hlt : off + i < (h.blk id).cells.length := by omega
      obtain ⟨c, h1, h2⟩ := hcell (off + i) _ (List.getElem?_eq_getElem hlt)
      exact ⟨c, by rw [Nat.add_assoc]; exact h1, fun v hv => by rw [List.getElem?_eq_getElem hlt] at hv; cases hv; exact h2⟩
    let f : Nat → Value := fun i => (w.cell? ⟨l.b, l.base + off + i, none⟩).getD undef
    have hf : ∀ i, i < n → w.cell? ⟨l.b, l.base + off + i, none⟩ = some (f i) := fun i hi => by
      obtain ⟨c, h1, _⟩ := hex i hi
      simp [f, h1]
    refine ⟨hlen, l, (List.range n).map f, hb, ?_, ?_, ?_, ?_⟩
    · intro e; subst e; rw [hH.zero] at ha; cases ha
    · intro j v hv
      have hj : j < n := by have := (List.getElem?_eq_some_iff.1 hv).1; simpa using this
      rw [hf j hj]; simpa [hj] using hv
    · refine All2.of_get (by simp; omega) fun i x y hx hy => ?_
      have hi : i < n := by have := (List.getElem?_eq_some_iff.1 hy).1; simpa using this
      obtain ⟨c, h1, h2⟩ := hex i hi
      have : f i = c := by simp [f, h1]
      simp [hi] at hy; subst hy; rw [this]
      refine h2 x ?_
      rw [List.getElem?_take_of_lt hi, List.getElem?_drop] at hx; exact hx
    · intro w' hw j v hv
      have hj : j < n := by have := (List.getElem?_eq_some_iff.1 hv).1; simpa using this
      have := hw (off + j) (by omega)
      rw [← Nat.add_assoc] at this
      rw [this, hf j hj]; simpa [hj] using hv
  · cases hl
end Go.Proofs.Ythoabddfionmoaa.AH
namespace Go.Proofs.Ythoabddfionmoaa.AH
open Go Go.RowKit
variable {P : Program}

theorem ofC_rel (β : Bet) {c : Value} {v : V} (h : ofC c = some v) : RelC β v c := by
  unfold ofC at h
  split at h <;> cases h <;> simp [RelC]
theorem ofCs_rel (β : Bet) : ∀ {cs : List Value} {vs : List V}, ofCs cs = some vs → All2 (RelC β) vs cs
  | [], vs, h => by simp [ofCs] at h; subst h; trivial
  | c :: r, vs, h => by
    simp only [ofCs, Option.bind_eq_some_iff, Option.map_eq_some_iff] at h
    obtain ⟨v, hv, us, hus, rfl⟩ := h
    exact ⟨ofC_rel β hv, ofCs_rel β hus⟩
theorem ofV_rel (β : Bet) {c : Value} {v : V} (h : ofV c = some v) : RelV β v c := by
  unfold ofV at h
  split at h
  · simp only [Option.map_eq_some_iff] at h
    obtain ⟨vs, hvs, rfl⟩ := h
    exact ⟨_, by simp, ofCs_rel β hvs⟩
  · exact (ofC_rel β h).toV
theorem opd_rel {β : Bet} {E : Env} {a : Act} (hE : RelE β E a.tmps) {x : Operand} {v : V} (h : opd E x = some v) : RelV β v (a.eval x) := by
  cases x with
  | tmp t =>
    obtain ⟨c, h1, h2⟩ := hE t v h
    simpa [Act.eval, h1] using h2
  | const c => exact ofV_rel β h
  | global g => cases h
  | func f => cases h; exact ⟨[], rfl, trivial⟩

/-- The step comes to a value that fits, in every world in which what it reads is as it is; it writes nothing. -/
def Sim (P : Program) (β : Bet) (h : H) (w : World) (rs : List (Nat × Nat × Nat)) (s : Sem Value) (v : V) : Prop :=
  ∃ c, RelV β v c ∧ ∀ w', AgreeR β h w w' rs → s.run P w' = .ok c w'

theorem eqGuard_int (op : BinOp) (t : TypeId) (x y : Operand) (a b : Value) (w : World) (h : (∀ cs, a ≠ .agg cs) ∧ a ≠ .nilIface) : (eqGuard op t x y a b).run P w = .ok () w := by
  unfold eqGuard
  cases op <;> simp [pure] <;> (cases a <;> simp_all)

theorem ldTy_some {t : TypeId} {n : Nat} {row : Bool} (h : ldTy P t = some (n, row)) : ∃ d i, P.underlying t = some d ∧ P.info? t = some i ∧ i.size = n ∧ d.isRow = row := by
  unfold ldTy at h
  split at h
  · rename_i d i h1 h2
    cases h; exact ⟨d, i, h1, h2, rfl, rfl⟩
  · cases h

theorem isAgg_run {t : TypeId} {d : TypeDesc} (hu : P.underlying t = some d) (w : World) : (isAgg t).run P w = .ok d.isRow w := by
  unfold isAgg
  rw [Sem.run_bind, run_underlying hu w]
  cases d <;> simp [TypeDesc.isRow, pure]
theorem sizeOf_run {t : TypeId} {i : TypeInfo} (hi : P.info? t = some i) (w : World) : (sizeOf t).run P w = .ok i.size w := by
  simp [sizeOf, typeInfo, hi]

theorem part_rel {β : Bet} {t : TypeId} {n : Nat} {row : Bool} (ht : ldTy P t = some (n, row)) {cs : List V} {cs' : List Value} (hc : All2 (RelC β) cs cs') {off : Nat} {v : V} (hp : partV n row cs off = some v) :
    ∃ c, RelA β v c ∧ ∀ w, (part t cs'.toArray off).run P w = .ok c w := by
  obtain ⟨d, i, hu, hi, rfl, rfl⟩ := ldTy_some ht
  unfold partV at hp
  split at hp
  · rename_i hr
    split at hp
    · cases hp
      refine ⟨_, ⟨_, rfl, (hc.drop off).take i.size⟩, fun w => ?_⟩
      unfold part
      simp only [Sem.run_bind, isAgg_run hu, Result.andThen_ok, hr, if_true, sizeOf_run hi, Sem.run_pure]
      congr 2
      apply Array.ext'
      simp [List.extract_eq_take_drop]
    · cases hp
  · rename_i hr
    obtain ⟨c, h1, h2⟩ := hc.get hp
    refine ⟨c, h2.toA, fun w => ?_⟩
    unfold part
    have hr' : d.isRow = false := by simpa using hr
    simp only [Sem.run_bind, isAgg_run hu, Result.andThen_ok, hr']
    simp [h1]

theorem fields_run {β : Bet} (eq : TypeId → V → V → Option Bool) (d : Nat) (heq : ∀ t x y b cx cy, eq t x y = some b → RelA β x cx → RelA β y cy → ∀ w, (Op.equalIn d t cx cy).run P w = .ok b w)
    {xs ys : List V} {xs' ys' : List Value} (hx : All2 (RelC β) xs xs') (hy : All2 (RelC β) ys ys') : ∀ (fs : List Field) (b : Bool), eqFields P eq xs ys fs = some b → ∀ w, ∃ r : Option Bool × Unit,
    (forIn fs ((none, ()) : Option Bool × Unit) fun f r => do
        if f.name ≠ "_" then
          if !(← Op.equalIn d f.type (← part f.type xs'.toArray f.offset) (← part f.type ys'.toArray f.offset)) then pure (ForInStep.done (some false, ()))
          else pure (ForInStep.yield (none, ()))
        else pure (ForInStep.yield (none, ())) : Sem (Option Bool × Unit)).run P w = .ok r w ∧ (r = (some b, ()) ∨ r = (none, ()) ∧ b = true)
  | [], b, h, w => by simp [eqFields] at h; subst h; exact ⟨_, by simp, .inr ⟨rfl, rfl⟩⟩
  | f :: r, b, h, w => by
    unfold eqFields at h
    split at h
    · rename_i hn
      obtain ⟨q, h1, h2⟩ := fields_run eq d heq hx hy r b h w
      refine ⟨q, ?_, h2⟩
      simp only [List.forIn_cons, hn]
      simpa using h1
    · rename_i hn
      split at h
      · rename_i n row ht
        simp only [Option.bind_eq_some_iff] at h
        obtain ⟨x, hpx, y, hpy, b1, hb1, h⟩ := h
        obtain ⟨cx, rx, hrx⟩ := part_rel ht hx hpx
        obtain ⟨cy, ry, hry⟩ := part_rel ht hy hpy
        have h1 := heq _ _ _ _ _ _ hb1 rx ry
        simp only [List.forIn_cons]
        cases b1 with
        | true =>
          obtain ⟨q, h3, h4⟩ := fields_run eq d heq hx hy r b h w
          refine ⟨q, ?_, h4⟩
          simpa [hn, hrx, hry, h1] using h3
        | false => cases h; exact ⟨_, by simp [hn, hrx, hry, h1], .inl rfl⟩
      · cases h

theorem eqV_sim {β : Bet} : ∀ (d : Nat) (t : TypeId) (x y : V) (b : Bool) (cx cy : Value), eqV P d t x y = some b → RelA β x cx → RelA β y cy → ∀ w, (Op.equalIn d t cx cy).run P w = .ok b w
  | 0, t, x, y, b, cx, cy, h, _, _, _ => by cases h
  | d + 1, t, x, y, b, cx, cy, h, hx, hy, w => by
    unfold eqV at h
    split at h
    · rename_i hu
      cases hx; cases hy; cases h
      simp [Op.equalIn, run_underlying hu]
    · rename_i k1 k2 a k3 a' hu
      split at h
      · rename_i hk; subst hk
        cases hx; cases hy; cases h
        simp [Op.equalIn, run_underlying hu]
      · cases h
    · rename_i hu
      cases hx; cases hy; cases h
      simp [Op.equalIn, run_underlying hu]
    · rename_i e z a oa la z' a' ob lb hu
      split at h
      · rename_i h0; subst h0
        cases h
        rcases hx with ⟨_, _, _, rfl⟩ | ⟨hne, _⟩
        · rcases hy with ⟨rfl, _, _, rfl⟩ | ⟨hne, l, ad, cap, _, rfl, _⟩
          · simp [Op.equalIn, run_underlying hu]
          · simp [Op.equalIn, run_underlying hu, hne]
        · exact absurd rfl hne
      · rename_i h0
        split at h
        · rename_i h1; subst h1
          cases h
          rcases hx with ⟨he, _⟩ | ⟨_, l, ad, cap, _, rfl, _⟩
          · exact absurd he h0
          · rcases hy with ⟨_, _, _, rfl⟩ | ⟨hne, _⟩
            · simp [Op.equalIn, run_underlying hu]
            · exact absurd rfl hne
        · cases h
    · rename_i e a oa a' ob hu
      split at h
      · rename_i h0; subst h0
        cases h
        rcases hx with ⟨_, _, rfl⟩ | ⟨hne, _⟩
        · rcases hy with ⟨rfl, _, rfl⟩ | ⟨hne, l, _, rfl⟩
          · simp [Op.equalIn, run_underlying hu]
          · simp [Op.equalIn, run_underlying hu, hne]
        · exact absurd rfl hne
      · rename_i h0
        split at h
        · rename_i h1; subst h1
          cases h
          rcases hx with ⟨he, _⟩ | ⟨_, l, _, rfl⟩
          · exact absurd he h0
          · rcases hy with ⟨_, _, rfl⟩ | ⟨hne, _⟩
            · simp [Op.equalIn, run_underlying hu]
            · exact absurd rfl hne
        · cases h
    · rename_i fields xs ys hu
      split at h
      · cases h
      · rename_i hst
        obtain ⟨xs', rfl, rx⟩ := hx
        obtain ⟨ys', rfl, ry⟩ := hy
        have := fields_run (eqV P d) d (fun t x y b cx cy h hx hy w => eqV_sim d t x y b cx cy h hx hy w) rx ry fields.toList b h w
        have hst' : P.stoodInHeld t = false := by simpa using hst
        unfold Op.equalIn
        simp only [Sem.run_bind, run_underlying hu, Result.andThen_ok, run_program, hst', ← Array.forIn_toList]
        obtain ⟨r, h1, h2⟩ := this
        simp only [Bool.false_eq_true, if_false, Sem.run_bind, Sem.run_pure, Result.andThen_ok]
        rw [h1]
        rcases h2 with rfl | ⟨rfl, rfl⟩ <;> rfl
    · cases h
end Go.Proofs.Ythoabddfionmoaa.AH
namespace Go.Proofs.Ythoabddfionmoaa.AH
open Go Go.RowKit
variable {P : Program}

theorem ldV_sim {B : Nat} {β : Bet} {h : H} {w : World} (hH : RelH B β h w) {t : TypeId} {p : V} {v : V} {c : Value} (hp : RelV β p c) (hv : ldV P h t p = some v) (E : Env) (i : Nat) (x : Operand) (hx : opd E x = some p) :
    ∃ cv, RelV β v cv ∧ ∀ w', AgreeR β h w w' (readsOf E h i (.load t x)) → (Instr.loadAt t c).run P w' = .ok cv w' := by
  unfold ldV at hv
  split at hv
  · rename_i id off
    simp only [Option.bind_eq_some_iff] at hv
    obtain ⟨⟨n, row⟩, ht, hv⟩ := hv
    obtain ⟨d, ti, hu, hi, rfl, rfl⟩ := ldTy_some ht
    have hc : ∀ id0 : id ≠ 0, ∃ l, β id = some l ∧ c = .pointer (some ⟨l.b, l.base + off, none⟩) := fun id0 => by
      rcases hp with ⟨h0, _⟩ | ⟨_, h1⟩
      · exact absurd h0 id0
      · exact h1
    simp only at hv
    split at hv
    · rename_i hr
      simp only [Option.map_eq_some_iff] at hv
      obtain ⟨cs, hl, rfl⟩ := hv
      obtain ⟨hlen, l, cs', hb, hne, hrange, hrel, hag⟩ := load_rel hH hl
      obtain ⟨l', hb', rfl⟩ := hc hne
      rw [hb] at hb'; cases hb'
      refine ⟨.agg cs'.toArray, ⟨cs', rfl, hrel⟩, fun w' hw => ?_⟩
      exact run_loadAt_mid w' l.b (l.base + off) t cs' d (hag w' (hw (i, id, (h.blk id).ver) (by simp [readsOf, hx]) l hb)) hu hr (by rw [hi]; simp [← hrel.length, hlen])
    · rename_i hr
      simp only [Option.bind_eq_some_iff] at hv
      obtain ⟨cs, hl, hhd⟩ := hv
      obtain ⟨hlen, l, cs', hb, hne, hrange, hrel, hag⟩ := load_rel hH hl
      obtain ⟨l', hb', rfl⟩ := hc hne
      rw [hb] at hb'; cases hb'
      match cs, cs', hrel, hlen, hhd with
      | [x1], [c1], hrel, _, hhd =>
        simp at hhd; subst hhd
        refine ⟨c1, hrel.1.toV, fun w' hw => ?_⟩
        have hcell := hag w' (hw (i, id, (h.blk id).ver) (by simp [readsOf, hx]) l hb) 0 c1 rfl
        simp only [Nat.add_zero] at hcell
        have hr' : d.isRow = false := by simpa using hr
        simp only [Instr.loadAt, Instr.sureAddr, loadVar, Sem.run_bind, Sem.run_pure, Result.andThen_ok, isAgg_run hu, hr', Bool.false_eq_true, if_false, run_load, hcell]
  · cases hv

theorem binOp_eqs (op : BinOp) (t : TypeId) (x y : Operand) (a b : Value) (w : World) (he : op = .eql ∨ op = .neq) (ha : (∃ z, a = .bool z) ∨ (∃ z, a = .pointer z) ∨ (∃ z l c, a = .slice z l c)) (hb : (∃ z, b = .bool z) ∨ (∃ z, b = .pointer z) ∨ (∃ z l c, b = .slice z l c)) :
    (do eqGuard op t x y a b; binOp op t a b).run P w = ((Op.equal t a b).run P w).andThen fun r w' => .ok (.bool (if op = .eql then r else !r)) w' := by
  rcases he with rfl | rfl <;> rcases ha with ⟨z, rfl⟩ | ⟨z, rfl⟩ | ⟨z, l, c, rfl⟩ <;> rcases hb with ⟨z', rfl⟩ | ⟨z', rfl⟩ | ⟨z', l', c', rfl⟩ <;> simp [eqGuard, binOp]
theorem binOp_aggs (op : BinOp) (t : TypeId) (x y : Operand) (a b : Array Value) (w : World) (he : op = .eql ∨ op = .neq) (hg : P.eqGuardType P.depth t = false) :
    (do eqGuard op t x y (.agg a) (.agg b); binOp op t (.agg a) (.agg b)).run P w = ((Op.equal t (.agg a) (.agg b)).run P w).andThen fun r w' => .ok (.bool (if op = .eql then r else !r)) w' := by
  rcases he with rfl | rfl <;> simp [eqGuard, binOp, hg]

theorem intOp_sim {β : Bet} {op : BinOp} {t : TypeId} {k : IntKind} {a b : Int} {v : V} (ox oy : Operand) (hv : intOp op k a b = some v) :
    ∃ c, RelV β v c ∧ ∀ w, (do eqGuard op t ox oy (.int k a) (.int k b); binOp op t (.int k a) (.int k b)).run P w = .ok c w := by
  cases op <;> simp only [intOp] at hv
  case shl => cases hv
  case shr => cases hv
  case quo => split at hv
              · cases hv
              · rename_i hn; cases hv; exact ⟨_, rfl, fun w => by simp [eqGuard, binOp, Op.intDiv, hn]⟩
  case rem => split at hv
              · cases hv
              · rename_i hn; cases hv; exact ⟨_, rfl, fun w => by simp [eqGuard, binOp, Op.intDiv, hn]⟩
  all_goals first
    | (cases hv; done)
    | (cases hv; exact ⟨_, rfl, fun w => by simp [eqGuard, binOp, Op.intArith, Op.intBits, Op.intCmp]⟩)
theorem shOp_sim {β : Bet} {op : BinOp} {t : TypeId} {k k' : IntKind} {a b : Int} {v : V} (ox oy : Operand) (hv : shOp op k a b = some v) (ho : op = .shl ∨ op = .shr) :
    ∃ c, RelV β v c ∧ ∀ w, (do eqGuard op t ox oy (.int k a) (.int k' b); binOp op t (.int k a) (.int k' b)).run P w = .ok c w := by
  unfold shOp at hv
  split at hv
  · cases hv
  · rename_i hn
    rcases ho with rfl | rfl <;> (cases hv; exact ⟨_, rfl, fun w => by simp [eqGuard, binOp, Op.shift, hn]⟩)
theorem strOp_sim {β : Bet} {op : BinOp} {t : TypeId} {a b : ByteArray} {v : V} (ox oy : Operand) (hv : strOp op a b = some v) :
    ∃ c, RelV β v c ∧ ∀ w, (do eqGuard op t ox oy (.string a) (.string b); binOp op t (.string a) (.string b)).run P w = .ok c w := by
  cases op <;> simp only [strOp] at hv
  case add => split at hv
              · cases hv
              · rename_i hn
                cases hv
                refine ⟨_, rfl, fun w => ?_⟩
                simp only [eqGuard, binOp, Op.stringOp, Sem.run_bind]
                simp only [hn, if_false]
                simp
  all_goals first
    | (cases hv; done)
    | (cases hv; exact ⟨_, rfl, fun w => by simp [eqGuard, binOp, Op.stringOp]⟩)

theorem binV_sim {β : Bet} {op : BinOp} {t : TypeId} {x y : V} {v : V} {cx cy : Value} (hx : RelV β x cx) (hy : RelV β y cy) (ox oy : Operand) (hv : binV P op t x y = some v) :
    ∃ c, RelV β v c ∧ ∀ w, (do eqGuard op t ox oy cx cy; binOp op t cx cy).run P w = .ok c w := by
  unfold binV at hv
  split at hv
  case h_1 => cases hx; cases hy; exact shOp_sim ox oy hv (.inl rfl)
  case h_2 => cases hx; cases hy; exact shOp_sim ox oy hv (.inr rfl)
  case h_3 op k a k' b _ _ =>
    cases hx; cases hy
    split at hv
    · rename_i hk; subst hk; exact intOp_sim ox oy hv
    · cases hv
  case h_4 op a b => cases hx; cases hy; exact strOp_sim ox oy hv
  case h_5 a b =>
    split at hv
    · cases hv
    · rename_i hg
      simp only [Option.map_eq_some_iff] at hv
      obtain ⟨r, hr, rfl⟩ := hv
      have hrun := eqV_sim (β := β) _ _ _ _ _ cx cy hr hx hy
      obtain ⟨a', rfl, _⟩ := hx
      obtain ⟨b', rfl, _⟩ := hy
      exact ⟨_, rfl, fun w => by rw [binOp_aggs .eql t ox oy _ _ w (.inl rfl) (by simpa using hg)]; simp [Op.equal, hrun w]⟩
  case h_6 a b =>
    split at hv
    · cases hv
    · rename_i hg
      simp only [Option.map_eq_some_iff] at hv
      obtain ⟨r, hr, rfl⟩ := hv
      have hrun := eqV_sim (β := β) _ _ _ _ _ cx cy hr hx hy
      obtain ⟨a', rfl, _⟩ := hx
      obtain ⟨b', rfl, _⟩ := hy
      exact ⟨_, rfl, fun w => by rw [binOp_aggs .neq t ox oy _ _ w (.inr rfl) (by simpa using hg)]; simp [Op.equal, hrun w]⟩
  case h_13 => cases hv
  all_goals
    simp only [Option.map_eq_some_iff] at hv
    obtain ⟨r, hr, rfl⟩ := hv
    have hrun := eqV_sim (β := β) _ _ _ _ _ cx cy hr hx hy
    have ha : (∃ z, cx = .bool z) ∨ (∃ z, cx = .pointer z) ∨ (∃ z l c, cx = .slice z l c) := by
      first
        | exact .inl ⟨_, hx⟩
        | (rcases hx with ⟨_, _, rfl⟩ | ⟨_, l, _, rfl⟩ <;> exact .inr (.inl ⟨_, rfl⟩))
        | (rcases hx with ⟨_, _, _, rfl⟩ | ⟨_, l, a, cap, _, rfl, _⟩ <;> exact .inr (.inr ⟨_, _, _, rfl⟩))
    have hb : (∃ z, cy = .bool z) ∨ (∃ z, cy = .pointer z) ∨ (∃ z l c, cy = .slice z l c) := by
      first
        | exact .inl ⟨_, hy⟩
        | (rcases hy with ⟨_, _, rfl⟩ | ⟨_, l, _, rfl⟩ <;> exact .inr (.inl ⟨_, rfl⟩))
        | (rcases hy with ⟨_, _, _, rfl⟩ | ⟨_, l, a, cap, _, rfl, _⟩ <;> exact .inr (.inr ⟨_, _, _, rfl⟩))
    first
      | exact ⟨_, rfl, fun w => by rw [binOp_eqs .eql t ox oy _ _ w (.inl rfl) ha hb]; simp [Op.equal, hrun w]⟩
      | exact ⟨_, rfl, fun w => by rw [binOp_eqs .neq t ox oy _ _ w (.inr rfl) ha hb]; simp [Op.equal, hrun w]⟩

theorem unV_sim {β : Bet} {op : UnOp} {x v : V} {cx : Value} (hx : RelV β x cx) (hv : unV op x = some v) : ∃ c, RelV β v c ∧ ∀ w, (Op.unary op cx).run P w = .ok c w := by
  unfold unV at hv
  split at hv <;> (try (cases hv; done)) <;> (cases hx; cases hv; exact ⟨_, rfl, fun w => by simp [Op.unary, Op.intArith, Op.intBits]⟩)
end Go.Proofs.Ythoabddfionmoaa.AH
namespace Go.Proofs.Ythoabddfionmoaa.AH
open Go Go.RowKit
variable {P : Program}

theorem bytesOf_nums {β : Bet} : ∀ {cs : List V} {l : List UInt8} {cs' : List Value}, bytesOf cs = some l → All2 (RelC β) cs cs' → ∃ xs : List Int, cs' = xs.map (Value.int .u8) ∧ l = xs.map fun n => UInt8.ofNat n.toNat
  | [], l, [], h, _ => by simp [bytesOf] at h; subst h; exact ⟨[], rfl, rfl⟩
  | v :: r, l, c :: cs', h, hr => by
    simp only [bytesOf, Option.bind_eq_some_iff, Option.map_eq_some_iff] at h
    obtain ⟨b, hb, l', hl', rfl⟩ := h
    obtain ⟨xs, rfl, rfl⟩ := bytesOf_nums hl' hr.2
    unfold byteOfV at hb
    split at hb
    · rename_i n
      cases hb
      have := hr.1; simp only [RelC] at this; subst this
      exact ⟨n :: xs, rfl, rfl⟩
    · cases hb
  | [], l, _ :: _, _, h => h.elim
  | _ :: _, l, [], _, h => h.elim

theorem cvV_sim {B : Nat} {β : Bet} {h : H} {w : World} (hH : RelH B β h w) {s d : TypeId} {x v : V} {cx : Value} (hx : RelV β x cx) (hv : cvV P h s d x = some v) (E : Env) (i : Nat) (o : Operand) (ho : opd E o = some x) :
    ∃ c, RelV β v c ∧ ∀ w', AgreeR β h w w' (readsOf E h i (.convert s d o)) → (convert s d cx).run P w' = .ok c w' := by
  unfold cvV at hv
  split at hv
  · rename_i k k0 n hs hd
    cases hx; cases hv
    refine ⟨_, rfl, fun w' _ => ?_⟩
    simp [convert, run_underlying hs, run_underlying hd, Conv.intToInt]
  · rename_i b hs hd
    cases hx; cases hv
    refine ⟨_, rfl, fun w' _ => ?_⟩
    simp [convert, run_underlying hs, run_underlying hd]
  · rename_i e z id off len hs hd
    split at hv
    · rename_i he
      split at hv
      · rename_i h0; subst h0
        cases hv
        rcases hx with ⟨_, _, rfl, rfl⟩ | ⟨hne, _⟩
        · exact ⟨_, rfl, fun w' _ => run_convert_bytes_nil w' s e hs he 0 0 d hd⟩
        · exact absurd rfl hne
      · rename_i h0
        rcases hx with ⟨h0', _⟩ | ⟨_, l, a, cap, hb, rfl, hcap, ha, hstr⟩
        · exact absurd h0' h0
        · split at hv
          · rename_i hl; subst hl
            cases hv
            refine ⟨_, rfl, fun w' _ => ?_⟩
            obtain ⟨ab, ao, asp⟩ := a
            rw [run_convert_bytes_string w' s d e _ 0 cap hs he hd, run_bytesToString w' _ 0 cap [] (by simp [loadCells, loadCellsFrom])]
            rfl
          · rename_i hl
            simp only [Option.bind_eq_some_iff, Option.map_eq_some_iff] at hv
            obtain ⟨cs, hcs, bs, hbs, rfl⟩ := hv
            obtain ⟨hlen, l', cs', hb', hne, hrange, hrel, hag⟩ := load_rel hH hcs
            rw [hb] at hb'; cases hb'
            obtain ⟨xs, rfl, rfl⟩ := bytesOf_nums hbs hrel
            obtain ⟨rfl, _⟩ := ha (by omega)
            refine ⟨_, rfl, fun w' hw => ?_⟩
            have hr := hag w' (hw (i, id, (h.blk id).ver) (by simp [readsOf, ho, hl, h0]) l hb)
            have hxl : xs.length = len := by have := hrel.length; simp [hlen] at this; omega
            rw [run_convert_bytes_arg w' s e hs he l.b (l.base + off) len cap xs hxl (fun j hj => by
              refine hr j _ ?_
              simp [List.getElem?_eq_getElem (show j < xs.length by omega), List.getD_eq_getElem?_getD]) d hd]
            rfl
    · cases hv
  · cases hv

theorem bound_sim {β : Bet} {E : Env} {a : Act} (hE : RelE β E a.tmps) {x : Operand} {most n : Nat} {code : BoundsCode} {d : Nat} (h : bound E (some x) d most = some n) (w : World) :
    (Instr.sliceBound (a.eval x) most code).run P w = .ok n w ∧ n ≤ most := by
  unfold bound at h
  simp only at h
  split at h
  · rename_i k m hm
    have := opd_rel hE hm
    split at h
    · rename_i hc
      cases h
      have hcx : a.eval x = .int k m := this
      refine ⟨?_, by omega⟩
      simp [Instr.sliceBound, hcx, asIntOf, hc]
    · cases h
  · cases h

theorem bounds_sim {β : Bet} {E : Env} {a : Act} (hE : RelE β E a.tmps) {lo hi mx : Option Operand} {isS : Bool} {len cap l h m : Nat} (hcap : len ≤ cap) (hm : bound E mx len len = some m) (hmh : (mx.isSome && hi.isNone) = false)
    (hh : bound E hi len m = some h) (hl : bound E lo 0 h = some l) (w : World) :
    ∃ m', (Instr.sliceBounds isS len cap (lo.map a.eval) (hi.map a.eval) (mx.map a.eval)).run P w = .ok (l, h, m') w ∧ l ≤ h ∧ h ≤ m ∧ m ≤ len ∧ h ≤ m' ∧ m' ≤ cap := by
  have hb : ∀ {x : Operand} {most n : Nat} {code : BoundsCode} {d mm : Nat}, bound E (some x) d most = some n → most ≤ mm → (Instr.sliceBound (a.eval x) mm code).run P w = .ok n w ∧ n ≤ most := by
    intro x most n code d mm h hle
    have h' : bound E (some x) d mm = some n := by
      unfold bound at h ⊢; simp only at h ⊢
      split at h
      · rename_i k q hq; split at h
        · rename_i hc; rw [if_pos (by omega)]; exact h
        · cases h
      · cases h
    exact ⟨(bound_sim hE h' w).1, (bound_sim (P := P) (code := code) hE h w).2⟩
  have hL : ∀ code, ((match lo.map a.eval with | some v => Instr.sliceBound v h code | none => pure 0 : Sem Nat)).run P w = .ok l w ∧ l ≤ h := fun code => by
    cases lo with
    | none => simp [bound] at hl; subst hl; simp
    | some x => exact hb hl (Nat.le_refl _)
  unfold Instr.sliceBounds
  cases mx with
  | none =>
    simp [bound] at hm; subst hm
    cases hi with
    | none =>
      simp [bound] at hh; subst hh
      refine ⟨cap, ?_, (hL .index).2, Nat.le_refl _, Nat.le_refl _, hcap, Nat.le_refl _⟩
      cases lo with
      | none => simp [bound] at hl; subst hl; simp
      | some x => simp [(hb (code := .sliceB) hl (Nat.le_refl _)).1]
    | some y =>
      have hy := hb (code := if isS then .sliceAcap else .sliceAlen) hh hcap
      refine ⟨cap, ?_, (hL .index).2, hy.2, Nat.le_refl _, by omega, Nat.le_refl _⟩
      cases lo with
      | none => simp [bound] at hl; subst hl; simp [hy.1]
      | some x => simp [hy.1, (hb (code := .sliceB) hl (Nat.le_refl _)).1]
  | some z =>
    have hz := hb (code := if isS then .slice3Acap else .slice3Alen) hm hcap
    cases hi with
    | none => simp at hmh
    | some y =>
      have hy := hb (code := .slice3B) hh (Nat.le_refl _)
      refine ⟨m, ?_, (hL .index).2, hy.2, hz.2, hy.2, by omega⟩
      cases lo with
      | none => simp [bound] at hl; subst hl; simp [hz.1, hy.1]
      | some x => simp [hz.1, hy.1, (hb (code := .slice3C) hl (Nat.le_refl _)).1]
end Go.Proofs.Ythoabddfionmoaa.AH
namespace Go.Proofs.Ythoabddfionmoaa.AH
open Go Go.RowKit
variable {P : Program}

theorem slV_sim {β : Bet} {E : Env} {a : Act} (hE : RelE β E a.tmps) {t : TypeId} {x v : V} {cx : Value} {lo hi mx : Option Operand} (hx : RelV β x cx) (hv : slV P E t x lo hi mx = some v) :
    ∃ c, RelV β v c ∧ ∀ w, (Instr.sliceAt t cx (lo.map a.eval) (hi.map a.eval) (mx.map a.eval)).run P w = .ok c w := by
  unfold slV at hv
  split at hv
  · rename_i s hu
    cases hx
    split at hv
    · cases hv
    · rename_i hm
      simp only [Option.bind_eq_some_iff] at hv
      obtain ⟨h, hh, l, hl, hv⟩ := hv
      cases hv
      refine ⟨_, rfl, fun w => ?_⟩
      have hmx : mx = none := by cases mx <;> simp_all
      subst hmx
      obtain ⟨m', hb, _⟩ := bounds_sim (P := P) (isS := false) (mx := none) (m := s.size) hE (Nat.le_refl _) rfl rfl hh hl w
      simp only [Option.map_none] at hb
      simp [Instr.sliceAt, Instr.slice, run_underlying hu, hb]
  · rename_i e z id off len hu
    split at hv
    · rename_i i hi'
      split at hv
      · rename_i hz
        simp only [Option.bind_eq_some_iff] at hv
        obtain ⟨m, hm, hv⟩ := hv
        split at hv
        · cases hv
        · rename_i hmh
          simp only [Option.bind_eq_some_iff] at hv
          obtain ⟨h, hh, l, hl, hv⟩ := hv
          cases hv
          have hmh' : (mx.isSome && hi.isNone) = false := by cases mx <;> cases hi <;> simp_all
          rcases hx with ⟨rfl, rfl, rfl, rfl⟩ | ⟨hne, lc, ad, cap, hb, rfl, hcap, ha, hstr⟩
          · have hall := fun w => bounds_sim (P := P) (isS := true) (len := 0) (cap := 0) hE (Nat.le_refl _) hm hmh' hh hl w
            obtain ⟨m', _, h1, h2, h3, h4, h5⟩ := hall default
            have e1 : l = 0 := by omega
            have e2 : h = 0 := by omega
            subst e1 e2
            refine ⟨.slice none 0 0, .inl ⟨rfl, by simp, by simp, rfl⟩, fun w => ?_⟩
            obtain ⟨m', hr, h1, h2, h3, h4, h5⟩ := hall w
            have e3 : m' = 0 := by omega
            subst e3
            simp [Instr.sliceAt, Instr.slice, run_underlying hu, hr, sizeOf, typeInfo, hi']
          · have hall := fun w => bounds_sim (P := P) (isS := true) (len := len) (cap := cap) hE hcap hm hmh' hh hl w
            have hz' : i.size = z := hz.resolve_right hne
            -- the third bound is the same in every world
            have hm' : ∃ m', l ≤ h ∧ h ≤ m ∧ m ≤ len ∧ h ≤ m' ∧ m' ≤ cap ∧ ∀ w, (Instr.sliceBounds true len cap (lo.map a.eval) (hi.map a.eval) (mx.map a.eval)).run P w = .ok (l, h, m') w := by
              by_cases hmx : mx = none
              · subst hmx
                obtain ⟨m', hr, h1, h2, h3, h4, h5⟩ := hall default
                refine ⟨cap, h1, h2, h3, by omega, Nat.le_refl _, fun w => ?_⟩
                obtain ⟨m', hr, _⟩ := hall w
                have hmm : m' = cap := by
                  unfold Instr.sliceBounds at hr
                  simp only [Option.map_none, Sem.run_bind, Sem.run_pure, Result.andThen_ok] at hr
                  generalize hg : (match hi.map a.eval with | some v => Instr.sliceBound v cap (if true then BoundsCode.sliceAcap else .sliceAlen) | none => (pure len : Sem Nat)) = sm at hr
                  cases hi with
                  | none =>
                    simp at hr
                    cases lo with
                    | none => simp at hr; exact hr.2.2.symm
                    | some x =>
                      simp at hr
                      cases hq : (Instr.sliceBound (a.eval x) len .sliceB).run P w with
                      | ok y w' => rw [hq] at hr; simp at hr; exact hr.1.2.2.symm
                      | halt y w' => rw [hq] at hr; simp at hr
                  | some y =>
                    simp at hr
                    cases hq : (Instr.sliceBound (a.eval y) cap .sliceAcap).run P w with
                    | halt y w' => rw [hq] at hr; simp at hr
                    | ok y1 w1 =>
                      rw [hq] at hr; simp at hr
                      cases lo with
                      | none => simp at hr; exact hr.1.2.2.symm
                      | some x =>
                        simp at hr
                        cases hq : (Instr.sliceBound (a.eval x) y1 .sliceB).run P w1 with
                        | ok y w' => rw [hq] at hr; simp at hr; exact hr.1.2.2.symm
                        | halt y w' => rw [hq] at hr; simp at hr
                rw [hmm] at hr; exact hr
              · obtain ⟨z, rfl⟩ : ∃ z, mx = some z := by cases mx with | none => exact absurd rfl hmx | some z => exact ⟨z, rfl⟩
                cases hi with
                | none => simp at hmh'
                | some y =>
                  have hz := fun w => bound_sim (P := P) (code := .slice3Acap) hE (most := cap) (x := z) (n := m) (d := len) (by
                    unfold bound at hm ⊢; simp only at hm ⊢
                    split at hm
                    · rename_i k q hq; split at hm
                      · rename_i hc; rw [if_pos (by omega)]; exact hm
                      · cases hm
                    · cases hm) w
                  have hy := fun w => bound_sim (P := P) (code := .slice3B) hE hh w
                  obtain ⟨m', hr, h1, h2, h3, h4, h5⟩ := hall default
                  refine ⟨m, h1, h2, h3, h2, by omega, fun w => ?_⟩
                  unfold Instr.sliceBounds
                  cases lo with
                  | none => simp [bound] at hl; subst hl; simp [(hz w).1, (hy w).1]
                  | some x => simp [(hz w).1, (hy w).1, (bound_sim (P := P) (code := .slice3C) hE hl w).1]
            obtain ⟨m', h1, h2, h3, h4, h5, hr⟩ := hm'
            refine ⟨.slice (some (if m' = l then ad else ad.add (l * i.size))) (h - l) (m' - l), .inr ⟨hne, lc, _, m' - l, hb, rfl, by omega, fun hc => ?_, hstr⟩, fun w => ?_⟩
            · obtain ⟨rfl, hroom⟩ := ha (by omega)
              rw [if_neg (by omega), Addr.add_mid]
              refine ⟨by simp [Nat.add_assoc], ?_⟩
              subst hz'
              have : l * i.size + (m' - l) * i.size = m' * i.size := by rw [← Nat.add_mul]; congr 1; omega
              have h6 : m' * i.size ≤ cap * i.size := Nat.mul_le_mul_right _ h5
              omega
            · simp only [Instr.sliceAt, Instr.slice, Sem.run_bind, run_underlying hu, Result.andThen_ok, hr w, sizeOf_run hi', Sem.run_pure]
              by_cases hml : m' = l <;> simp [hml]
      · cases hv
    · cases hv
  · cases hv

theorem fieldOf_some {s : TypeId} {f : Nat} {x : Nat × Nat × Bool} (h : fieldOf P s f = some x) : ∃ fields fd, P.underlying s = some (.struct fields) ∧ fields[f]? = some fd ∧ ldTy P fd.type = some (x.2.1, x.2.2) ∧ x.2.1 ≠ 0 ∧ x.1 = fd.offset := by
  unfold fieldOf at h
  split at h
  · rename_i fields hu
    split at h
    · rename_i fd hf
      split at h
      · rename_i n row ht
        split at h
        · cases h
        · rename_i hn
          cases h
          exact ⟨fields, fd, hu, hf, ht, hn, rfl⟩
      · cases h
    · cases h
  · cases h
theorem fldAddr_sim {β : Bet} {s : TypeId} {f : Nat} {x v : V} {cx : Value} (hx : RelV β x cx) (hv : fldAddr P s f x = some v) : ∃ c, RelV β v c ∧ ∀ w, (Instr.fieldAt s cx f).run P w = .ok c w := by
  unfold fldAddr at hv
  split at hv
  · rename_i id off
    split at hv
    · cases hv
    · rename_i h0
      simp only [Option.map_eq_some_iff] at hv
      obtain ⟨y, hy, rfl⟩ := hv
      obtain ⟨fields, fd, hu, hf, ht, hn, ho⟩ := fieldOf_some hy
      obtain ⟨d, ti, hu', hi', hs, hr⟩ := ldTy_some ht
      rcases hx with ⟨h0', _⟩ | ⟨_, l, hb, rfl⟩
      · exact absurd h0' h0
      · refine ⟨_, .inr ⟨h0, l, hb, rfl⟩, fun w => ?_⟩
        have hs' : ¬ ti.size = 0 := by omega
        simp [Instr.fieldAt, run_underlying hu, hf, Instr.sureAddr, fieldPlace, sizeOf, typeInfo, hi', hs', Addr.add_mid, ho, Nat.add_assoc]
  · cases hv
theorem fldV_sim {β : Bet} {s : TypeId} {f : Nat} {x v : V} {cx : Value} (hx : RelV β x cx) (hv : fldV P s f x = some v) : ∃ c, RelV β v c ∧ ∀ w, (Instr.field s cx f).run P w = .ok c w := by
  unfold fldV at hv
  split at hv
  · rename_i cs
    simp only [Option.bind_eq_some_iff] at hv
    obtain ⟨y, hy, hp⟩ := hv
    obtain ⟨fields, fd, hu, hf, ht, hn, ho⟩ := fieldOf_some hy
    obtain ⟨cs', rfl, hr⟩ := hx
    obtain ⟨c, h1, h2⟩ := part_rel ht hr hp
    refine ⟨c, h1.toV, fun w => ?_⟩
    simp [Instr.field, run_underlying hu, hf, asAgg, ← ho, h2]
  · cases hv
theorem elemOf_some {t : TypeId} {x : TypeId × Nat × Nat} (h : elemOf' P t = some x) : ∃ i, P.underlying t = some (.slice x.1) ∧ P.info? x.1 = some i ∧ i.size = x.2.1 ∧ i.bytes = x.2.2 ∧ 0 < x.2.1 := by
  unfold elemOf' at h
  split at h
  · rename_i e hu
    split at h
    · rename_i i hi
      split at h
      · rename_i hp
        cases h; exact ⟨i, hu, hi, rfl, rfl, hp⟩
      · cases h
    · cases h
  · cases h
theorem idxAddr_sim {β : Bet} {t : TypeId} {x y v : V} {cx cy : Value} (hx : RelV β x cx) (hy : RelV β y cy) (hv : idxAddr P t x y = some v) : ∃ c, RelV β v c ∧ ∀ w, (Instr.indexAt t cx cy).run P w = .ok c w := by
  unfold idxAddr at hv
  split at hv
  · rename_i z id off len k n
    simp only [Option.bind_eq_some_iff] at hv
    obtain ⟨e, he, hv⟩ := hv
    obtain ⟨i, hu, hi, hs, _, _⟩ := elemOf_some he
    split at hv
    · rename_i hn
      cases hv; cases hy
      rcases hx with ⟨_, _, rfl, rfl⟩ | ⟨hne, l, ad, cap, hb, rfl, hcap, ha, hstr⟩
      · omega
      · obtain ⟨rfl, hroom⟩ := ha (by omega)
        refine ⟨_, .inr ⟨hne, l, hb, rfl⟩, fun w => ?_⟩
        simp [Instr.indexAt, asIntOf, run_underlying hu, hn, sizeOf, typeInfo, hi, hs, Addr.add_mid, Nat.add_assoc]
    · cases hv
  · cases hv
theorem idxV_sim {β : Bet} {t : TypeId} {x y v : V} {cx cy : Value} (hx : RelV β x cx) (hy : RelV β y cy) (hv : idxV P t x y = some v) : ∃ c, RelV β v c ∧ ∀ w, (Instr.index t cx cy).run P w = .ok c w := by
  unfold idxV at hv
  split at hv
  · rename_i s k n hu
    split at hv
    · rename_i hn
      simp only [Option.map_eq_some_iff] at hv
      obtain ⟨b, hb, rfl⟩ := hv
      cases hx; cases hy
      refine ⟨_, rfl, fun w => ?_⟩
      simp [Instr.index, asIntOf, run_underlying hu, hn, hb]
    · cases hv
  · cases hv
theorem extV_sim {β : Bet} {x v : V} {i : Nat} {cx : Value} (hx : RelV β x cx) (hv : extV x i = some v) : ∃ c, RelV β v c ∧ ∀ w, (Instr.extract cx i).run P w = .ok c w := by
  unfold extV at hv
  split at hv
  · rename_i vs
    obtain ⟨cs, rfl, hr⟩ := hx
    obtain ⟨c, h1, h2⟩ := hr.get hv
    exact ⟨c, h2.toV, fun w => by simp [Instr.extract, h1]⟩
  · cases hv
theorem lenV_sim {β : Bet} {t : TypeId} {x v : V} {cx : Value} (hx : RelV β x cx) (hv : lenV P t x = some v) : ∃ c, RelV β v c ∧ ∀ (ts : List TypeId) (ty : TypeId) w, (Builtin.len_ (t :: ts).toArray ty #[cx]).run P w = .ok c w := by
  unfold lenV at hv
  split at hv
  · rename_i s hu
    cases hx; cases hv
    exact ⟨_, rfl, fun ts ty w => by simp [Builtin.len_, run_underlying hu, goInt]⟩
  · rename_i e z id off n hu
    cases hv
    rcases hx with ⟨_, _, rfl, rfl⟩ | ⟨_, l, a, cap, _, rfl, _⟩
    · exact ⟨_, rfl, fun ts ty w => by simp [Builtin.len_, run_underlying hu, goInt]⟩
    · exact ⟨_, rfl, fun ts ty w => by simp [Builtin.len_, run_underlying hu, goInt]⟩
  · cases hv
end Go.Proofs.Ythoabddfionmoaa.AH
namespace Go.Proofs.Ythoabddfionmoaa.AH
open Go Go.RowKit
variable {P : Program}

theorem cellsV_rel {β : Bet} {v : V} {vs : List V} {c : Value} (h : RelV β v c) (hc : cellsV v = some vs) : All2 (RelC β) vs c.cells.toList := by
  unfold cellsV at hc
  split at hc
  · cases hc
  · cases hc
    obtain ⟨cs, rfl, hr⟩ := h
    simpa [Value.cells] using hr
  · rename_i x1 x2 x3
    cases hc
    have hr : RelC β v c := by cases v <;> first | exact h | (exfalso; first | exact x2 _ rfl | exact x3 _ rfl)
    have : c.cells = #[c] := by
      have := hr.one
      cases c <;> simp_all [Value.oneCell', Value.cells]
    rw [this]
    exact ⟨hr, trivial⟩

theorem foldl_splice (off : Nat) : ∀ (vs : List Value) (k : Nat) (A : Array Value), ((vs.zipIdx k).foldl (fun cs (x : Value × Nat) => cs.setIfInBounds (off + x.2) x.1) A).size = A.size ∧
    ∀ i, ((vs.zipIdx k).foldl (fun cs (x : Value × Nat) => cs.setIfInBounds (off + x.2) x.1) A)[i]? = if off + k ≤ i ∧ i < off + k + vs.length ∧ i < A.size then vs[i - (off + k)]? else A[i]?
  | [], k, A => ⟨rfl, fun i => by simp; omega⟩
  | v :: r, k, A => by
    obtain ⟨h1, h2⟩ := foldl_splice off r (k + 1) (A.setIfInBounds (off + k) v)
    simp only [List.zipIdx_cons, List.foldl_cons]
    refine ⟨by rw [h1]; simp, fun i => ?_⟩
    rw [h2 i]
    simp only [Array.size_setIfInBounds, List.length_cons]
    by_cases hi : i = off + k
    · subst hi
      by_cases hs : off + k < A.size
      · simp [hs]; omega
      · simp [hs]
    · rw [Array.getElem?_setIfInBounds_ne (Ne.symm hi)]
      by_cases hc : off + (k + 1) ≤ i ∧ i < off + (k + 1) + r.length ∧ i < A.size
      · rw [if_pos hc, if_pos (by omega)]
        obtain ⟨j, rfl⟩ : ∃ j, i = off + k + 1 + j := ⟨i - (off + k + 1), by omega⟩
        rw [show off + k + 1 + j - (off + (k + 1)) = j from by omega, show off + k + 1 + j - (off + k) = j + 1 from by omega]
        simp
      · rw [if_neg hc, if_neg (by omega)]
theorem splice_rel {β : Bet} {cells cs : List V} {cells' : List Value} {vs : List V} {vs' : List Value} {off : Nat} (hc : All2 (RelC β) cells cells') (hv : All2 (RelC β) vs vs') (hs : splice cells off vs = some cs) :
    off + vs'.length ≤ cells'.length ∧ ∃ cs' : List Value, (vs'.zipIdx).foldl (fun c (x : Value × Nat) => c.setIfInBounds (off + x.2) x.1) cells'.toArray = cs'.toArray ∧ All2 (RelC β) cs cs' := by
  unfold splice at hs
  split at hs
  · rename_i hle
    cases hs
    obtain ⟨h1, h2⟩ := foldl_splice off vs' 0 cells'.toArray
    refine ⟨by rw [← hv.length, ← hc.length]; exact hle, _, rfl, All2.of_get ?_ ?_⟩
    · simp [h1, ← hc.length]; omega
    · intro i x y hx hy
      rw [Array.getElem?_toList, h2 i] at hy
      simp only [Nat.add_zero, List.size_toArray, ← hc.length, ← hv.length] at hy
      rw [List.append_assoc, List.getElem?_append] at hx
      by_cases ha : i < off
      · rw [if_pos (by simp; omega), List.getElem?_take_of_lt ha] at hx
        rw [if_neg (by omega)] at hy
        obtain ⟨y', hy', hr⟩ := hc.get hx
        simp at hy; rw [hy] at hy'; cases hy'; exact hr
      · rw [if_neg (by simp; omega), List.length_take, Nat.min_eq_left (by omega), List.getElem?_append] at hx
        by_cases hb : i < off + vs.length
        · rw [if_pos (by omega)] at hx
          rw [if_pos (by omega)] at hy
          obtain ⟨y', hy', hr⟩ := hv.get hx
          rw [hy] at hy'; cases hy'; exact hr
        · rw [if_neg (by omega), List.getElem?_drop, show off + vs.length + (i - off - vs.length) = i from by omega] at hx
          rw [if_neg (by omega)] at hy
          obtain ⟨y', hy', hr⟩ := hc.get hx
          simp at hy; rw [hy] at hy'; cases hy'; exact hr
  · cases hs
theorem fill_sim {β : Bet} {E : Env} {a : Act} (hE : RelE β E a.tmps) {place place' : Nat → Option (Nat × Nat)} (hp : ∀ i p, place i = some p → place' i = some p) : ∀ {parts : List (Nat × Operand)} {cells cs : List V} {cells' : List Value},
    All2 (RelC β) cells cells' → fillV place E parts cells = some cs → ∃ cs' : List Value, Instr.fill place' cells'.toArray (parts.map fun x => (x.1, a.eval x.2)) = some cs'.toArray ∧ All2 (RelC β) cs cs'
  | [], cells, cs, cells', hc, h => by simp [fillV] at h; subst h; exact ⟨cells', rfl, hc⟩
  | (i, o) :: r, cells, cs, cells', hc, h => by
    simp only [fillV, Option.bind_eq_some_iff] at h
    obtain ⟨v, hv, vs, hvs, p, hpl, h⟩ := h
    split at h
    · rename_i hlen
      simp only [Option.bind_eq_some_iff] at h
      obtain ⟨cs1, hs, h⟩ := h
      have hrv := cellsV_rel (opd_rel hE hv) hvs
      obtain ⟨hle, cs1', he, hr1⟩ := splice_rel hc hrv hs
      obtain ⟨cs', hf, hr⟩ := fill_sim hE hp hr1 h
      refine ⟨cs', ?_, hr⟩
      have hsz : (a.eval o).cells.size = p.2 := by have := hrv.length; simp at this; omega
      simp only [List.map_cons, Instr.fill, hp _ _ hpl]
      have hle' : ¬ (p.1 + (a.eval o).cells.size > cells'.toArray.size) := by simp at hle ⊢; omega
      simp only [hsz] at hle'
      simp only [hsz, bne_self_eq_false, Bool.false_or, decide_eq_true_eq, gt_iff_lt]
      rw [if_neg (by simpa using hle')]
      rw [← hf, ← he]
      congr 1
      rw [← Array.foldl_toList]
      simp [Array.toList_zipIdx]
    · cases h

theorem mapM_run {α β : Type} (f : α → Sem β) (g : α → β) (w : World) : ∀ (l : List α), (∀ x ∈ l, (f x).run P w = .ok (g x) w) → (l.mapM f).run P w = .ok (l.map g) w
  | [], _ => by simp
  | x :: l, h => by
    have h1 := h x (by simp)
    have h2 := mapM_run f g w l fun y hy => h y (by simp [hy])
    simp [List.mapM_cons, h1, h2]

theorem zeroOf_some {t : TypeId} {z : List V} (h : zeroOf P t = some z) : ∃ i zv, P.info? t = some i ∧ i.zero = some zv ∧ ofCs zv.cells.toList = some z := by
  unfold zeroOf at h
  split at h
  · rename_i i hi
    split at h
    · rename_i zv hz; exact ⟨i, zv, hi, hz, h⟩
    · cases h
  · cases h

theorem buildV_sim {β : Bet} {E : Env} {a : Act} (hE : RelE β E a.tmps) {t : TypeId} {parts : Array (Nat × Operand)} {v : V} (hv : buildV P E t parts.toList = some v) :
    ∃ c, RelV β v c ∧ ∀ w, (Instr.build t (parts.map fun (i, x) => (i, a.eval x))).run P w = .ok c w := by
  unfold buildV at hv
  split at hv
  · rename_i fields hu
    simp only [Option.bind_eq_some_iff] at hv
    obtain ⟨z, hz, cs, hf, hv⟩ := hv
    split at hv
    · rename_i hall
      cases hv
      obtain ⟨i, zv, hi, hzv, hzc⟩ := zeroOf_some hz
      have hsome : ∀ f ∈ fields, ∃ fi, P.info? f.type = some fi := fun f hf => Option.isSome_iff_exists.1 (by
        have := Array.all_eq_true_iff_forall_mem.1 hall f hf; simpa using this)
      let g : Field → Nat × Nat := fun f => (f.offset, ((P.info? f.type).map (·.size)).getD 0)
      have hplaces : ∀ w : World, (fields.mapM fun f => do pure (f.offset, ← sizeOf f.type) : Sem (Array (Nat × Nat))).run P w = .ok (fields.map g) w := fun w => by
        rw [Array.mapM_eq_mapM_toList]
        rw [Sem.run_map]
        rw [mapM_run _ g w fields.toList (fun f hf => by
          obtain ⟨fi, hfi⟩ := hsome f (by simpa using hf)
          simp [sizeOf, typeInfo, hfi, g])]
        simp only [Result.andThen_ok]
        congr 1
        apply Array.ext'; simp
      obtain ⟨cs', hfill, hr⟩ := fill_sim (β := β) hE (place' := fun i => (fields.map g)[i]?) (fun j p hj => by
        split at hj
        · rename_i f hfj
          simp only [Option.map_eq_some_iff] at hj
          obtain ⟨fi, hfi, rfl⟩ := hj
          simp [hfj, g, hfi]
        · cases hj) (ofCs_rel β hzc) hf
      refine ⟨.agg cs'.toArray, ⟨cs', rfl, hr⟩, fun w => ?_⟩
      unfold Instr.build
      simp only [Sem.run_bind, zeroValue, typeInfo, run_program, Result.andThen_ok, hi, hzv, Sem.run_pure, run_underlying hu, hplaces w]
      simp only [Array.toArray_toList] at hfill
      have e : (parts.map fun (i, x) => (i, a.eval x)).toList = parts.toList.map fun x => (x.1, a.eval x.2) := by simp
      rw [e, hfill]
      rfl
    · cases hv
  · cases hv

theorem mmV_sim {β : Bet} {mx : Bool} {x y v : V} {cx cy : Value} (hx : RelV β x cx) (hy : RelV β y cy) (hv : mmV mx x y = some v) :
    ∃ c, RelV β v c ∧ ∀ w : World, (if mx then Builtin.max2 cx cy else Builtin.min2 cx cy).run P w = .ok c w := by
  unfold mmV at hv
  split at hv
  · cases hx; cases hy; cases hv
    cases mx
    · exact ⟨_, rfl, fun w => by simp [Builtin.min2]⟩
    · exact ⟨_, rfl, fun w => by simp [Builtin.max2]⟩
  · cases hv
theorem mmVs_sim {β : Bet} {mx : Bool} {E : Env} {a : Act} (hE : RelE β E a.tmps) : ∀ {l : List Operand} {x v : V} {cx : Value}, RelV β x cx → mmVs mx E x l = some v →
    ∃ c, RelV β v c ∧ ∀ w : World, ((l.map a.eval).foldlM (if mx then Builtin.max2 else Builtin.min2) cx).run P w = .ok c w
  | [], x, v, cx, hx, h => by simp [mmVs] at h; subst h; exact ⟨cx, hx, fun w => by simp⟩
  | o :: r, x, v, cx, hx, h => by
    simp only [mmVs, Option.bind_eq_some_iff] at h
    obtain ⟨y, hy, u, hu, h⟩ := h
    obtain ⟨c1, h1, h2⟩ := mmV_sim (P := P) hx (opd_rel hE hy) hu
    obtain ⟨c2, h3, h4⟩ := mmVs_sim hE h1 h
    refine ⟨c2, h3, fun w => ?_⟩
    have := h2 w
    cases mx <;> simp_all
theorem capsOf_sim {β : Bet} {E : Env} {a : Act} (hE : RelE β E a.tmps) : ∀ {l : List Operand} {cs : List (Nat × Nat)}, capsOf E l = some cs → All2 (RelP β) cs (l.map a.eval)
  | [], cs, h => by simp [capsOf] at h; subst h; trivial
  | o :: r, cs, h => by
    unfold capsOf at h
    split at h
    · rename_i id off ho
      split at h
      · cases h
      · rename_i h0
        simp only [Option.map_eq_some_iff] at h
        obtain ⟨cs', hcs, rfl⟩ := h
        refine ⟨?_, capsOf_sim hE hcs⟩
        rcases opd_rel hE ho with ⟨h0', _⟩ | ⟨_, l, hb, he⟩
        · exact absurd h0' h0
        · exact ⟨l, hb, h0, he⟩
    · cases h

theorem qOp_sim {B : Nat} {β : Bet} {h : H} {w : World} (hH : RelH B β h w) {E : Env} {a : Act} (hE : RelE β E a.tmps) (i : Nat) (o : Oper) {v : V} (hv : qOp P E h o.op = some v) :
    ∃ c, RelV β v c ∧ ∀ w', AgreeR β h w w' (readsOf E h i o.op) → (execOp a.eval o).run P w' = .ok (.value c) w' := by
  have lift : ∀ {s : Sem Value} {c : Value} {w' : World}, s.run P w' = .ok c w' → (do pure (Next.value (← s)) : Sem Next).run P w' = .ok (.value c) w' := fun hs => by simp [hs]
  unfold qOp at hv
  unfold execOp
  split at hv
  · rename_i x ho
    rw [ho]
    exact ⟨_, opd_rel hE hv, fun w' _ => by simp⟩
  · rename_i x ho
    rw [ho]
    exact ⟨_, opd_rel hE hv, fun w' _ => by simp⟩
  · rename_i c x y ho
    rw [ho]
    simp only [Option.bind_eq_some_iff] at hv
    obtain ⟨cv, hc, hv⟩ := hv
    split at hv
    · rename_i t
      have hcc : a.eval c = .bool t := opd_rel hE hc
      cases t
      · exact ⟨_, opd_rel hE (by simpa using hv), fun w' _ => by simp [hcc, asBool]⟩
      · exact ⟨_, opd_rel hE (by simpa using hv), fun w' _ => by simp [hcc, asBool]⟩
    · cases hv
  · rename_i t x ho
    rw [ho]
    simp only [Option.bind_eq_some_iff] at hv
    obtain ⟨p, hp, hv⟩ := hv
    obtain ⟨c, h1, h2⟩ := ldV_sim hH (opd_rel hE hp) hv E i x hp
    exact ⟨c, h1, fun w' hw => lift (h2 w' hw)⟩
  · rename_i x ho
    rw [ho]
    simp only [Option.bind_eq_some_iff] at hv
    obtain ⟨p, hp, hv⟩ := hv
    have hr := opd_rel hE hp
    split at hv
    · rename_i id off
      split at hv
      · cases hv
      · rename_i h0
        cases hv
        rcases hr with ⟨h0', _⟩ | ⟨_, l, hb, he⟩
        · exact absurd h0' h0
        · exact ⟨_, .inr ⟨h0, l, hb, rfl⟩, fun w' _ => by simp [he]⟩
    · cases hv
      obtain ⟨cs, he, hcs⟩ := hr
      exact ⟨_, ⟨cs, rfl, hcs⟩, fun w' _ => by simp [he]⟩
    · cases hv
  · rename_i op t x y yt ho
    rw [ho]
    simp only [Option.bind_eq_some_iff] at hv
    obtain ⟨u, hu, y', hy', hv⟩ := hv
    obtain ⟨c, h1, h2⟩ := binV_sim (opd_rel hE hu) (opd_rel hE hy') x y hv
    exact ⟨c, h1, fun w' _ => lift (h2 w')⟩
  · rename_i op t x ho
    rw [ho]
    simp only [Option.bind_eq_some_iff] at hv
    obtain ⟨u, hu, hv⟩ := hv
    obtain ⟨c, h1, h2⟩ := unV_sim (P := P) (opd_rel hE hu) hv
    exact ⟨c, h1, fun w' _ => lift (h2 w')⟩
  · rename_i s d x ho
    rw [ho]
    simp only [Option.bind_eq_some_iff] at hv
    obtain ⟨u, hu, hv⟩ := hv
    obtain ⟨c, h1, h2⟩ := cvV_sim hH (opd_rel hE hu) hv E i x hu
    exact ⟨c, h1, fun w' hw => lift (h2 w' hw)⟩
  · rename_i t x lo hi mx ho
    rw [ho]
    simp only [Option.bind_eq_some_iff] at hv
    obtain ⟨u, hu, hv⟩ := hv
    obtain ⟨c, h1, h2⟩ := slV_sim hE (opd_rel hE hu) hv
    exact ⟨c, h1, fun w' _ => lift (h2 w')⟩
  · rename_i s x f ho
    rw [ho]
    simp only [Option.bind_eq_some_iff] at hv
    obtain ⟨u, hu, hv⟩ := hv
    obtain ⟨c, h1, h2⟩ := fldAddr_sim (opd_rel hE hu) hv
    exact ⟨c, h1, fun w' _ => lift (h2 w')⟩
  · rename_i s x f ho
    rw [ho]
    simp only [Option.bind_eq_some_iff] at hv
    obtain ⟨u, hu, hv⟩ := hv
    obtain ⟨c, h1, h2⟩ := fldV_sim (opd_rel hE hu) hv
    exact ⟨c, h1, fun w' _ => lift (h2 w')⟩
  · rename_i t x y ho
    rw [ho]
    simp only [Option.bind_eq_some_iff] at hv
    obtain ⟨u, hu, y', hy', hv⟩ := hv
    obtain ⟨c, h1, h2⟩ := idxAddr_sim (opd_rel hE hu) (opd_rel hE hy') hv
    exact ⟨c, h1, fun w' _ => lift (h2 w')⟩
  · rename_i t x y ho
    rw [ho]
    simp only [Option.bind_eq_some_iff] at hv
    obtain ⟨u, hu, y', hy', hv⟩ := hv
    obtain ⟨c, h1, h2⟩ := idxV_sim (opd_rel hE hu) (opd_rel hE hy') hv
    exact ⟨c, h1, fun w' _ => lift (h2 w')⟩
  · rename_i x k ho
    rw [ho]
    simp only [Option.bind_eq_some_iff] at hv
    obtain ⟨u, hu, hv⟩ := hv
    obtain ⟨c, h1, h2⟩ := extV_sim (P := P) (opd_rel hE hu) hv
    exact ⟨c, h1, fun w' _ => lift (h2 w')⟩
  · rename_i t parts ho
    rw [ho]
    obtain ⟨c, h1, h2⟩ := buildV_sim hE hv
    exact ⟨c, h1, fun w' _ => lift (h2 w')⟩
  · rename_i f first caps ho
    rw [ho]
    split at hv
    · rename_i hf
      simp only [Option.map_eq_some_iff] at hv
      obtain ⟨cs, hcs, rfl⟩ := hv
      have hf' : first = #[] := by simpa using hf
      subst hf'
      have := capsOf_sim hE hcs
      refine ⟨_, ⟨caps.toList.map a.eval, rfl, this⟩, fun w' _ => ?_⟩
      simp [Instr.makeFunc]
      apply Array.ext'; simp
    · cases hv
  · rename_i c ho
    rw [ho]
    split at hv
    · rename_i x t ts hcal hargs htys
      simp only [Option.bind_eq_some_iff] at hv
      obtain ⟨u, hu, hv⟩ := hv
      obtain ⟨cv, h1, h2⟩ := lenV_sim (P := P) (opd_rel hE hu) hv
      refine ⟨cv, h1, fun w' _ => ?_⟩
      have e1 : c.args = #[x] := by rw [← Array.toArray_toList (xs := c.args), hargs]
      have e2 : c.argTypes = (t :: ts).toArray := by rw [← Array.toArray_toList (xs := c.argTypes), htys]
      simp [resolve, hcal, invoke, builtin, e1, e2, h2]
    · rename_i x r hcal hargs
      simp only [Option.bind_eq_some_iff] at hv
      obtain ⟨u, hu, hv⟩ := hv
      obtain ⟨cv, h1, h2⟩ := mmVs_sim (P := P) hE (opd_rel hE hu) hv
      refine ⟨cv, h1, fun w' _ => ?_⟩
      have e1 : c.args = (x :: r).toArray := by rw [← Array.toArray_toList (xs := c.args), hargs]
      have := h2 w'
      simp [resolve, hcal, invoke, builtin, e1, Builtin.min_] at this ⊢
      simp [this]
    · rename_i x r hcal hargs
      simp only [Option.bind_eq_some_iff] at hv
      obtain ⟨u, hu, hv⟩ := hv
      obtain ⟨cv, h1, h2⟩ := mmVs_sim (P := P) hE (opd_rel hE hu) hv
      refine ⟨cv, h1, fun w' _ => ?_⟩
      have e1 : c.args = (x :: r).toArray := by rw [← Array.toArray_toList (xs := c.args), hargs]
      have := h2 w'
      simp [resolve, hcal, invoke, builtin, e1, Builtin.max_] at this ⊢
      simp [this]
    · cases hv
  · cases hv
end Go.Proofs.Ythoabddfionmoaa.AH
namespace Go.Proofs.Ythoabddfionmoaa.AH
open Go Go.RowKit
variable {P : Program}

def Bet.set (β : Bet) (id : Nat) (l : Loc) : Bet := fun j => if j = id then some l else β j
theorem Bet.set_same (β : Bet) (id : Nat) (l : Loc) : (β.set id l) id = some l := by simp [Bet.set]
theorem Bet.set_ne (β : Bet) {id j : Nat} (l : Loc) (h : j ≠ id) : (β.set id l) j = β j := by simp [Bet.set, h]
theorem Bet.sub_set {β : Bet} {id : Nat} {l : Loc} (h : β id = none) : Sub β (β.set id l) := fun j l' hj => by
  by_cases e : j = id
  · subst e; rw [h] at hj; cases hj
  · rw [Bet.set_ne β l e]; exact hj

theorem Ext.drew (B : Nat) (β : Bet) (h : H) (w : World) : Ext B β h w β h w.drew :=
  ⟨Sub.refl _, (Below.refl _ _).drew, rfl, Nat.le_refl _, fun _ _ => Nat.le_refl _, fun _ _ ha _ => ⟨ha, rfl, fun _ _ _ _ => rfl⟩⟩

/-- A new block. -/
theorem new_rel {B : Nat} {β : Bet} {h : H} {w : World} (hH : RelH B β h w) {cs : List V} (C : Array Value) (e : TypeId) (fr : Nat × Nat) (str : Bool) (hmk : str = false → ¬ (fr.1 ≤ C.size ∧ C.size < fr.2)) (hle : cs.length ≤ C.size) (hrel : All2 (RelC β) cs (C.toList.take cs.length)) (hfr : ∀ i, i < C.size → ¬ (fr.1 ≤ i ∧ i < fr.2)) :
    RelH B (β.set h.next ⟨w.heap.size, 0, C.size, str⟩) (h.new cs) (w.alloc (.cells C e fr)) ∧ Ext B β h w (β.set h.next ⟨w.heap.size, 0, C.size, str⟩) (h.new cs) (w.alloc (.cells C e fr)) := by
  have hnone := (hH.bnd h.next (Nat.le_refl _)).2
  have hsub : Sub β (β.set h.next ⟨w.heap.size, 0, C.size, str⟩) := Bet.sub_set hnone
  have hblk : ∀ id, id ≠ h.next → (h.new cs).blk id = h.blk id := fun id hne => by simp [H.new, hne]
  have hnew : (h.new cs).blk h.next = ⟨cs, (h.blk h.next).ver, true⟩ := by simp [H.new]
  have hfz : ∀ i, i < C.size → (w.alloc (.cells C e fr)).frozen? ⟨w.heap.size, i, none⟩ = false := fun i hi => by
    obtain ⟨lo, hi'⟩ := fr
    rw [World.frozen?_alloc_mark]
    have := hfr i hi
    simp only [Bool.and_eq_false_imp, decide_eq_true_eq, decide_eq_false_iff_not]
    omega
  refine ⟨⟨?_, ?_, ?_, ?_, ?_, ?_, ?_, ?_⟩, ?_⟩
  · intro id ha
    by_cases hne : id = h.next
    · subst hne
      refine ⟨⟨w.heap.size, 0, C.size, str⟩, Bet.set_same _ _ _, by rw [hnew]; exact hle, ?_, ?_⟩
      · intro i v hv
        rw [hnew] at hv
        obtain ⟨c, hc, hr⟩ := hrel.get hv
        have hi : i < cs.length := (List.getElem?_eq_some_iff.1 hv).1
        rw [List.getElem?_take_of_lt hi] at hc
        refine ⟨c, ?_, hr.mono hsub⟩
        simp only [Nat.zero_add]
        rw [World.cell?_alloc_mark]; simpa using hc
      · intro _
        refine ⟨⟨hH.hB, fun hm => ⟨e, C.size, by rw [shape?_alloc_mark], ?_⟩⟩, fun i hi => ?_⟩
        · obtain ⟨lo, hi'⟩ := fr
          rw [World.frozen?_alloc_mark]
          have := hmk hm
          simp only [Bool.and_eq_false_imp, decide_eq_true_eq, decide_eq_false_iff_not]
          omega
        simp only [Nat.zero_add]
        refine ⟨?_, hfz i hi⟩
        rw [World.cell?_alloc_mark]; simpa using hi
    · rw [hblk id hne] at ha
      obtain ⟨l, hb, hroom, hcell, hown⟩ := hH.cell id ha
      have hlt := hH.blt id l hb
      refine ⟨l, hsub _ _ hb, by rw [hblk id hne]; exact hroom, ?_, ?_⟩
      · intro i v hv
        rw [hblk id hne] at hv
        obtain ⟨c, hc, hr⟩ := hcell i v hv
        exact ⟨c, by rw [World.cell?_alloc_lt _ _ _ hlt]; exact hc, hr.mono hsub⟩
      · intro hlo
        obtain ⟨h1, h2⟩ := hown hlo
        refine ⟨⟨h1.1, fun hm => (h1.2 hm).alloc hlt _⟩, fun i hi => ?_⟩
        rw [World.cell?_alloc_lt _ _ _ hlt, World.frozen?_alloc_past _ _ _ hlt]
        exact h2 i hi
  · intro id id' l l' ha ha' hne hlo hb hb'
    by_cases e1 : id = h.next
    · subst e1
      rw [Bet.set_same] at hb; cases hb
      rw [Bet.set_ne β _ (Ne.symm hne)] at hb'
      have := hH.blt id' l' hb'
      simp only; omega
    · rw [Bet.set_ne β _ e1] at hb
      by_cases e2 : id' = h.next
      · subst e2
        rw [Bet.set_same] at hb'; cases hb'
        have := hH.blt id l hb
        simp only; omega
      · rw [Bet.set_ne β _ e2] at hb'
        rw [hblk _ e1] at ha; rw [hblk _ e2] at ha'
        exact hH.inj id id' l l' ha ha' hne hlo hb hb'
  · intro id hid
    have hid' : h.next + 1 ≤ id := hid
    have hne : id ≠ h.next := by omega
    rw [hblk id hne, Bet.set_ne β _ hne]
    exact hH.bnd id (by omega)
  · have := hH.pos
    rw [hblk 0 (by omega)]; exact hH.zero
  · show 0 < h.next + 1; omega
  · have := hH.lo
    show h.lo ≤ h.next + 1; omega
  · have := hH.hB; simp; omega
  · intro id l hb
    by_cases e1 : id = h.next
    · subst e1; rw [Bet.set_same] at hb; cases hb; simp
    · rw [Bet.set_ne β _ e1] at hb
      have := hH.blt id l hb; simp; omega
  · refine ⟨hsub, (Below.refl _ _).alloc hH.hB _, rfl, by show h.next ≤ h.next + 1; omega, fun id hid => ?_, fun id hid ha hv => ?_⟩
    · rw [hblk id (by omega)]; exact Nat.le_refl _
    · rw [hblk id (by omega)]
      refine ⟨ha, rfl, fun l hl i hi => ?_⟩
      rw [World.cell?_alloc_lt _ _ _ (hH.blt id l hl)]

theorem below_setCells {B : Nat} (b : Nat) (hb : B ≤ b) : ∀ (vs : List Value) (o : Nat) (a w : World), Below B a w → Below B a (w.setCells b o vs)
  | [], _, _, _, h => h
  | v :: r, o, a, w, h => below_setCells b hb r (o + 1) a _ (h.setCell (p := ⟨b, o, none⟩) hb v)
theorem size_setCells (b : Nat) : ∀ (vs : List Value) (o : Nat) (w : World), (w.setCells b o vs).heap.size = w.heap.size
  | [], _, _ => rfl
  | v :: r, o, w => by rw [World.setCells, size_setCells b r]; simp

/-- A store. -/
theorem store_rel {B : Nat} {β : Bet} {h h' : H} {w : World} (hH : RelH B β h w) {id off : Nat} {vs : List V} {vs' : List Value} (hs : h.store id off vs = some h') (hv : All2 (RelC β) vs vs') :
    ∃ l, β id = some l ∧ id ≠ 0 ∧ w.there l.b (l.base + off) vs'.length ∧ RelH B β h' (w.setCells l.b (l.base + off) vs') ∧ Ext B β h w β h' (w.setCells l.b (l.base + off) vs') := by
  unfold H.store at hs
  split at hs
  · rename_i hc
    obtain ⟨ha, hlo, hle⟩ := hc
    cases hs
    obtain ⟨l, hb, hroom, hcell, hown⟩ := hH.cell id ha
    obtain ⟨hBl, hwr⟩ := hown hlo
    have hne0 : id ≠ 0 := by intro e; subst e; rw [hH.zero] at ha; cases ha
    have hvl := hv.length
    have hthere : w.there l.b (l.base + off) vs'.length := fun j hj => by
      have := hwr (off + j) (by omega)
      rw [← Nat.add_assoc] at this; exact this
    let h' : H := h.upd id ⟨(h.blk id).cells.take off ++ vs ++ (h.blk id).cells.drop (off + vs.length), (h.blk id).ver + 1, true⟩
    have hsame : h'.blk id = ⟨(h.blk id).cells.take off ++ vs ++ (h.blk id).cells.drop (off + vs.length), (h.blk id).ver + 1, true⟩ := by simp [h', H.upd]
    have hoth : ∀ j, j ≠ id → h'.blk j = h.blk j := fun j hj => by simp [h', H.upd, hj]
    have hlen : (h'.blk id).cells.length = (h.blk id).cells.length := by rw [hsame]; simp; omega
    have hcin : ∀ j (hj : j < vs'.length), (w.setCells l.b (l.base + off) vs').cell? ⟨l.b, l.base + off + j, none⟩ = some vs'[j] := fun j hj =>
      World.cell?_setCells_in l.b vs' (l.base + off) w (fun i hi => (hthere i hi).1) j hj
    have hapart : ∀ j l', (h.blk j).alive = true → β j = some l' → j ≠ id → l'.b ≠ l.b := fun j l' haj hbj hj => (hH.inj id j l l' ha haj (Ne.symm hj) hlo hb hbj).symm
    refine ⟨l, hb, hne0, hthere, ⟨?_, ?_, ?_, ?_, hH.pos, hH.lo, by rw [size_setCells]; exact hH.hB, fun j l' hj => by rw [size_setCells]; exact hH.blt j l' hj⟩, ?_⟩
    · intro j haj
      by_cases hj : j = id
      · subst hj
        refine ⟨l, hb, by rw [hlen]; exact hroom, ?_, ?_⟩
        · intro i v hvi
          rw [hsame] at hvi
          simp only [List.append_assoc] at hvi
          rw [List.getElem?_append] at hvi
          by_cases h1 : i < off
          · rw [if_pos (by simp; omega), List.getElem?_take_of_lt h1] at hvi
            obtain ⟨c, hc, hr⟩ := hcell i v hvi
            refine ⟨c, ?_, hr⟩
            rw [World.cell?_setCells_out l.b vs' _ w _ (fun _ _ => .inl (by show l.base + i < l.base + off; omega))]
            exact hc
          · rw [if_neg (by simp; omega), List.length_take, Nat.min_eq_left (by omega), List.getElem?_append] at hvi
            by_cases h2 : i < off + vs.length
            · rw [if_pos (by omega)] at hvi
              obtain ⟨c, hc, hr⟩ := hv.get hvi
              have hlt : i - off < vs'.length := by omega
              refine ⟨c, ?_, hr⟩
              have := hcin (i - off) hlt
              rw [show l.base + off + (i - off) = l.base + i from by omega] at this
              rw [this, ← hc, List.getElem?_eq_getElem hlt]
            · rw [if_neg (by omega), List.getElem?_drop, show off + vs.length + (i - off - vs.length) = i from by omega] at hvi
              obtain ⟨c, hc, hr⟩ := hcell i v hvi
              refine ⟨c, ?_, hr⟩
              rw [World.cell?_setCells_out l.b vs' _ w _ (fun _ _ => .inr (by show l.base + off + vs'.length ≤ l.base + i; omega))]
              exact hc
        · intro _
          refine ⟨⟨hBl.1, fun hm => (hBl.2 hm).setCells _ _ _⟩, fun i hi => ?_⟩
          rw [World.frozen?_setCells]
          exact ⟨World.isSome_setCells _ _ _ _ _ (hwr i hi).1, (hwr i hi).2⟩
      · have haj' : (h.blk j).alive = true := by rw [← hoth j hj]; exact haj
        obtain ⟨l', hb', hroom', hcell', hown'⟩ := hH.cell j haj'
        have hbne := hapart j l' haj' hb' hj
        refine ⟨l', hb', by rw [hoth j hj]; exact hroom', ?_, ?_⟩
        · intro i v hvi
          rw [hoth j hj] at hvi
          obtain ⟨c, hc, hr⟩ := hcell' i v hvi
          exact ⟨c, by rw [World.cell?_setCells_out l.b vs' _ w _ (fun hb2 _ => absurd hb2 hbne)]; exact hc, hr⟩
        · intro hlo'
          obtain ⟨x1, x2⟩ := hown' hlo'
          refine ⟨⟨x1.1, fun hm => (x1.2 hm).setCells _ _ _⟩, fun i hi => ?_⟩
          rw [World.frozen?_setCells, World.cell?_setCells_out l.b vs' _ w _ (fun hb2 _ => absurd hb2 hbne)]
          exact x2 i hi
    · intro i j li lj hai haj hne hl1 h1 h2
      have e : ∀ k, ((h.upd id ⟨(h.blk id).cells.take off ++ vs ++ (h.blk id).cells.drop (off + vs.length), (h.blk id).ver + 1, true⟩).blk k).alive = true → (h.blk k).alive = true := fun k hk => by
        by_cases ek : k = id
        · rw [ek]; exact ha
        · rw [← hoth k ek]; exact hk
      exact hH.inj i j li lj (e i hai) (e j haj) hne hl1 h1 h2
    · intro j hj
      have : j ≠ id := by intro e; subst e; have := (hH.bnd j hj).1; rw [ha] at this; cases this
      have := hH.bnd j hj
      exact ⟨by rw [← this.1]; exact congrArg Blk.alive (hoth j (by assumption)), this.2⟩
    · exact (congrArg Blk.alive (hoth 0 (Ne.symm hne0))).trans hH.zero
    · refine ⟨Sub.refl _, below_setCells l.b hBl.1 vs' _ w w (Below.refl _ _), rfl, Nat.le_refl _, fun j hj => ?_, fun j hj haj hvj => ?_⟩
      · by_cases e : j = id
        · subst e; show _ ≤ (h'.blk j).ver; rw [hsame]; exact Nat.le_succ _
        · show _ ≤ (h'.blk j).ver; rw [hoth j e]; exact Nat.le_refl _
      · by_cases e : j = id
        · subst e
          have : (h'.blk j).ver = (h.blk j).ver := hvj
          rw [hsame] at this; simp at this
        · refine ⟨(congrArg Blk.alive (hoth j e)).trans haj, congrArg Blk.cells (hoth j e), fun l' hl' i hi => ?_⟩
          rw [World.cell?_setCells_out l.b vs' _ w _ (fun hb2 _ => absurd hb2 (hapart j l' haj hl' e))]
  · cases hs

/-- A block that is given up. -/
theorem kill_rel {B : Nat} {β : Bet} {h : H} {w : World} (hH : RelH B β h w) (id : Nat) : RelH B β (h.kill id) w ∧ Ext B β h w β (h.kill id) w := by
  have hoth : ∀ j, j ≠ id → (h.kill id).blk j = h.blk j := fun j hj => by simp [H.kill, H.upd, hj]
  have hdead : ((h.kill id).blk id).alive = false := by simp [H.kill, H.upd]
  have hne : ∀ j, ((h.kill id).blk j).alive = true → j ≠ id := fun j hj e => by subst e; rw [hdead] at hj; cases hj
  refine ⟨⟨?_, ?_, ?_, ?_, hH.pos, hH.lo, hH.hB, hH.blt⟩, ⟨Sub.refl _, Below.refl _ _, rfl, Nat.le_refl _, ?_, ?_⟩⟩
  · intro j hj
    have e := hne j hj
    rw [hoth j e] at hj ⊢
    exact hH.cell j hj
  · intro i j li lj hi hj hne' hlo
    have ei := hne i hi; have ej := hne j hj
    rw [hoth i ei] at hi; rw [hoth j ej] at hj
    exact hH.inj i j li lj hi hj hne' hlo
  · intro j hj
    refine ⟨?_, (hH.bnd j hj).2⟩
    by_cases e : j = id
    · subst e; exact hdead
    · rw [hoth j e]; exact (hH.bnd j hj).1
  · by_cases e : 0 = id
    · rw [← e] at hdead ⊢; exact hdead
    · rw [hoth 0 e]; exact hH.zero
  · intro j hj
    by_cases e : j = id
    · subst e; simp [H.kill, H.upd]
    · rw [hoth j e]; exact Nat.le_refl _
  · intro j hj ha hv
    by_cases e : j = id
    · subst e; simp [H.kill, H.upd] at hv
    · rw [hoth j e]; exact ⟨ha, rfl, fun _ _ _ _ => rfl⟩

/-- More cells behind a block's slice, in place. -/
theorem grow_rel {B : Nat} {β : Bet} {h : H} {w : World} (hH : RelH B β h w) {id off n : Nat} {olds news : List V} {news' : List Value} {l : Loc} (ha : (h.blk id).alive = true) (hlo : h.lo ≤ id) (hb : β id = some l)
    (ho : n = 0 ∧ olds = [] ∨ h.load id off n = some olds) (hn : All2 (RelC β) news news') (hroom : off + n + news'.length ≤ l.room) :
    w.there l.b (l.base + off + n) news'.length ∧
    RelH B (β.set h.next ⟨l.b, l.base + off, l.room - off, l.str⟩) ((h.new (olds ++ news)).kill id) (w.setCells l.b (l.base + off + n) news') ∧
    Ext B β h w (β.set h.next ⟨l.b, l.base + off, l.room - off, l.str⟩) ((h.new (olds ++ news)).kill id) (w.setCells l.b (l.base + off + n) news') := by
  obtain ⟨l1, hb1, hroom1, hcell, hown⟩ := hH.cell id ha
  rw [hb] at hb1; cases hb1
  obtain ⟨hBl, hwr⟩ := hown hlo
  have hidlt := hH.lt ha
  have hnone := (hH.bnd h.next (Nat.le_refl _)).2
  have hsub : Sub β (β.set h.next ⟨l.b, l.base + off, l.room - off, l.str⟩) := Bet.sub_set hnone
  have hnl := hn.length
  have holds : olds.length = n ∧ ∀ i v, olds[i]? = some v → (h.blk id).cells[off + i]? = some v := by
    rcases ho with ⟨rfl, rfl⟩ | ho
    · exact ⟨rfl, fun i v hv => by simp at hv⟩
    · unfold H.load at ho
      split at ho
      · rename_i hc
        cases ho
        refine ⟨by simp; omega, fun i v hv => ?_⟩
        have hi : i < n := by have := (List.getElem?_eq_some_iff.1 hv).1; simp at this; omega
        rw [List.getElem?_take_of_lt hi, List.getElem?_drop] at hv; exact hv
      · cases ho
  have hthere : w.there l.b (l.base + off + n) news'.length := fun j hj => by
    have := hwr (off + n + j) (by omega)
    rw [show l.base + (off + n + j) = l.base + off + n + j from by omega] at this; exact this
  have hcin : ∀ j (hj : j < news'.length), (w.setCells l.b (l.base + off + n) news').cell? ⟨l.b, l.base + off + n + j, none⟩ = some news'[j] := fun j hj =>
    World.cell?_setCells_in l.b news' _ w (fun i hi => (hthere i hi).1) j hj
  let h1 := (h.new (olds ++ news)).kill id
  have hne : h.next ≠ id := by omega
  have hnew : h1.blk h.next = ⟨olds ++ news, (h.blk h.next).ver, true⟩ := by simp [h1, H.kill, H.upd, H.new, hne]
  have hdead : (h1.blk id).alive = false := by simp [h1, H.kill, H.upd]
  have hoth : ∀ j, j ≠ id → j ≠ h.next → h1.blk j = h.blk j := fun j e1 e2 => by simp [h1, H.kill, H.upd, H.new, e1, e2]
  have hapart : ∀ j l', (h.blk j).alive = true → β j = some l' → j ≠ id → l'.b ≠ l.b := fun j l' haj hbj hj => (hH.inj id j l l' ha haj (Ne.symm hj) hlo hb hbj).symm
  refine ⟨hthere, ⟨?_, ?_, ?_, ?_, ?_, ?_, by rw [size_setCells]; exact hH.hB, ?_⟩, ?_⟩
  · intro j haj
    have e1 : j ≠ id := fun e => by rw [e] at haj; rw [show ((h.new (olds ++ news)).kill id) = h1 from rfl, hdead] at haj; cases haj
    by_cases e2 : j = h.next
    · subst e2
      refine ⟨⟨l.b, l.base + off, l.room - off, l.str⟩, Bet.set_same _ _ _, ?_, ?_, fun _ => ⟨⟨hBl.1, fun hm => (hBl.2 hm).setCells _ _ _⟩, fun i hi => ?_⟩⟩
      · show (h1.blk h.next).cells.length ≤ _
        rw [hnew]; simp only [List.length_append]; omega
      · intro i v hv
        replace hv : (h1.blk h.next).cells[i]? = some v := hv
        rw [hnew] at hv
        simp only [] at hv
        rw [List.getElem?_append] at hv
        by_cases hi : i < olds.length
        · rw [if_pos hi] at hv
          obtain ⟨c, hc, hr⟩ := hcell _ v (holds.2 i v hv)
          refine ⟨c, ?_, hr.mono hsub⟩
          show (w.setCells l.b (l.base + off + n) news').cell? ⟨l.b, l.base + off + i, none⟩ = some c
          rw [World.cell?_setCells_out l.b news' _ w _ (fun _ _ => .inl (by show l.base + off + i < l.base + off + n; omega))]
          rw [Nat.add_assoc]; exact hc
        · rw [if_neg hi] at hv
          obtain ⟨c, hc, hr⟩ := hn.get hv
          have hlt : i - olds.length < news'.length := by
            have := (List.getElem?_eq_some_iff.1 hc).1; exact this
          refine ⟨c, ?_, hr.mono hsub⟩
          show (w.setCells l.b (l.base + off + n) news').cell? ⟨l.b, l.base + off + i, none⟩ = some c
          have := hcin (i - olds.length) hlt
          rw [show l.base + off + n + (i - olds.length) = l.base + off + i from by omega] at this
          rw [this, ← hc, List.getElem?_eq_getElem hlt]
      · show ((w.setCells l.b (l.base + off + n) news').cell? ⟨l.b, l.base + off + i, none⟩).isSome = true ∧ (w.setCells l.b (l.base + off + n) news').frozen? ⟨l.b, l.base + off + i, none⟩ = false
        replace hi : i < l.room - off := hi
        rw [World.frozen?_setCells]
        have := hwr (off + i) (by omega)
        rw [← Nat.add_assoc] at this
        exact ⟨World.isSome_setCells _ _ _ _ _ this.1, this.2⟩
    · replace haj : (h1.blk j).alive = true := haj
      rw [hoth j e1 e2] at haj
      obtain ⟨l', hb', hroom', hcell', hown'⟩ := hH.cell j haj
      have hbne := hapart j l' haj hb' e1
      refine ⟨l', hsub _ _ hb', by show (h1.blk j).cells.length ≤ _; rw [hoth j e1 e2]; exact hroom', ?_, ?_⟩
      · intro i v hvi
        replace hvi : (h1.blk j).cells[i]? = some v := hvi
        rw [hoth j e1 e2] at hvi
        obtain ⟨c, hc, hr⟩ := hcell' i v hvi
        exact ⟨c, by rw [World.cell?_setCells_out l.b news' _ w _ (fun hb2 _ => absurd hb2 hbne)]; exact hc, hr.mono hsub⟩
      · intro hlo'
        obtain ⟨x1, x2⟩ := hown' hlo'
        refine ⟨⟨x1.1, fun hm => (x1.2 hm).setCells _ _ _⟩, fun i hi => ?_⟩
        rw [World.frozen?_setCells, World.cell?_setCells_out l.b news' _ w _ (fun hb2 _ => absurd hb2 hbne)]
        exact x2 i hi
  · intro i j li lj hai haj hij hli h3 h4
    have ei : i ≠ id := fun e => by rw [e] at hai; rw [show ((h.new (olds ++ news)).kill id) = h1 from rfl, hdead] at hai; cases hai
    have ej : j ≠ id := fun e => by rw [e] at haj; rw [show ((h.new (olds ++ news)).kill id) = h1 from rfl, hdead] at haj; cases haj
    replace hai : (h1.blk i).alive = true := hai
    replace haj : (h1.blk j).alive = true := haj
    by_cases e2 : i = h.next
    · subst e2
      rw [Bet.set_same] at h3; cases h3
      rw [Bet.set_ne β _ (Ne.symm hij)] at h4
      rw [hoth j ej (Ne.symm hij)] at haj
      exact (hapart j lj haj h4 ej).symm
    · rw [Bet.set_ne β _ e2] at h3
      rw [hoth i ei e2] at hai
      by_cases e3 : j = h.next
      · subst e3
        rw [Bet.set_same] at h4; cases h4
        exact hapart i li hai h3 ei
      · rw [Bet.set_ne β _ e3] at h4
        rw [hoth j ej e3] at haj
        exact hH.inj i j li lj hai haj hij hli h3 h4
  · intro j hj
    have hj' : h.next + 1 ≤ j := hj
    have e1 : j ≠ id := by omega
    have e2 : j ≠ h.next := by omega
    rw [Bet.set_ne β _ e2]
    refine ⟨?_, (hH.bnd j (by omega)).2⟩
    show (h1.blk j).alive = false
    rw [hoth j e1 e2]; exact (hH.bnd j (by omega)).1
  · show (h1.blk 0).alive = false
    by_cases e : 0 = id
    · rw [e]; exact hdead
    · have := hH.pos
      rw [hoth 0 e (by omega)]; exact hH.zero
  · show 0 < h.next + 1; omega
  · have := hH.lo
    show h.lo ≤ h.next + 1; omega
  · intro j l' hj
    rw [size_setCells]
    by_cases e : j = h.next
    · subst e; rw [Bet.set_same] at hj; cases hj; exact hH.blt id l hb
    · rw [Bet.set_ne β _ e] at hj; exact hH.blt j l' hj
  · refine ⟨hsub, below_setCells l.b hBl.1 news' _ w w (Below.refl _ _), rfl, by show h.next ≤ h.next + 1; omega, fun j hj => ?_, fun j hj haj hv => ?_⟩
    · show _ ≤ (h1.blk j).ver
      by_cases e : j = id
      · subst e; simp [h1, H.kill, H.upd, H.new]; split <;> simp_all
      · rw [hoth j e (by omega)]; exact Nat.le_refl _
    · by_cases e : j = id
      · subst e
        have : (h1.blk j).ver = (h.blk j).ver := hv
        have e2 : ¬ (j = h.next) := by omega
        simp [h1, H.kill, H.upd, H.new, e2] at this
      · have he := hoth j e (by omega)
        refine ⟨(congrArg Blk.alive he).trans haj, congrArg Blk.cells he, fun l' hl' i hi => ?_⟩
        rw [World.cell?_setCells_out l.b news' _ w _ (fun hb2 _ => absurd hb2 (hapart j l' haj hl' e))]
end Go.Proofs.Ythoabddfionmoaa.AH
namespace Go.Proofs.Ythoabddfionmoaa.AH
open Go Go.RowKit
variable {P : Program}

/-- How a call ends. -/
def Ret (B : Nat) (β : Bet) (h : H) (w : World) (r : V) (h' : H) : Ending → World → Prop := fun e w' => ∃ c β', e = .returned c ∧ RelV β' r c ∧ RelH B β' h' w' ∧ Ext B β h w β' h' w'
def CallOk (P : Program) (B : Nat) (call : Nat → List V → H → Option (V × H)) : Prop := ∀ f args h r h', call f args h = some (r, h') →
  (∃ fn, P.funcs[f]? = some fn ∧ (fn.name == "runtime.NumGoroutine") = false ∧ fn.body.isNone = false) ∧
  ∀ β w argsC, All2 (RelV β) args argsC → RelH B β h w → Calls P f argsC.toArray w (Ret B β h w r h')

theorem flatten_get {α : Type} (z : List α) (hz : 0 < z.length) : ∀ (n i : Nat), ((List.replicate n z).flatten)[i]? = if i < n * z.length then z[i % z.length]? else none
  | 0, i => by simp
  | n + 1, i => by
    rw [List.replicate_succ, List.flatten_cons, List.getElem?_append]
    by_cases h : i < z.length
    · rw [if_pos h, if_pos (by rw [Nat.add_mul]; omega), Nat.mod_eq_of_lt h]
    · rw [if_neg h, flatten_get z hz n]
      have hmod : (i - z.length) % z.length = i % z.length := by
        conv => rhs; rw [show i = (i - z.length) + z.length from by omega]
        rw [Nat.add_mod_right]
      rw [hmod, Nat.add_mul, Nat.one_mul]
      by_cases h2 : i - z.length < n * z.length
      · rw [if_pos h2, if_pos (by omega)]
      · rw [if_neg h2, if_neg (by omega)]
theorem flatten_len {α : Type} (z : List α) : ∀ (n : Nat), ((List.replicate n z).flatten).length = n * z.length
  | 0 => by simp
  | n + 1 => by rw [List.replicate_succ, List.flatten_cons, List.length_append, flatten_len z n, Nat.add_mul]; omega
theorem rep_rel {β : Bet} {z : List V} {z' : List Value} (hr : All2 (RelC β) z z') (hz : 0 < z.length) (n : Nat) :
    All2 (RelC β) ((List.replicate n z).flatten) ((Array.range (n * z.length)).map (fun i => z'.toArray[i % z'.toArray.size]!)).toList := by
  refine All2.of_get ?_ fun i x y hx hy => ?_
  · rw [flatten_len]; simp
  · rw [flatten_get z hz] at hx
    split at hx
    · rename_i hi
      obtain ⟨c, hc, hrc⟩ := hr.get hx
      have hl := hr.length
      simp [hi] at hy
      rw [← hl, hc] at hy
      simp at hy; subst hy; exact hrc
    · cases hx

theorem srcV_sim {B : Nat} {β : Bet} {h : H} {w : World} (hH : RelH B β h w) {t : TypeId} {size : Nat} {x : V} {c : Value} {n : Nat} {cs : List V} (hx : RelV β x c) (hs : srcV P h t size x = some (n, cs)) (hsz : 0 < size) :
    ∃ news, Src P size t c n news w ∧ All2 (RelC β) cs news := by
  unfold srcV at hs
  split at hs
  · rename_i e id off m
    split at hs
    · rename_i e' hu
      split at hs
      · rename_i h0; subst h0
        cases hs
        rcases hx with ⟨_, _, rfl, rfl⟩ | ⟨hne, _⟩
        · exact ⟨[], Src.ofNil w hu 0, trivial⟩
        · exact absurd rfl hne
      · rename_i h0
        rcases hx with ⟨h0', _⟩ | ⟨_, l, a, cap, hb, rfl, hcap, ha, hstr⟩
        · exact absurd h0' h0
        · split at hs
          · rename_i hz
            split at hs
            · rename_i hm; subst hm; cases hs
              exact ⟨[], Src.ofSlice w hu a 0 cap [] (by simp) (fun j u hj => by simp at hj) (fun u hu => by cases hu), trivial⟩
            · cases hs
          · rename_i hz
            simp only [Option.map_eq_some_iff] at hs
            obtain ⟨cs1, hl, he⟩ := hs
            cases he
            obtain ⟨hlen, l', cs', hb', hne, hrange, hrel, hag⟩ := load_rel hH hl
            rw [hb] at hb'; cases hb'
            have hn0 : 0 < n := by rcases Nat.eq_zero_or_pos n with e | e; · subst e; simp at hz
                                   · exact e
            obtain ⟨rfl, _⟩ := ha (by omega)
            exact ⟨cs', Src.ofSlice w hu _ n cap cs' (by rw [← hrel.length, hlen]) (fun j u hj => by rw [Addr.add_mid]; exact hrange j u hj) (hrel.right (p := fun u => u.oneCell' = true) fun _ _ hh => hh.one), hrel⟩
    · cases hs
  · rename_i s
    split at hs
    · rename_i hu
      split at hs
      · rename_i h1; subst h1
        cases hs; cases hx
        refine ⟨byteCells s, Src.ofString w hu s, ?_⟩
        unfold byteCells
        exact All2.of_get (by simp) fun i x y hx hy => by
          simp only [List.getElem?_map, Option.map_eq_some_iff] at hx hy
          obtain ⟨b, hb, rfl⟩ := hx
          obtain ⟨b', hb', rfl⟩ := hy
          rw [hb] at hb'; cases hb'; rfl
      · cases hs
    · cases hs
  · cases hs

theorem appV_sim {B : Nat} {β : Bet} {h : H} {w : World} (hH : RelH B β h w) {t tx ty : TypeId} {s x : V} {cs cx : Value} {rv : Option V} {h' : H} (hs : RelV β s cs) (hx : RelV β x cx) (hv : appV P h t tx s x = some (rv, h')) :
    ∃ c β' w' v, (Builtin.append_ #[t, tx] ty #[cs, cx]).run P w = .ok c w' ∧ rv = some v ∧ RelV β' v c ∧ RelH B β' h' w' ∧ Ext B β h w β' h' w' := by
  unfold appV at hv
  split at hv
  · rename_i ez id off len
    simp only [Option.bind_eq_some_iff] at hv
    obtain ⟨e, he, z, hz, y, hy, hv⟩ := hv
    obtain ⟨i, hu, hi, hsize, hbytes, hpos⟩ := elemOf_some he
    obtain ⟨i', zv, hi', hzv, hzc⟩ := zeroOf_some hz
    rw [hi] at hi'; cases hi'
    obtain ⟨n, ys⟩ := y
    obtain ⟨news, hsrc, hnews⟩ := srcV_sim hH hx hy hpos
    split at hv
    · rename_i hn0
      cases hv
      simp only at hn0; subst hn0
      have hnil : news = [] := List.eq_nil_of_length_eq_zero (by have := hsrc.newsLen; simpa using this)
      subst hnil
      have hle : ∃ base cap, cs = .slice base len cap ∧ len ≤ cap := by
        rcases hs with ⟨_, _, rfl, rfl⟩ | ⟨_, l, a, cap, _, rfl, hcap, _⟩
        · exact ⟨_, _, rfl, Nat.le_refl _⟩
        · exact ⟨_, _, rfl, hcap⟩
      obtain ⟨base, cap, rfl, hcap⟩ := hle
      refine ⟨_, β, w, _, run_append_nothing w t tx ty e.1 i hu hi base len cap hcap cx (by rw [hsize]; exact hsrc), rfl, hs, hH, Ext.refl _ _ _ _⟩
    · rename_i hn0
      simp only at hn0
      split at hv
      · rename_i hc
        obtain ⟨hb1, hb2, hown, hzl⟩ := hc
        simp only [Option.bind_eq_some_iff] at hv
        obtain ⟨olds, holds, hv⟩ := hv
        cases hv
        simp only at hb1 hb2 hzl
        have hnl := hsrc.newsLen
        -- the concrete slice
        have hgrow : ∀ (base : Option Addr) (cap : Nat) (olds' : List Value), All2 (RelC β) olds olds' → cs = .slice base len cap → cap < len + n → (Builtin.firstCells i.size len (.slice base len cap)).run P w.drew = .ok olds'.toArray w.drew → olds.length = len * e.2.1 →
            ∃ c β' w' v, (Builtin.append_ #[t, tx] ty #[cs, cx]).run P w = .ok c w' ∧ some (V.sl e.2.1 h.next 0 (len + n)) = some v ∧ RelV β' v c ∧ RelH B β' ((h.new (olds ++ ys)).kill id) w' ∧ Ext B β h w β' ((h.new (olds ++ ys)).kill id) w' := by
          intro base cap olds' hro hcs hcap hfirst hol
          subst hcs
          have hfit := growslice_fits (bytes := i.bytes) hcap (by rw [hbytes]; exact hb1)
          have hrun := run_append_grow_src w t tx ty e.1 i zv hu hi hzv base len cap olds' hfirst cx n news (by rw [hsize]; exact hsrc) hcap (by omega) hfit
          have hcapge : len + n ≤ grownCap w (len + n) cap e.1 := by unfold grownCap Question.cut; simp only; omega
          have hzlen : zv.cells.size = e.2.1 := by have := (ofCs_rel β hzc).length; simp at this; omega
          have hC : ((olds' ++ news).toArray ++ Builtin.zeroCells zv.cells (grownCap w (len + n) cap e.1 - (len + n))).size = grownCap w (len + n) cap e.1 * e.2.1 := by
            simp only [Array.size_append, List.size_toArray, List.length_append, Builtin.zeroCells, Array.size_map, Array.size_range, ← hro.length, hol, hnl, hzlen]
            rw [← Nat.add_mul, ← Nat.add_mul]
            congr 1; omega
          have hlen2 : (olds ++ ys).length = (len + n) * e.2.1 := by rw [List.length_append, hol, hnews.length, hnl, Nat.add_mul]
          have hrel2 : All2 (RelC β) (olds ++ ys) (olds' ++ news) := hro.append hnews
          obtain ⟨hR, hX⟩ := new_rel (hH.drew) (cs := olds ++ ys) ((olds' ++ news).toArray ++ Builtin.zeroCells zv.cells (grownCap w (len + n) cap e.1 - (len + n))) e.1 (0, 0) false (by simp)
            (by rw [hC, hlen2]; exact Nat.mul_le_mul_right _ hcapge) (by
              rw [Array.toList_append, List.take_append_of_le_length (by rw [hrel2.length]; simp), List.take_of_length_le (by rw [hrel2.length]; simp)]
              simpa using hrel2) (fun j _ => by omega)
          obtain ⟨hR2, hX2⟩ := kill_rel hR id
          have hne : h.next ≠ 0 := by have := hH.pos; omega
          refine ⟨_, _, _, _, hrun, rfl, .inr ⟨hne, ⟨w.drew.heap.size, 0, _, false⟩, _, _, Bet.set_same _ _ _, rfl, hcapge, fun _ => ⟨by simp, by rw [hC]; simp⟩, fun _ => rfl⟩, hR2, (Ext.drew B β h w).trans (hX.trans hX2)⟩
        have holds' : (len = 0 ∧ olds = []) ∨ h.load id off (len * e.2.1) = some olds := by
          split at holds
          · rename_i hl0; cases holds; exact .inl ⟨hl0, rfl⟩
          · exact .inr holds
        rcases hs with ⟨h0, hoff, hlen0, rfl⟩ | ⟨hne, l, a, cap, hb, rfl, hcap, ha, hstr⟩
        · subst hlen0
          have : olds = [] := by rcases holds' with ⟨_, h1⟩ | h1; · exact h1
                                 · rw [h0] at h1; unfold H.load at h1; rw [hH.zero] at h1; simp at h1
          subst this
          exact hgrow none 0 [] trivial rfl (by omega) (run_firstCells_none w.drew i.size 0 0 0) (by simp)
        · obtain ⟨hal, hlo, _, hez⟩ : (h.blk id).alive = true ∧ h.lo ≤ id ∧ id ≠ 0 ∧ ez = e.2.1 := hown.resolve_left fun ⟨h1, _⟩ => hne h1
          by_cases hroom : len + n ≤ cap
          · obtain ⟨rfl, hrm⟩ := ha (by omega)
            rw [hez] at hrm
            have hsum : len * e.2.1 + n * e.2.1 ≤ cap * e.2.1 := by rw [← Nat.add_mul]; exact Nat.mul_le_mul_right _ hroom
            obtain ⟨hth, hR, hX⟩ := grow_rel hH (n := len * e.2.1) (off := off) (olds := olds) hal hlo hb (holds'.imp (fun ⟨h1, h2⟩ => ⟨by rw [h1]; simp, h2⟩) (fun x => x)) hnews (by rw [hnl]; omega)
            refine ⟨_, _, _, _, run_append_room_src w t tx ty e.1 i hu hi l.b (l.base + off) len cap cx n news (by rw [hsize]; exact hsrc) hroom (fun j hj => by rw [hsize]; exact (hth j hj).1) (fun j hj => by rw [hsize]; exact (hth j hj).2), rfl, ?_, by rw [hsize]; exact hR, by rw [hsize]; exact hX⟩
            have hne' : h.next ≠ 0 := by have := hH.pos; omega
            exact .inr ⟨hne', ⟨l.b, l.base + off, l.room - off, l.str⟩, _, cap, Bet.set_same _ _ _, rfl, hroom, fun _ => ⟨by simp, by simp only; omega⟩, fun hz => hstr (by rw [hez]; exact hz)⟩
          · rcases holds' with ⟨h1, h2⟩ | hl
            · subst h1 h2
              refine hgrow (some a) cap [] trivial rfl (by omega) ?_ (by simp)
              exact run_firstCells_some w.drew i.size 0 a 0 cap [] (by simp) (fun j v hj => by simp at hj)
            · obtain ⟨hll, l', cs', hb', _, hrange, hrel, hag⟩ := load_rel hH hl
              rw [hb] at hb'; cases hb'
              refine hgrow (some a) cap cs' hrel rfl (by omega) ?_ hll
              refine run_firstCells_some w.drew i.size len a len cap cs' (by rw [← hrel.length, hll, hsize]) (fun j v hj => ?_)
              have hpos2 : 0 < len := by
                rcases Nat.eq_zero_or_pos len with e0 | e0
                · subst e0; have : cs'.length = 0 := by rw [← hrel.length, hll]; simp
                  have hj' := (List.getElem?_eq_some_iff.1 hj).1; omega
                · exact e0
              obtain ⟨rfl, _⟩ := ha (by omega)
              rw [Addr.add_mid]
              exact hrange j v hj
      · cases hv
  · cases hv
end Go.Proofs.Ythoabddfionmoaa.AH
namespace Go.Proofs.Ythoabddfionmoaa.AH
open Go Go.RowKit
variable {P : Program}

theorem opds_rel {β : Bet} {E : Env} {a : Act} (hE : RelE β E a.tmps) : ∀ {l : List Operand} {vs : List V}, opds E l = some vs → All2 (RelV β) vs (l.map a.eval)
  | [], vs, h => by simp [opds] at h; subst h; trivial
  | o :: r, vs, h => by
    simp only [opds, Option.bind_eq_some_iff, Option.map_eq_some_iff] at h
    obtain ⟨v, hv, us, hus, rfl⟩ := h
    exact ⟨opd_rel hE hv, opds_rel hE hus⟩
theorem caps_rel {β : Bet} : ∀ {caps : List (Nat × Nat)} {cs : List Value}, All2 (RelP β) caps cs → All2 (RelV β) (caps.map fun p => V.ptr p.1 p.2) cs
  | [], [], _ => trivial
  | p :: r, c :: cs, h => by
    obtain ⟨⟨l, h1, h2, h3⟩, ht⟩ := h
    exact ⟨.inr ⟨h2, l, h1, h3⟩, caps_rel ht⟩
  | [], _ :: _, h => h.elim
  | _ :: _, [], h => h.elim

/-- What comes behind one operation that made or wrote memory, or called. -/
def After (B : Nat) (β : Bet) (h : H) (w : World) (rv : Option V) (h' : H) (o : Oper) (a : Act) (next : Act → World → Prop) : Prop :=
  ∀ β' c w', (∀ v, rv = some v → RelV β' v c) → RelH B β' h' w' → Ext B β h w β' h' w' → next (a.put o.dst c) w'

theorem alloc_cells {B : Nat} {β : Bet} {h : H} {w : World} (hH : RelH B β h w) {cs : List V} {C : Array Value} (e : TypeId) (hr : All2 (RelC β) cs C.toList) :
    RelH B (β.set h.next ⟨w.heap.size, 0, C.size, false⟩) (h.new cs) (w.alloc (.cells C e)) ∧ Ext B β h w (β.set h.next ⟨w.heap.size, 0, C.size, false⟩) (h.new cs) (w.alloc (.cells C e)) ∧ h.next ≠ 0 := by
  have hl := hr.length
  obtain ⟨h1, h2⟩ := new_rel hH (cs := cs) C e (0, 0) false (by simp) (by simp at hl; omega) (by rw [List.take_of_length_le (by omega)]; exact hr) (fun _ _ => by omega)
  exact ⟨h1, h2, by have := hH.pos; omega⟩

theorem eOp_sim {B : Nat} {β : Bet} {h : H} {w : World} (hH : RelH B β h w) {call : Nat → List V → H → Option (V × H)} (hcall : CallOk P B call) {E : Env} {a : Act} (hE : RelE β E a.tmps) (o : Oper) {rv : Option V} {h' : H}
    (hv : eOp P call E h o.op = some (rv, h')) {next : Act → World → Prop} {Q : Exit → Act → World → Prop} (hn : After B β h w rv h' o a next) : o.wp P a w next Q := by
  have fin : ∀ {c : Value} {w' : World}, (execOp a.eval o).run P w = .ok (.value c) w' → next (a.put o.dst c) w' → o.wp P a w next Q := fun hr hk => by
    unfold Oper.wp; rw [hr]; exact hk
  have fin' : ∀ {w' : World}, (execOp a.eval o).run P w = .ok .skip w' → next (a.put o.dst undef) w' → o.wp P a w next Q := fun hr hk => by
    unfold Oper.wp; rw [hr]; exact hk
  unfold eOp at hv
  split at hv
  · rename_i t ho
    simp only [Option.map_eq_some_iff] at hv
    obtain ⟨z, hz, he⟩ := hv
    cases he
    obtain ⟨i, zv, hi, hzv, hzc⟩ := zeroOf_some hz
    obtain ⟨hR, hX, hne⟩ := alloc_cells hH t (ofCs_rel β hzc)
    refine fin (c := .pointer (some ⟨w.heap.size, 0, none⟩)) ?_ (hn _ _ _ (fun v hv => by cases hv; exact .inr ⟨hne, _, Bet.set_same _ _ _, rfl⟩) hR hX)
    unfold execOp; rw [ho]
    simp [Instr.alloc, zeroValue, typeInfo, hi, hzv, newVar, newRow]
  · rename_i t x ho
    simp only [Option.bind_eq_some_iff, Option.map_eq_some_iff] at hv
    obtain ⟨u, hu, cs, hcs, he⟩ := hv
    cases he
    obtain ⟨hR, hX, hne⟩ := alloc_cells hH t (cellsV_rel (opd_rel hE hu) hcs)
    refine fin (c := .pointer (some ⟨w.heap.size, 0, none⟩)) ?_ (hn _ _ _ (fun v hv => by cases hv; exact .inr ⟨hne, _, Bet.set_same _ _ _, rfl⟩) hR hX)
    unfold execOp; rw [ho]
    simp [Instr.box, newVar, newRow]
  · rename_i t n parts ho
    simp only [Option.bind_eq_some_iff] at hv
    obtain ⟨e, he, hv⟩ := hv
    obtain ⟨i, hu, hi, hsize, hbytes, hpos⟩ := elemOf_some he
    split at hv
    · rename_i hsm
      simp only [Option.bind_eq_some_iff] at hv
      obtain ⟨z, hz, hv⟩ := hv
      obtain ⟨i', zv, hi', hzv, hzc⟩ := zeroOf_some hz
      rw [hi] at hi'; cases hi'
      split at hv
      · rename_i hzl
        simp only [Option.map_eq_some_iff] at hv
        obtain ⟨cs, hf, hh⟩ := hv
        cases hh
        have hzr := ofCs_rel β hzc
        have hrun : ∀ (C : Array Value), Instr.fill (fun i => some (i * e.2.1, e.2.1)) ((Array.range (n * e.2.1)).map (fun i => (if n * e.2.1 = 0 then #[] else zv.cells)[i % (if n * e.2.1 = 0 then #[] else zv.cells).size]!)) (parts.toList.map fun x => (x.1, a.eval x.2)) = some C →
            (execOp a.eval o).run P w = .ok (.value (.slice (some ⟨w.heap.size, 0, none⟩) n n)) (w.alloc (.cells C e.1)) := fun C hC => by
          unfold execOp; rw [ho]
          have e1 : (parts.map fun (i, x) => (i, a.eval x)).toList = parts.toList.map fun x => (x.1, a.eval x.2) := by simp
          have hsm' : ¬ (16777216 < n * e.2.1) := by omega
          by_cases h0 : n * e.2.1 = 0
          · have hn0 : n = 0 := by rcases Nat.mul_eq_zero.1 h0 with h1 | h1; · exact h1
                                   · omega
            subst hn0
            have hC' : Instr.fill (fun i => some (i * e.2.1, e.2.1)) #[] (parts.toList.map fun x => (x.1, a.eval x.2)) = some C := by
              rw [← hC]; congr 1; simp
            simp [Instr.buildSlice, run_underlying hu, sizeOf, typeInfo, hi, hsize, Array.range_zero', hC', newRow]
          · simp only [h0, if_false] at hC
            simp [Instr.buildSlice, run_underlying hu, sizeOf, typeInfo, zeroValue, hi, hsize, hzv, h0, hC, newRow, hsm']
        have hr0 : All2 (RelC β) ((List.replicate n z).flatten) ((Array.range (n * e.2.1)).map (fun i => (if n * e.2.1 = 0 then #[] else zv.cells)[i % (if n * e.2.1 = 0 then #[] else zv.cells).size]!)).toList := by
          by_cases h0 : n * e.2.1 = 0
          · have : n = 0 := by rcases Nat.mul_eq_zero.1 h0 with h1 | h1; · exact h1
                               · omega
            subst this; simp [All2]
          · have hzl' := hzl.resolve_left h0
            simp only [h0, if_false]
            have := rep_rel hzr (by omega) n
            rw [hzl'] at this; simpa using this
        obtain ⟨C', hfill, hrC⟩ := fill_sim hE (place' := fun i => some (i * e.2.1, e.2.1)) (fun _ _ h => h) hr0 hf
        obtain ⟨hR, hX, hne⟩ := alloc_cells hH (C := C'.toArray) e.1 (by simpa using hrC)
        refine fin (hrun C'.toArray (by rw [Array.toArray_toList] at hfill; exact hfill)) (hn _ _ _ (fun v hv => by
          cases hv
          refine .inr ⟨hne, _, _, n, Bet.set_same _ _ _, rfl, Nat.le_refl _, fun _ => ⟨by simp, ?_⟩, fun _ => rfl⟩
          have h1 := hrC.length
          have h2 : cs.length = n * e.2.1 := by
            have hfl : ∀ {parts : List (Nat × Operand)} {c1 c2 : List V}, fillV (fun i => some (i * e.2.1, e.2.1)) E parts c1 = some c2 → c2.length = c1.length := by
              intro parts
              induction parts with
              | nil => intro c1 c2 h; simp [fillV] at h; rw [h]
              | cons p r ih =>
                intro c1 c2 h
                obtain ⟨j, q⟩ := p
                simp only [fillV, Option.bind_eq_some_iff] at h
                obtain ⟨v, _, vs, _, pp, _, h⟩ := h
                split at h
                · simp only [Option.bind_eq_some_iff] at h
                  obtain ⟨c3, h3, h⟩ := h
                  rw [ih h]
                  unfold splice at h3
                  split at h3
                  · cases h3; simp; omega
                  · cases h3
                · cases h
            rw [hfl hf, flatten_len]
            rcases hzl with h0 | h0
            · have : n = 0 := by rcases Nat.mul_eq_zero.1 h0 with h1 | h1; · exact h1
                                 · omega
              subst this; simp
            · rw [h0]
          simp only [Nat.zero_add, List.size_toArray]; omega) hR hX)
      · cases hv
    · cases hv
  · rename_i t x y ho
    simp only [Option.bind_eq_some_iff] at hv
    obtain ⟨p, hp, u, hu, vs, hvs, hv⟩ := hv
    split at hv
    · rename_i id off
      simp only [Option.bind_eq_some_iff] at hv
      obtain ⟨ty, hty, hv⟩ := hv
      split at hv
      · rename_i hlen
        simp only [Option.map_eq_some_iff] at hv
        obtain ⟨h1, hst, he⟩ := hv
        cases he
        obtain ⟨n, row⟩ := ty
        obtain ⟨d, ti, htu, hti, rfl, rfl⟩ := ldTy_some hty
        have hrv := cellsV_rel (opd_rel hE hu) hvs
        obtain ⟨l, hb, hne, hth, hR, hX⟩ := store_rel hH hst hrv
        have hpc : a.eval x = .pointer (some ⟨l.b, l.base + off, none⟩) := by
          rcases opd_rel hE hp with ⟨h0, _⟩ | ⟨_, l', hb', he⟩
          · exact absurd h0 hne
          · rw [hb] at hb'; cases hb'; exact he
        refine fin' ?_ (hn _ _ _ (fun v hv => by cases hv) hR hX)
        unfold execOp; rw [ho]
        have hsc := run_storeCells_cells (P := P) l.b (l.base + off) (a.eval y).cells.toList 0 w (fun j hj => by simpa using (hth j hj).1) (fun j hj => by simpa using (hth j hj).2) (hrv.right (p := fun u => u.oneCell' = true) fun _ _ hh => hh.one)
        simp only [Nat.add_zero] at hsc
        have hcs : (a.eval y).cells.size = ti.size := by have := hrv.length; simp at this hlen; omega
        simp [Instr.storeAt, hpc, Instr.sureAddr, storeVar, sizeOf, typeInfo, hti, hcs, hsc]
      · cases hv
    · cases hv
  · rename_i t x y ho
    simp only [Option.bind_eq_some_iff] at hv
    obtain ⟨p, hp, q, hq, e, he, z, hz, hv⟩ := hv
    obtain ⟨i, hu, hi, hsize, hbytes, hpos⟩ := elemOf_some he
    obtain ⟨i', zv, hi', hzv, hzc⟩ := zeroOf_some hz
    rw [hi] at hi'; cases hi'
    split at hv
    · rename_i k n k' m
      split at hv
      · rename_i hc
        obtain ⟨rfl, h0, h1, h2, hzl⟩ := hc
        cases hv
        have hzr := ofCs_rel β hzc
        have hpx : a.eval x = .int k n := opd_rel hE hp
        have hqy : a.eval y = .int k' n := opd_rel hE hq
        have hrun := run_make (P := P) w t e.1 i zv hu hi hzv k k' n n h0 (Int.le_refl _) (by rw [hbytes]; exact h2) (by omega)
        have hr := rep_rel hzr (by omega) n.toNat
        rw [hzl] at hr
        obtain ⟨hR, hX, hne⟩ := alloc_cells hH (C := madeCells zv.cells (n.toNat * e.2.1)) e.1 (by unfold madeCells; simpa using hr)
        refine fin (c := .slice (some ⟨w.heap.size, 0, none⟩) n.toNat n.toNat) ?_ (hn _ _ _ (fun v hv => by
          cases hv
          refine .inr ⟨hne, _, _, n.toNat, Bet.set_same _ _ _, rfl, Nat.le_refl _, fun _ => ⟨by simp, ?_⟩, fun _ => rfl⟩
          simp [size_madeCells]) hR hX)
        unfold execOp; rw [ho]
        rw [hsize] at hrun
        simp [hpx, hqy, hrun]
      · cases hv
    · cases hv
  · rename_i s d x ho
    simp only [Option.bind_eq_some_iff, Option.map_eq_some_iff] at hv
    obtain ⟨u, hu, r0, hv, hx0⟩ := hv
    unfold cvtW at hv
    split at hv
    · rename_i e b hstr hd
      split at hv
      · rename_i hue
        split at hv
        · rename_i hsz
          cases hv; cases hx0
          have hxc : a.eval x = .string b := opd_rel hE hu
          have hrun := run_bytes_of_string (P := P) w s d e b hstr hd hue
          have hcapge : b.size ≤ grownCap w b.size 0 e := by unfold grownCap Question.cut; simp only; omega
          have hC : (bytesRow b (grownCap w b.size 0 e)).size = grownCap w b.size 0 e := by
            unfold bytesRow; simp; have : b.data.size = b.size := rfl; omega
          have hl : (b.data.toList.map fun c => V.int .u8 c.toNat).length = b.size := by simp
          obtain ⟨hR, hX⟩ := new_rel (hH.drew) (cs := b.data.toList.map fun c => V.int .u8 c.toNat) (bytesRow b (grownCap w b.size 0 e)) e ((bytesRow b (grownCap w b.size 0 e)).size, (bytesRow b (grownCap w b.size 0 e)).size + 1) true (by simp)
            (by rw [hl, hC]; exact hcapge) (All2.of_get (by rw [List.length_take, hl]; simp only [Array.length_toList, hC]; omega) fun j x y hx hy => by
              have hj : j < b.size := by have := (List.getElem?_eq_some_iff.1 hx).1; rw [hl] at this; exact this
              rw [hl, List.getElem?_take_of_lt hj, Array.getElem?_toList, bytesRow_at b _ j hj] at hy
              cases hy
              simp only [List.getElem?_map, Option.map_eq_some_iff] at hx
              obtain ⟨b', hb', rfl⟩ := hx
              rw [Array.getElem?_toList, Array.getElem?_eq_getElem hj] at hb'
              cases hb'; rfl) (fun j hj => by simp only; omega)
          have hne : h.next ≠ 0 := by have := hH.pos; omega
          refine fin (c := .slice (some ⟨w.heap.size, 0, none⟩) b.size (grownCap w b.size 0 e)) ?_ (hn _ _ _ (fun v hv => by
            cases hv
            refine .inr ⟨hne, _, _, _, Bet.set_same _ _ _, rfl, hcapge, fun _ => ⟨by simp, ?_⟩, fun hz => absurd rfl hz⟩
            simp only [hC]; omega) hR ((Ext.drew B β h w).trans hX))
          unfold execOp; rw [ho]
          simp [hxc, hrun]
        · cases hv
      · cases hv
    · cases hv
  · rename_i c ho
    split at hv
    · rename_i s x t tx ts hcal hargs htys
      simp only [Option.bind_eq_some_iff] at hv
      obtain ⟨u, hu, y, hy, hv⟩ := hv
      have e1 : c.args = #[s, x] := by rw [← Array.toArray_toList (xs := c.args), hargs]
      obtain ⟨cv, β', w', v, hrun, rfl, hrel, hR, hX⟩ := appV_sim (ty := o.type) hH (opd_rel hE hu) (opd_rel hE hy) hv
      refine fin (c := cv) ?_ (hn _ _ _ (fun v' hv' => by cases hv'; exact hrel) hR hX)
      unfold execOp; rw [ho]
      have e2 : ∀ w, (Builtin.append_ c.argTypes o.type #[a.eval s, a.eval x]).run P w = (Builtin.append_ #[t, tx] o.type #[a.eval s, a.eval x]).run P w := fun w => by
        have : c.argTypes = (t :: tx :: ts).toArray := by rw [← Array.toArray_toList (xs := c.argTypes), htys]
        rw [this]; simp [Builtin.append_]
      simp [resolve, hcal, invoke, builtin, e1, e2, hrun]
    · rename_i f hcal
      simp only [Option.bind_eq_some_iff] at hv
      obtain ⟨g, hg, hv⟩ := hv
      split at hv
      · rename_i k caps
        simp only [Option.bind_eq_some_iff, Option.map_eq_some_iff] at hv
        obtain ⟨vs, hvs, ⟨r, h1⟩, hcl, he⟩ := hv
        cases he
        obtain ⟨cs, hfc, hcs⟩ := opd_rel hE hg
        obtain ⟨⟨fn, hfn, hname, hbody⟩, hok⟩ := hcall _ _ _ _ _ hcl
        have hcalls := hok β w (c.args.toList.map a.eval ++ cs) ((opds_rel hE hvs).append (caps_rel hcs)) hH
        have hrun : (execOp a.eval o).run P w = .ok (.enter k (c.args.toList.map a.eval ++ cs).toArray) w := by
          unfold execOp; rw [ho]
          have e3 : c.args.map a.eval ++ cs.toArray = (c.args.toList.map a.eval ++ cs).toArray := by apply Array.ext'; simp
          have hname' : ¬ (fn.name = "runtime.NumGoroutine") := by simpa using hname
          have hbody' : ¬ (fn.body = none) := by intro hb; rw [hb] at hbody; cases hbody
          simp [resolve, hcal, hfc, Deferred.ofValue, invoke, callFunc, hfn, hname', hbody']
        unfold Oper.wp
        rw [hrun]
        refine Calls.mono hcalls fun e w' hret => ?_
        obtain ⟨cv, β', rfl, hrel, hR, hX⟩ := hret
        exact hn _ _ _ (fun v hv => by cases hv; exact hrel) hR hX
      · cases hv
    · cases hv
  · cases hv
end Go.Proofs.Ythoabddfionmoaa.AH
namespace Go.Proofs.Ythoabddfionmoaa.AH
open Go Go.RowKit
variable {P : Program}

/-- A state of a call under way, seen from where it began. -/
structure St (B : Nat) (β0 : Bet) (h0 : H) (w0 : World) (N : Nat) (E : Env) (h : H) (a : Act) (w : World) (β : Bet) : Prop where
  env : RelE β E a.tmps
  size : a.tmps.size = N
  defers : a.defers = []
  heap : RelH B β h w
  ext : Ext B β0 h0 w0 β h w

theorem wanted_sim {β : Bet} {E : Env} {a : Act} (hE : RelE β E a.tmps) {ops : Array Oper} {o : Oper} {b : Bool} (h : wantedV ops o E = some b) : Region.wanted o (yielded ops a.tmps) = b := by
  unfold wantedV at h
  unfold Region.wanted
  split at h
  · rename_i hg; cases h; rw [hg]
  · rename_i j want hg
    rw [hg]
    split at h
    · rename_i bb hb
      cases h
      simp only [Option.bind_eq_some_iff] at hb
      obtain ⟨d, hd, hv⟩ := hb
      obtain ⟨oo, ho, hdd⟩ := hd
      obtain ⟨c, hc, hr⟩ := hE d _ hv
      have : c = .bool bb := hr
      subst this
      simp [yielded, ho, hdd, hc]
    · rename_i hb
      cases h
      simp only [Option.bind_eq_some_iff] at hb
      obtain ⟨d, hd, hv⟩ := hb
      obtain ⟨oo, ho, hdd⟩ := hd
      obtain ⟨c, hc, hr⟩ := hE d _ hv
      obtain ⟨cs, rfl, hcs⟩ := hr
      simp [yielded, ho, hdd, hc]
    · cases h

theorem relV_undef (β : Bet) : RelV β (.tup []) undef := ⟨[], rfl, trivial⟩
theorem St.step {B : Nat} {β0 β β' : Bet} {h0 h h' : H} {w0 w w' : World} {N : Nat} {E E' : Env} {a a' : Act} (s : St B β0 h0 w0 N E h a w β) (hE : RelE β' E' a'.tmps) (hs : a'.tmps.size = a.tmps.size) (hd : a'.defers = a.defers) (hH : RelH B β' h' w') (hX : Ext B β h w β' h' w') : St B β0 h0 w0 N E' h' a' w' β' :=
  ⟨hE, by rw [hs]; exact s.size, by rw [hd]; exact s.defers, hH, s.ext.trans hX⟩

theorem gput_put {ops : Array Oper} {N : Nat} {o : Oper} {E E' : Env} {v : V} (h : gput ops N o E v = some E') : put1 N E o.dst v = some E' := by
  unfold gput at h
  split at h
  · split at h
    · exact h
    · cases h
  · exact h

/-- One operation of a region. -/
theorem evOper_sim {B : Nat} {β0 β : Bet} {h0 h h' : H} {w0 w : World} {N : Nat} {E E' : Env} {a : Act} {call : Nat → List V → H → Option (V × H)} (hcall : CallOk P B call) {ops : Array Oper} {o : Oper} (he : evOper P call ops N o E h = some (E', h'))
    (s : St B β0 h0 w0 N E h a w β) {K : Act → World → Prop} {Q : Exit → Act → World → Prop} (hK : ∀ a' w' β', St B β0 h0 w0 N E' h' a' w' β' → Ext B β h w β' h' w' → K a' w') :
    if Region.wanted o (yielded ops a.tmps) then o.wp P a w K Q else K (a.put o.dst undef) w := by
  unfold evOper at he
  simp only [Option.bind_eq_some_iff] at he
  obtain ⟨b, hb, he⟩ := he
  rw [wanted_sim s.env hb]
  cases b with
  | false =>
    simp only [Bool.false_eq_true, if_false, Option.map_eq_some_iff] at he
    obtain ⟨E1, hp, hx⟩ := he
    cases hx
    exact hK _ _ _ (s.step (s.env.put1 (relV_undef β) s.size hp) (put_size _ _ _) (put_defers _ _ _) s.heap (Ext.refl _ _ _ _)) (Ext.refl _ _ _ _)
  | true =>
    simp only [if_true] at he ⊢
    split at he
    · rename_i hq
      simp only [Option.bind_eq_some_iff, Option.map_eq_some_iff] at he
      obtain ⟨v, hv, E1, hp, hx⟩ := he
      cases hx
      obtain ⟨c, hr, hrun⟩ := qOp_sim s.heap s.env 0 o hv
      unfold Oper.wp
      rw [hrun w (AgreeR.refl _ _ _ _)]
      exact hK _ _ _ (s.step (s.env.put1 hr s.size (gput_put hp)) (put_size _ _ _) (put_defers _ _ _) s.heap (Ext.refl _ _ _ _)) (Ext.refl _ _ _ _)
    · simp only [Option.bind_eq_some_iff] at he
      obtain ⟨⟨rv, h1⟩, hv, he⟩ := he
      refine eOp_sim s.heap hcall s.env o hv fun β' c w' hr hH hX => ?_
      split at he
      · rename_i v hrv
        simp only [Option.map_eq_some_iff] at he
        obtain ⟨E1, hp, hx⟩ := he
        cases hx
        have hpp : (a.put o.dst c).tmps.size = a.tmps.size := put_size _ _ _
        exact hK _ _ _ (s.step ((s.env.mono hX.sub).put1 (hr v hrv) s.size (gput_put hp)) (put_size _ _ _) (put_defers _ _ _) hH hX) hX
      · cases he
        exact hK _ _ _ (s.step ((s.env.mono hX.sub).del o.dst c) (put_size _ _ _) (put_defers _ _ _) hH hX) hX

theorem evOps_sim {B : Nat} {β0 : Bet} {h0 : H} {w0 : World} {N : Nat} {call : Nat → List V → H → Option (V × H)} (hcall : CallOk P B call) {ops : Array Oper} {Q : Exit → Act → World → Prop} : ∀ (l : List Oper) (E E' : Env) (h h' : H) (a : Act) (w : World) (β : Bet), evOps P call ops N l E h = some (E', h') →
    St B β0 h0 w0 N E h a w β → (∀ a' w' β', St B β0 h0 w0 N E' h' a' w' β' → Q .normal a' w') → wpList P ops Q l a w
  | [], E, E', h, h', a, w, β, he, s, hQ => by simp [evOps] at he; obtain ⟨rfl, rfl⟩ := he; exact hQ _ _ _ s
  | o :: r, E, E', h, h', a, w, β, he, s, hQ => by
    simp only [evOps, Option.bind_eq_some_iff] at he
    obtain ⟨⟨E1, h1⟩, he1, he2⟩ := he
    have := evOper_sim (Q := Q) hcall he1 s (K := wpList P ops Q r) fun a' w' β' s' _ => evOps_sim hcall r _ _ _ _ _ _ _ he2 s' hQ
    unfold wpList
    split
    · rename_i hw; rw [if_pos hw] at this; exact .inl this
    · rename_i hw; rw [if_neg hw] at this; exact this

/-! ### A drawn order -/
/-- Worlds with more in memory: none of the elder blocks has changed. -/
def Gb (w w' : World) : Prop := Below w.heap.size w w'
theorem Gb.refl (w : World) : Gb w w := Below.refl _ _
theorem Gb.trans {a b c : World} (x : Gb a b) (y : Gb b c) : Gb a c := Below.trans x (Below.mono y x.size)
theorem Gb.cell {w w' : World} (g : Gb w w') {p : Addr} {c : Value} (h : w.cell? p = some c) : w'.cell? p = some c := by
  have hlt : p.block < w.heap.size := by
    unfold World.cell? at h
    split at h
    · rename_i hb; exact (Array.getElem?_eq_some_iff.1 hb).1
    · cases h
  rw [Below.cell g hlt]; exact h
theorem Gb.heap {B : Nat} {β : Bet} {h : H} {w w' : World} (g : Gb w w') (x : RelH B β h w) : RelH B β h w' ∧ Ext B β h w β h w' := by
  have hc : ∀ id l i, β id = some l → w'.cell? ⟨l.b, l.base + i, none⟩ = w.cell? ⟨l.b, l.base + i, none⟩ := fun id l i hl => Below.cell g (p := ⟨l.b, l.base + i, none⟩) (x.blt id l hl)
  have hf : ∀ id l i, β id = some l → w'.frozen? ⟨l.b, i, none⟩ = w.frozen? ⟨l.b, i, none⟩ := fun id l i hl => Below.frozen g (p := ⟨l.b, i, none⟩) (x.blt id l hl)
  have hs : ∀ id l, β id = some l → w'.shape? l.b = w.shape? l.b := fun id l hl => by
    unfold World.shape?; rw [g.block l.b (x.blt id l hl)]
  refine ⟨⟨fun id ha => ?_, x.inj, x.bnd, x.zero, x.pos, x.lo, Nat.le_trans x.hB g.size, fun id l hl => Nat.lt_of_lt_of_le (x.blt id l hl) g.size⟩, ⟨Sub.refl _, Below.mono g x.hB, rfl, Nat.le_refl _, fun _ _ => Nat.le_refl _, fun id _ ha _ => ⟨ha, rfl, fun l hl i _ => hc id l i hl⟩⟩⟩
  obtain ⟨l, h1, h2, h3, h4⟩ := x.cell id ha
  refine ⟨l, h1, h2, fun i v hv => ?_, fun hlo => ?_⟩
  · obtain ⟨c, q1, q2⟩ := h3 i v hv
    exact ⟨c, by rw [hc id l i h1]; exact q1, q2⟩
  · obtain ⟨⟨q1, q2⟩, q3⟩ := h4 hlo
    refine ⟨⟨q1, fun hm => ?_⟩, fun i hi => ?_⟩
    · obtain ⟨t, n, r1, r2⟩ := q2 hm
      exact ⟨t, n, by rw [hs id l h1]; exact r1, by rw [hf id l n h1]; exact r2⟩
    · rw [hc id l i h1, hf id l _ h1]; exact q3 i hi
/-- An operation that answers v in each of these worlds, wherever it stands; it may make memory of its own. -/
def Yg (P : Program) (ops : Array Oper) (Q : Exit → Act → World → Prop) (S : World → Prop) (i : Nat) (oi : Oper) (v : Value) (a : Act) : Prop :=
  ∀ a', execOp a'.eval oi = execOp a.eval oi → Region.wanted oi (yielded ops a'.tmps) = Region.wanted oi (yielded ops a.tmps) → ∀ w, S w → ∀ K : Act → World → Prop, (∀ w', Gb w w' → K (a'.put oi.dst v) w') → wpOp P ops Q i K a' w
theorem Yg.same {ops : Array Oper} {Q : Exit → Act → World → Prop} {S : World → Prop} {i : Nat} {oi : Oper} {v : Value} {a a' : Act} (y : Yg P ops Q S i oi v a) (h1 : execOp a'.eval oi = execOp a.eval oi) (h2 : Region.wanted oi (yielded ops a'.tmps) = Region.wanted oi (yielded ops a.tmps)) : Yg P ops Q S i oi v a' :=
  fun b e1 e2 => y b (e1.trans h1) (e2.trans h2)
theorem YieldsIf.yg {ops : Array Oper} {Q : Exit → Act → World → Prop} {S : World → Prop} {i : Nat} {oi : Oper} {v : Value} {a : Act} (hi : ops[i]? = some oi) (y : YieldsIf P ops S oi v a) : Yg P ops Q S i oi v a :=
  fun b e1 e2 w hS K hK => (y.of_same e1 e2).wpOp hi hS (hK w (Gb.refl w))
theorem wpOp_putG {ops : Array Oper} {Q : Exit → Act → World → Prop} {S : World → Prop} {i j : Nat} {oi oj : Oper} {v : Value} (hj : ops[j]? = some oj) (hap : oi.apart ops oj = true)
    (hsi : ∀ cs b, oi.op ≠ .select cs b) (hsj : ∀ cs b, oj.op ≠ .select cs b) (hQ : ∀ c a w, Q (.panic c) (a.put oi.dst v) w → Q (.panic c) a w) {K : Act → World → Prop} {a : Act} {w : World}
    (hy : Yg P ops Q S i oi v a) (h : wpOp P ops Q j K (a.put oi.dst v) w) : wpOp P ops Q j (fun a' w' => Yg P ops Q S i oi v a' ∧ K (a'.put oi.dst v) w') a w := by
  obtain ⟨h1, h2, h3⟩ := Oper.apart_spec hap
  have keep : ∀ (a : Act), Yg P ops Q S i oi v a → ∀ u, Yg P ops Q S i oi v (a.put oj.dst u) := fun a hy u => hy.same (execOp_put oi hsi a oj.dst u h3) (wanted_put oi a oj.dst u h3)
  have keepD : ∀ d, Yg P ops Q S i oi v { a with defers := d :: a.defers } := fun d => hy.same rfl rfl
  unfold wpOp at *
  simp only [hj] at *
  rw [wanted_put oj a oi.dst v h1] at h
  split
  · rename_i hw
    simp only [hw, if_true] at h
    rcases h with h | ⟨hasks, hlets⟩
    case inr => exact .inr ⟨by unfold Oper.asks at *; rw [execOp_put oj hsj a oi.dst v h1] at hasks; exact hasks, hlets⟩
    refine .inl ?_
    unfold Oper.wp at *
    rw [execOp_put oj hsj a oi.dst v h1] at h
    generalize (execOp a.eval oj).run P w = r at *
    cases r with
    | ok n w' =>
      cases n <;> simp only [Oper.upon] at h ⊢
      case value u => exact ⟨keep a hy u, by rw [← Act.put_comm a v u h2]; exact h⟩
      case skip => exact ⟨keep a hy _, by rw [← Act.put_comm a v undef h2]; exact h⟩
      case defer d =>
        refine ⟨keep _ (keepD d) _, ?_⟩
        rw [← Act.put_comm _ v undef h2, ← Act.put_defers]
        exact h
      case enter f args =>
        refine Calls.mono h fun e w'' he => ?_
        cases e with
        | returned u => exact ⟨keep a hy u, by rw [← Act.put_comm a v u h2]; exact he⟩
        | panicked c => exact hQ _ _ _ he
        | outgrown => exact he
      case row row args => exact Rows.mono h fun u w'' he => ⟨keep a hy u, by rw [← Act.put_comm a v u h2]; exact he⟩
    | halt x w' =>
      cases x <;> simp only [Oper.upon] at h ⊢
      case panic u => exact hQ _ _ _ h
  · rename_i hw
    simp only [hw] at h
    exact ⟨keep a hy _, by rw [← Act.put_comm a v undef h2]; exact h⟩
def wpAnyL (P : Program) (md : Region.Mode) (ops : Array Oper) (Q : Exit → Act → World → Prop) (L : List (Nat × (World → Prop))) : Nat → Array Bool → Act → World → Prop
  | 0, listed, a, w => ∀ w₁, Gb w w₁ → Region.ready md ops listed = [] ∧ Q .normal a w₁
  | fuel + 1, listed, a, w => ∀ w₁, Gb w w₁ →
    (Region.ready md ops listed = [] → Q .normal a w₁) ∧
    ∀ j ∈ Region.ready md ops listed, wpOp P ops Q j (fun a' w' => (∀ x ∈ L, (∀ oj, ops[j]? = some oj → (∀ e ∈ oj.after, Region.binds md e = true → e.on ≠ x.1)) → x.2 w₁ → x.2 w') ∧ wpAnyL P md ops Q L fuel (listed.setIfInBounds j true) a' w') a w₁
theorem wpAnyL_gb {md : Region.Mode} {ops : Array Oper} {Q : Exit → Act → World → Prop} {L : List (Nat × (World → Prop))} : ∀ (fuel : Nat) (listed : Array Bool) (a : Act) (w w₁ : World), Gb w w₁ → wpAnyL P md ops Q L fuel listed a w → wpAnyL P md ops Q L fuel listed a w₁
  | 0, _, _, _, _, g, h => fun w₂ g₂ => h w₂ (g.trans g₂)
  | fuel + 1, _, _, _, _, g, h => fun w₂ g₂ => h w₂ (g.trans g₂)
theorem wpAnyL_weaken {md : Region.Mode} {ops : Array Oper} {Q : Exit → Act → World → Prop} {L L' : List (Nat × (World → Prop))} (hL : ∀ x ∈ L, x ∈ L') : ∀ (fuel : Nat) (listed : Array Bool) (a : Act) (w : World), wpAnyL P md ops Q L' fuel listed a w → wpAnyL P md ops Q L fuel listed a w
  | 0, _, _, _, h => h
  | fuel + 1, _, _, _, h => fun w₁ g => ⟨(h w₁ g).1, fun j hj => wpOp_mono (fun a' w' h' => ⟨fun x hx => h'.1 x (hL x hx), wpAnyL_weaken hL fuel _ a' w' h'.2⟩) ((h w₁ g).2 j hj)⟩
theorem wpAny_of_L {md : Region.Mode} {ops : Array Oper} {Q : Exit → Act → World → Prop} {L : List (Nat × (World → Prop))} : ∀ (fuel : Nat) (listed : Array Bool) (a : Act) (w : World), wpAnyL P md ops Q L fuel listed a w → wpAny P md ops Q fuel listed a w
  | 0, _, _, w, h => h w (Gb.refl w)
  | fuel + 1, _, _, w, h => ⟨(h w (Gb.refl w)).1, fun j hj => wpOp_mono (fun a' w' h' => wpAny_of_L fuel _ a' w' h'.2) ((h w (Gb.refl w)).2 j hj)⟩
theorem wpAnyL_first {md : Region.Mode} {ops : Array Oper} {Q : Exit → Act → World → Prop} {S : World → Prop} {i : Nat} {oi : Oper} {v : Value} (hi : ops[i]? = some oi) (hsel : ∀ (j : Nat) (o : Oper) cs b, ops[j]? = some o → o.op ≠ .select cs b)
    (hQ : ∀ c a w, ¬ Q (.panic c) a w) (hSg : ∀ w w₁, Gb w w₁ → S w → S w₁) (L : List (Nat × (World → Prop))) (hLg : ∀ x ∈ L, ∀ w w₁, Gb w w₁ → x.2 w → x.2 w₁) :
    ∀ (fuel : Nat) (listed : Array Bool) (a : Act) (w : World),
      (∀ j oj, ops[j]? = some oj → j ≠ i → listed.getD j true = false → (∀ e ∈ oj.after, Region.binds md e = true → e.on ≠ i) → oi.apart ops oj = true) →
      i ∈ Region.ready md ops listed → Yg P ops Q S i oi v a → S w →
      wpAnyL P md ops Q ((i, S) :: L) fuel (listed.setIfInBounds i true) (a.put oi.dst v) w → wpAnyL P md ops Q L (fuel + 1) listed a w := by
  intro fuel
  induction fuel with
  | zero =>
    intro listed a w _ hr hy hS H w₁ g₁
    refine ⟨fun h => (by rw [h] at hr; cases hr), fun j hj => ?_⟩
    by_cases hji : j = i
    · subst hji
      exact hy a rfl rfl w₁ (hSg _ _ g₁ hS) _ fun w₂ g₂ => ⟨fun x hx _ h => hLg x hx _ _ g₂ h, wpAnyL_weaken (fun x hx => List.mem_cons_of_mem _ hx) 0 _ _ _ (wpAnyL_gb 0 _ _ _ _ (g₁.trans g₂) H)⟩
    · have := ready_mono hj hji
      rw [(H w (Gb.refl w)).1] at this
      cases this
  | succ fuel ih =>
    intro listed a w hfree hr hy hS H w₁ g₁
    refine ⟨fun h => (by rw [h] at hr; cases hr), fun j hj => ?_⟩
    by_cases hji : j = i
    · subst hji
      exact hy a rfl rfl w₁ (hSg _ _ g₁ hS) _ fun w₂ g₂ => ⟨fun x hx _ h => hLg x hx _ _ g₂ h, wpAnyL_weaken (fun x hx => List.mem_cons_of_mem _ hx) _ _ _ _ (wpAnyL_gb _ _ _ _ _ (g₁.trans g₂) H)⟩
    · have h1 := (H w₁ g₁).2 j (ready_mono hj hji)
      obtain ⟨hjun, oj, hoj, hall⟩ := mem_ready.1 hj
      have hnot : ∀ e ∈ oj.after, Region.binds md e = true → e.on ≠ i := fun e he hb heq => by
        have h1 := hall e he hb
        have h0 := (mem_ready.1 hr).1
        rw [heq] at h1
        rcases Nat.lt_or_ge i listed.size with h' | h'
        · simp [h'] at h0 h1; rw [h0] at h1; cases h1
        · simp [Array.getElem?_eq_none h'] at h1
      have h2 := wpOp_putG hoj (hfree j oj hoj hji hjun hnot) (fun cs b => hsel i oi cs b hi) (fun cs b => hsel j oj cs b hoj) (fun c a w h => absurd h (hQ c _ w)) hy h1
      have hfree' : ∀ k ok, ops[k]? = some ok → k ≠ i → (listed.setIfInBounds j true).getD k true = false →
          (∀ e ∈ ok.after, Region.binds md e = true → e.on ≠ i) → oi.apart ops ok = true := fun k ok hk hki hun hno => by
        refine hfree k ok hk hki ?_ hno
        by_cases hjk : j = k
        · subst hjk; exact hjun
        · rw [getD_set_ne true hjk] at hun; exact hun
      refine wpOp_mono (fun a' w' h3 => ?_) h2
      obtain ⟨hy', hpres, hrest⟩ := h3
      have hS' : S w' := hpres (i, S) (List.mem_cons_self ..) (fun oj' hoj' => by rw [hoj] at hoj'; cases hoj'; exact hnot) (hSg _ _ g₁ hS)
      refine ⟨fun x hx => hpres x (List.mem_cons_of_mem _ hx), ih (listed.setIfInBounds j true) a' w' hfree' (ready_mono hr (Ne.symm hji)) hy' hS' ?_⟩
      rw [Array.setIfInBounds_comm _ _ hji]
      exact hrest

theorem pickNext_mem {ops : Array Oper} {listed : Array Bool} {i : Nat} (h : pickNext P ops listed = some i) : i ∈ Region.ready .any ops listed ∧ (Region.ready .any ops listed = [i] ∨ ∃ o, ops[i]? = some o ∧ isA P ops listed o = true) := by
  unfold pickNext at h
  split at h
  · rename_i k hk
    cases h
    have h1 := List.find?_some hk
    have h2 := List.mem_of_find?_eq_some hk
    refine ⟨h2, .inr ?_⟩
    split at h1
    · rename_i o ho
      simp only [Bool.and_eq_true] at h1
      exact ⟨o, ho, by unfold isA; rw [h1.1]; rfl⟩
    · cases h1
  · split at h
    · rename_i k hk
      cases h
      exact ⟨by rw [hk]; simp, .inl hk⟩
    · rename_i is hne
      have h1 := List.find?_some h
      have h2 := List.mem_of_find?_eq_some h
      refine ⟨h2, .inr ?_⟩
      split at h1
      · rename_i o ho
        simp only [Bool.and_eq_true] at h1
        refine ⟨o, ho, ?_⟩
        have hm : many ops listed = true := by
          unfold many
          split
          · rename_i k hk; exact absurd hk (hne k)
          · rfl
        unfold isA
        rw [h1.1, hm]
        simp
      · cases h1

/-! ### Numbers, bools, texts -/
def toC1 : V → Value
  | .int k n => .int k n
  | .bool b => .bool b
  | .str s => .string s
  | _ => undef
def toC : V → Value
  | .tup vs => .tuple (vs.map toC1).toArray
  | v => toC1 v
theorem scal1_rel {β : Bet} {v : V} (h : scal1 v = true) : RelC β v (toC1 v) := by
  cases v <;> first | rfl | cases h
theorem scal1_eq {β : Bet} {v : V} {c : Value} (h : scal1 v = true) (r : RelC β v c) : c = toC1 v := by
  cases v <;> first | exact r | cases h
theorem scal1_all {β : Bet} : ∀ {vs : List V}, vs.all scal1 = true → All2 (RelV β) vs (vs.map toC1)
  | [], _ => trivial
  | v :: vs, h => by
    simp only [List.all_cons, Bool.and_eq_true] at h
    exact ⟨(scal1_rel h.1).toV, scal1_all h.2⟩
theorem scal1_alls {β : Bet} : ∀ {vs : List V} {cs : List Value}, vs.all scal1 = true → All2 (RelA β) vs cs → cs = vs.map toC1
  | [], [], _, _ => rfl
  | v :: vs, c :: cs, h, r => by
    simp only [List.all_cons, Bool.and_eq_true] at h
    have h1 : RelC β v c := by
      have := r.1
      cases v <;> first | exact this | (exact absurd h.1 (by simp [scal1]))
    rw [scal1_eq h.1 h1, scal1_alls h.2 r.2]; rfl
  | [], _ :: _, _, r => r.elim
  | _ :: _, [], _, r => r.elim
theorem scal_eq {β : Bet} {v : V} {c : Value} (h : scal v = true) (r : RelV β v c) : c = toC v := by
  cases v with
  | tup vs =>
    obtain ⟨cs, rfl, r⟩ := r
    rw [scal1_alls h r]; rfl
  | int k n => exact r
  | bool b => exact r
  | str s => exact r
  | ptr a b => cases h
  | sl a b c d => cases h
  | fn a b => cases h
  | agg a => cases h
theorem none_rel (B : Nat) (W : World) (hB : B ≤ W.heap.size) : RelH B (fun _ => Option.none) H.none W :=
  ⟨fun id ha => (by cases ha), fun id id' l l' ha => (by cases ha), fun id _ => ⟨rfl, rfl⟩, rfl, Nat.one_pos, Nat.le_refl _, hB, fun id l hl => (by cases hl)⟩
theorem scal_relV {β : Bet} {v : V} (h : scal v = true) : RelV β v (toC v) := by
  cases v with
  | tup vs =>
    have : ∀ {vs : List V}, vs.all scal1 = true → All2 (RelA β) vs (vs.map toC1) := fun {vs} => by
      induction vs with
      | nil => intro _; trivial
      | cons v vs ih =>
        intro h
        simp only [List.all_cons, Bool.and_eq_true] at h
        exact ⟨(scal1_rel h.1).toA, ih h.2⟩
    exact ⟨_, rfl, this h⟩
  | int k n => rfl
  | bool b => rfl
  | str s => rfl
  | ptr a b => cases h
  | sl a b c d => cases h
  | fn a b => cases h
  | agg a => cases h
/-- A call of numbers and texts answers the same in each world. -/
theorem pcV_sim {β : Bet} {call : Nat → List V → H → Option (V × H)} (hcall : ∀ B, CallOk P B call) {ops : Array Oper} {E : Env} {a : Act} (hE : RelE β E a.tmps) {i : Nat} {o : Oper} (ho : ops[i]? = some o) (hw : Region.wanted o (yielded ops a.tmps) = true) {v : V} (hv : pcV call E o.op = some v) (Q : Exit → Act → World → Prop) (S : World → Prop) :
    RelV β v (toC v) ∧ Yg P ops Q S i o (toC v) a := by
  unfold pcV at hv
  split at hv
  · rename_i c hop
    split at hv
    · rename_i f hcal
      simp only [Option.bind_eq_some_iff] at hv
      obtain ⟨g, hg, hv⟩ := hv
      split at hv
      · rename_i k
        simp only [Option.bind_eq_some_iff] at hv
        obtain ⟨vs, hvs, hv⟩ := hv
        unfold pcall at hv
        split at hv
        · rename_i hall
          simp only [Option.bind_eq_some_iff] at hv
          obtain ⟨⟨r, h2⟩, hcl, hv⟩ := hv
          split at hv
          · rename_i hsc
            cases hv
            simp only at hsc ⊢
            refine ⟨scal_relV hsc, fun a' e1 e2 w _ K hK => ?_⟩
            obtain ⟨cs, hfc, hcs⟩ := opd_rel hE hg
            have hcs0 : cs = [] := by cases cs with | nil => rfl | cons x y => exact hcs.elim
            subst hcs0
            have hargs : c.args.toList.map a.eval = vs.map toC1 := by
              have h1 := opds_rel hE hvs
              have : ∀ {vs : List V} {cs : List Value}, vs.all scal1 = true → All2 (RelV β) vs cs → cs = vs.map toC1 := fun {vs} => by
                induction vs with
                | nil => intro cs _ r; cases cs with | nil => rfl | cons _ _ => exact r.elim
                | cons v vs ih =>
                  intro cs h r
                  cases cs with
                  | nil => exact r.elim
                  | cons c cs =>
                    simp only [List.all_cons, Bool.and_eq_true] at h
                    have h1 : RelC β v c := by
                      have := r.1
                      cases v <;> first | exact this | (exact absurd h.1 (by simp [scal1]))
                    rw [scal1_eq h.1 h1, ih h.2 r.2]; rfl
              exact this hall h1
            obtain ⟨⟨fn, hfn, hname, hbody⟩, hok⟩ := hcall w.heap.size _ _ _ _ _ hcl
            have hcalls := hok (fun _ => Option.none) w (vs.map toC1) (scal1_all hall) (none_rel _ _ (Nat.le_refl _))
            have hrun : (execOp a'.eval o).run P w = .ok (.enter k (vs.map toC1).toArray) w := by
              rw [e1]
              unfold execOp; rw [hop]
              have e3 : c.args.map a.eval ++ ([] : List Value).toArray = (vs.map toC1).toArray := by apply Array.ext'; simp [← hargs]
              have hname' : ¬ (fn.name = "runtime.NumGoroutine") := by simpa using hname
              have hbody' : ¬ (fn.body = none) := by intro hb; rw [hb] at hbody; cases hbody
              have e4 : c.args.map a.eval = (vs.map toC1).toArray := by apply Array.ext'; simp [← hargs]
              simp [resolve, hcal, hfc, Deferred.ofValue, invoke, callFunc, hfn, hname', hbody', e4]
            unfold wpOp
            simp only [ho]
            rw [e2, if_pos hw]
            refine .inl ?_
            unfold Oper.wp
            rw [hrun]
            refine Calls.mono hcalls fun e w' hret => ?_
            obtain ⟨cv, β', rfl, hrel, hR, hX⟩ := hret
            rw [scal_eq hsc hrel]
            exact hK w' hX.below
          · cases hv
        · cases hv
      · cases hv
    · cases hv
  · cases hv

/-- What is read is alive. -/
theorem reads_alive {E : Env} {h : H} {op : Op} {v : V} (hv : qOp P E h op = some v) (i : Nat) : ∀ x ∈ readsOf E h i op, (h.blk x.2.1).alive = true ∧ x.2.2 = (h.blk x.2.1).ver ∧ x.1 = i := by
  have hload : ∀ {id off n : Nat} {cs : List V}, h.load id off n = some cs → (h.blk id).alive = true := fun hl => by
    unfold H.load at hl
    split at hl
    · rename_i hc; exact hc.1
    · cases hl
  intro x hx
  unfold readsOf at hx
  split at hx
  · rename_i t a
    simp only [qOp, Option.bind_eq_some_iff] at hv
    obtain ⟨p, hp, hv⟩ := hv
    split at hx
    · rename_i id off hop
      rw [hop] at hp; cases hp
      simp at hx; subst hx
      refine ⟨?_, rfl, rfl⟩
      simp only [ldV, Option.bind_eq_some_iff] at hv
      obtain ⟨y, _, hv⟩ := hv
      split at hv
      · simp only [Option.map_eq_some_iff] at hv; obtain ⟨cs, hl, _⟩ := hv; exact hload hl
      · simp only [Option.bind_eq_some_iff] at hv; obtain ⟨cs, hl, _⟩ := hv; exact hload hl
    · cases hx
  · rename_i s d o
    simp only [qOp, Option.bind_eq_some_iff] at hv
    obtain ⟨p, hp, hv⟩ := hv
    split at hx
    · rename_i e id off n hop
      rw [hop] at hp; cases hp
      split at hx
      · cases hx
      · rename_i hn
        simp at hx; subst hx
        refine ⟨?_, rfl, rfl⟩
        simp only [cvV] at hv
        split at hv
        · rename_i heq; cases heq
        · rename_i heq; cases heq
        · rename_i heq
          cases heq
          have hn1 : ¬ n = 0 := fun e => hn (.inl e)
          have hn2 : ¬ id = 0 := fun e => hn (.inr e)
          split at hv
          · rw [if_neg hn2, if_neg hn1] at hv
            simp only [Option.bind_eq_some_iff] at hv; obtain ⟨cs, hl, _⟩ := hv; exact hload hl
          · cases hv
        · cases hv
    · cases hx
  · cases hx

theorem edgeOn_false {o : Oper} {i : Nat} (h : ∀ e ∈ o.after, Region.binds .any e = true → e.on ≠ i) : edgeOn o i = false := by
  unfold edgeOn
  rw [Array.any_eq_false']
  intro e he
  simp only [Bool.and_eq_true, beq_iff_eq, not_and]
  exact fun hb => h e he hb

/-- What waits: each condition is kept as long as its block's version stands. -/
def PendOk (B : Nat) (β : Bet) (h : H) (w : World) (L : List (Nat × Nat × Nat)) (LC : List (Nat × (World → Prop))) : Prop :=
  ∀ x ∈ LC, (∀ w', x.2 w') ∨ ∃ y ∈ L, y.1 = x.1 ∧ ∀ β' h' w', Ext B β h w β' h' w' → (h'.blk y.2.1).ver = y.2.2 → x.2 w'
theorem PendOk.step {B : Nat} {β β' : Bet} {h h' : H} {w w' : World} {L : List (Nat × Nat × Nat)} {LC : List (Nat × (World → Prop))} (p : PendOk B β h w L LC) (hX : Ext B β h w β' h' w') : PendOk B β' h' w' L LC := fun x hx =>
  (p x hx).imp id fun ⟨y, hy, h1, h2⟩ => ⟨y, hy, h1, fun β'' h'' w'' hX' hv => h2 β'' h'' w'' (hX.trans hX') hv⟩

theorem St.gb {B : Nat} {β0 β : Bet} {h0 h : H} {w0 w w₁ : World} {N : Nat} {E : Env} {a : Act} (s : St B β0 h0 w0 N E h a w β) (g : Gb w w₁) : St B β0 h0 w0 N E h a w₁ β :=
  ⟨s.env, s.size, s.defers, (g.heap s.heap).1, s.ext.trans (g.heap s.heap).2⟩
theorem evAny_sim {B : Nat} {β0 : Bet} {h0 : H} {w0 : World} {N : Nat} {call : Nat → List V → H → Option (V × H)} (hcall : ∀ B, CallOk P B call) {ops : Array Oper} (hsel : Region.noSelect ops = true) {Q : Exit → Act → World → Prop} (hQp : ∀ c a w, ¬ Q (.panic c) a w) :
    ∀ (fuel : Nat) (listed : Array Bool) (L : List (Nat × Nat × Nat)) (LC : List (Nat × (World → Prop))) (E E' : Env) (h h' : H) (a : Act) (w : World) (β : Bet), evAny P call ops N fuel listed L E h = some (E', h') →
    St B β0 h0 w0 N E h a w β → PendOk B β h w L LC → (∀ x ∈ LC, ∀ w w₁, Gb w w₁ → x.2 w → x.2 w₁) → (∀ a' w' β', St B β0 h0 w0 N E' h' a' w' β' → Q .normal a' w') → wpAnyL P .any ops Q LC fuel listed a w := by
  intro fuel
  induction fuel with
  | zero =>
    intro listed L LC E E' h h' a w β he s hp hg hQ
    unfold evAny at he
    split at he
    · rename_i hr
      cases he
      exact fun w₁ g₁ => ⟨by simpa using hr, hQ _ _ _ (s.gb g₁)⟩
    · cases he
  | succ fuel ih =>
    intro listed L LC E E' h h' a w β he s hp hg hQ
    unfold evAny at he
    split at he
    · rename_i hr
      cases he
      have hr' : Region.ready .any ops listed = [] := by simpa using hr
      exact fun w₁ g₁ => ⟨fun _ => hQ _ _ _ (s.gb g₁), fun j hj => by rw [hr'] at hj; cases hj⟩
    · rename_i hr
      split at he
      · cases he
      · rename_i i hi
        obtain ⟨hmem, hkind⟩ := pickNext_mem hi
        split at he
        · cases he
        · rename_i o ho
          split at he
          · rename_i hq
            split at he
            · rename_i hfree
              simp only [Option.bind_eq_some_iff] at he
              obtain ⟨b, hb, he⟩ := he
              have hw := wanted_sim s.env hb
              cases b with
              | true =>
                simp only [if_true, Option.bind_eq_some_iff] at he
                obtain ⟨v, hv, E1, hp1, he⟩ := he
                obtain ⟨hal, hSg, c, hrv, hyg⟩ : (∀ x ∈ readsOf E h i o.op, (h.blk x.2.1).alive = true ∧ x.2.2 = (h.blk x.2.1).ver ∧ x.1 = i) ∧ (∀ w1 w2, Gb w1 w2 → AgreeR β h w w1 (readsOf E h i o.op) → AgreeR β h w w2 (readsOf E h i o.op)) ∧ ∃ c, RelV β v c ∧ Yg P ops Q (fun w' => AgreeR β h w w' (readsOf E h i o.op)) i o c a := by
                  have hst : (∀ x ∈ readsOf E h i o.op, (h.blk x.2.1).alive = true ∧ x.2.2 = (h.blk x.2.1).ver ∧ x.1 = i) → ∀ w1 w2, Gb w1 w2 → AgreeR β h w w1 (readsOf E h i o.op) → AgreeR β h w w2 (readsOf E h i o.op) := fun hal w1 w2 g ag x hx l hl k hk => by
                    have e1 := ag x hx l hl k hk
                    obtain ⟨l', q1, q2, q3, _⟩ := s.heap.cell x.2.1 (hal x hx).1
                    rw [hl] at q1; cases q1
                    obtain ⟨cv, q4, _⟩ := q3 k _ (List.getElem?_eq_getElem hk)
                    rw [q4] at e1 ⊢
                    exact g.cell e1
                  unfold qpV at hv
                  split at hv
                  · obtain ⟨c, hrv, hrun⟩ := qOp_sim s.heap s.env i o hv
                    have hal := reads_alive hv i
                    exact ⟨hal, hst hal, c, hrv, YieldsIf.yg ho (.inl ⟨hw, fun w' hS => hrun w' hS⟩)⟩
                  · have hal : ∀ x ∈ readsOf E h i o.op, (h.blk x.2.1).alive = true ∧ x.2.2 = (h.blk x.2.1).ver ∧ x.1 = i := fun x hx => by
                      unfold readsOf at hx
                      unfold pcV at hv
                      split at hv
                      · rename_i cc hop; rw [hop] at hx; cases hx
                      · cases hv
                    obtain ⟨hr1, hr2⟩ := pcV_sim hcall s.env ho hw hv Q (fun w' => AgreeR β h w w' (readsOf E h i o.op))
                    exact ⟨hal, hst hal, toC v, hr1, hr2⟩
                refine wpAnyL_first (S := fun w' => AgreeR β h w w' (readsOf E h i o.op)) (v := c) ho (Region.noSelect_spec hsel) hQp hSg LC hg fuel listed a w (Region.free_spec ho hfree) hmem hyg (AgreeR.refl _ _ _ _) ?_
                refine ih _ _ _ _ _ _ _ _ _ β he (s.step (s.env.put1 hrv s.size (gput_put hp1)) (put_size _ _ _) (put_defers _ _ _) s.heap (Ext.refl _ _ _ _)) ?_ (fun x hx => by
                  rcases List.mem_cons.1 hx with rfl | hx
                  · exact hSg
                  · exact hg x hx) hQ
                intro x hx
                rcases List.mem_cons.1 hx with rfl | hx
                · -- the condition of what has just been read
                  rcases hrd : readsOf E h i o.op with _ | ⟨y, r⟩
                  · exact .inl fun w' z hz => by simp [hrd] at hz
                  · refine .inr ⟨y, by simp, ?_, ?_⟩
                    · have := (hal y (by rw [hrd]; simp)).2.2; exact this
                    · intro β' h'' w' hX hver z hz l hl k hk
                      have hone : r = [] := by
                        unfold readsOf at hrd
                        split at hrd
                        · split at hrd
                          · cases hrd; rfl
                          · cases hrd
                        · split at hrd
                          · split at hrd
                            · cases hrd
                            · cases hrd; rfl
                          · cases hrd
                        · cases hrd
                      subst hone
                      simp at hz; subst hz
                      obtain ⟨ha1, ha2, _⟩ := hal z (by rw [hrd]; simp)
                      exact (hX.same z.2.1 (s.heap.lt ha1) ha1 (by rw [hver, ha2])).2.2 l hl k hk
                · exact (hp x hx).imp id fun ⟨y, hy, h1, h2⟩ => ⟨y, List.mem_append_right _ hy, h1, h2⟩
              | false =>
                simp only [Bool.false_eq_true, if_false, Option.bind_eq_some_iff] at he
                obtain ⟨E1, hp1, he⟩ := he
                refine wpAnyL_first (S := fun _ => True) (v := undef) ho (Region.noSelect_spec hsel) hQp (fun _ _ _ h => h) LC hg fuel listed a w (Region.free_spec ho hfree) hmem (YieldsIf.yg ho (.inr ⟨hw, rfl⟩)) trivial ?_
                refine ih _ _ _ _ _ _ _ _ _ β he (s.step (s.env.put1 (relV_undef β) s.size hp1) (put_size _ _ _) (put_defers _ _ _) s.heap (Ext.refl _ _ _ _)) ?_ (fun x hx => by
                  rcases List.mem_cons.1 hx with rfl | hx
                  · exact fun _ _ _ h => h
                  · exact hg x hx) hQ
                intro x hx
                rcases List.mem_cons.1 hx with rfl | hx
                · exact .inl fun _ => trivial
                · exact hp x hx
            · cases he
          · rename_i hq
            have hone : Region.ready .any ops listed = [i] := by
              rcases hkind with h1 | ⟨o', ho', hq'⟩
              · exact h1
              · rw [ho] at ho'; cases ho'; exact absurd hq' hq
            simp only [Option.bind_eq_some_iff] at he
            obtain ⟨⟨E1, h1⟩, he1, he⟩ := he
            split at he
            · rename_i hpend
              intro w₁ g₁
              replace hp := hp.step (g₁.heap s.heap).2
              replace s := s.gb g₁
              clear g₁
              refine ⟨fun h0 => (by rw [hone] at h0; cases h0), fun j hj => ?_⟩
              rw [hone] at hj
              simp at hj; subst hj
              have := evOper_sim (Q := Q) (hcall B) he1 s (K := fun a' w' => (∀ x ∈ LC, (∀ oj, ops[j]? = some oj → (∀ e ∈ oj.after, Region.binds .any e = true → e.on ≠ x.1)) → x.2 w₁ → x.2 w') ∧ wpAnyL P .any ops Q LC fuel (listed.setIfInBounds j true) a' w') fun a' w' β' s' hX => ?_
              · unfold wpOp
                simp only [ho] at this ⊢
                split
                · rename_i hw; rw [if_pos hw] at this; exact .inl this
                · rename_i hw; rw [if_neg hw] at this; exact this
              · refine ⟨fun x hx hno _ => ?_, ih _ _ _ _ _ _ _ _ _ β' he s' (hp.step hX) hg hQ⟩
                rcases hp x hx with hall | ⟨y, hy, h2, h3⟩
                · exact hall w'
                · refine h3 β' h1 w' hX ?_
                  have := List.all_eq_true.1 hpend y hy
                  rw [h2, edgeOn_false (hno o ho)] at this
                  simpa using this
            · cases he

theorem region_sim {B : Nat} {β0 β : Bet} {h0 h h' : H} {w0 w : World} {N : Nat} {E E' : Env} {a : Act} {call : Nat → List V → H → Option (V × H)} (hcall : ∀ B, CallOk P B call) (hm : P.follows .mixedOrders = true) {id : Nat} {ops : Array Oper} (hsel : Region.noSelect ops = true) {Q : Exit → Act → World → Prop} (hQp : ∀ c a w, ¬ Q (.panic c) a w)
    (he : evAny P call ops N ops.size (Array.replicate ops.size false) [] E h = some (E', h')) (s : St B β0 h0 w0 N E h a w β) (hQ : ∀ a' w' β', St B β0 h0 w0 N E' h' a' w' β' → Q .normal a' w') : (Code.region id ops true).wp P Q a w := by
  refine wp_region_any hm (wpAny_of_L (L := []) _ _ _ _ ?_)
  refine evAny_sim hcall hsel hQp _ _ [] [] E E' h h' a _ β he (s.step s.env rfl rfl s.heap.drew (Ext.drew _ _ _ _)) ?_ (fun x hx => by cases hx) hQ
  intro x hx; cases hx
end Go.Proofs.Ythoabddfionmoaa.AH
namespace Go.Proofs.Ythoabddfionmoaa.AH
open Go Go.RowKit
variable {P : Program}

def CPost (B : Nat) (β0 : Bet) (h0 : H) (w0 : World) (N : Nat) (r : X × Env × H) : Exit → Act → World → Prop
  | .normal, a, w => r.1 = .nrm ∧ ∃ β, St B β0 h0 w0 N r.2.1 r.2.2 a w β
  | .exit id, a, w => r.1 = .ex id ∧ ∃ β, St B β0 h0 w0 N r.2.1 r.2.2 a w β
  | .ret, a, w => r.1 = .ret ∧ ∃ β, St B β0 h0 w0 N r.2.1 r.2.2 a w β
  | _, _, _ => False

theorem wp_loop_J {c : Code} {Q : Exit → Act → World → Prop} (J : Nat → Act → World → Prop) (h0 : ∀ a w, ¬ J 0 a w)
    (round : ∀ n a w, J (n + 1) a w → c.wp P (Exit.then (fun a' w' => J n a' w') Q) a w) (n : Nat) (a : Act) (w : World) (hJ : J n a w) : (Code.loop c).wp P Q a w := by
  intro b k cs
  have key : ∀ n a w, J n a w → ∃ e a' w', Q e a' w' ∧ Arrives P (lone (b.at a (.code c :: .inLoop c :: k)) cs w) b k cs e a' w' := by
    intro n
    induction n with
    | zero => intro a w hJ; exact absurd hJ (h0 a w)
    | succ n ih =>
      intro a w hJ
      obtain ⟨e, a₁, w₁, hq, harr⟩ := round n a w hJ b (.inLoop c :: k) cs
      cases e with
      | normal =>
        obtain ⟨e₂, a₂, w₂, hq₂, harr₂⟩ := ih a₁ w₁ hq
        exact ⟨e₂, a₂, w₂, hq₂, .of_steps (Steps.trans harr (.one step_inLoop)) harr₂⟩
      | exit id => exact ⟨_, a₁, w₁, hq, .pass (x := .inLoop c) rfl (fun _ _ => .inl (by simp)) harr⟩
      | goto l => exact ⟨_, a₁, w₁, hq, .pass (x := .inLoop c) rfl (fun _ _ => .inl (by simp)) harr⟩
      | ret => exact ⟨_, a₁, w₁, hq, .pass (x := .inLoop c) rfl (fun _ _ => .inl (by simp)) harr⟩
      | panic ch => exact ⟨_, a₁, w₁, hq, .pass (x := .inLoop c) rfl (fun _ _ => .inl (by simp)) harr⟩
      | outgrown => exact ⟨_, a₁, w₁, hq, .pass (x := .inLoop c) rfl (fun _ _ => .inl (by simp)) harr⟩
  obtain ⟨e, a', w', hq, harr⟩ := key n a w hJ
  exact ⟨e, a', w', hq, .of_steps (.one step_loop) harr⟩

theorem iterR_some {body : Env → H → Option (X × Env × H)} {E : Env} {h : H} {r : X × Env × H} (hr : iterR body E h = some r) : ∃ n, iterN body n E h = some r := by
  unfold iterR at hr
  split at hr
  · rename_i hx
    cases hr
    exact ⟨_, Classical.choose_spec (Classical.choose_spec hx)⟩
  · cases hr

theorem St.keepAt {B : Nat} {β0 β : Bet} {h0 h : H} {w0 w : World} {N : Nat} {E : Env} {a : Act} (s : St B β0 h0 w0 N E h a w β) (ann : Nat → List Nat) (c : Code) : St B β0 h0 w0 N (keepAt ann c E) h a w β :=
  ⟨s.env.keepAt ann c, s.size, s.defers, s.heap, s.ext⟩

theorem evC_sim {B : Nat} {β0 : Bet} {h0 : H} {w0 : World} {N : Nat} {call : Nat → List V → H → Option (V × H)} (hcall : ∀ B, CallOk P B call) (hm : P.follows .mixedOrders = true) (ann : Nat → List Nat) :
    ∀ (c : Code) (E : Env) (h : H) (r : X × Env × H), evC P call ann N c E h = some r → ∀ (a : Act) (w : World) (β : Bet), St B β0 h0 w0 N E h a w β → c.wp P (CPost B β0 h0 w0 N r) a w := by
  intro c
  induction c with
  | skip => intro E h r he a w β s; simp only [evC] at he; cases he; exact wp_skip ⟨rfl, β, s⟩
  | region id ops draw =>
    intro E h r he a w β s
    cases draw with
    | false =>
      simp only [evC, Option.map_eq_some_iff] at he
      obtain ⟨⟨E', h'⟩, he, rfl⟩ := he
      exact wp_region_list (evOps_sim (hcall B) _ _ _ _ _ _ _ _ he s fun a' w' β' s' => ⟨rfl, β', s'⟩)
    | true =>
      simp only [evC] at he
      split at he
      · rename_i hsel
        simp only [Option.map_eq_some_iff] at he
        obtain ⟨⟨E', h'⟩, he, rfl⟩ := he
        exact region_sim hcall hm hsel (fun c a w h => h) he s fun a' w' β' s' => ⟨rfl, β', s'⟩
      · cases he
  | seq x y ihx ihy =>
    intro E h r he a w β s
    simp only [evC, Option.bind_eq_some_iff] at he
    obtain ⟨⟨x1, E1, h1⟩, he1, he⟩ := he
    refine wp_seq (Go.wp_mono (ihx _ _ _ he1 a w β s) fun e a' w' hp => ?_)
    cases e with
    | normal =>
      obtain ⟨hx, β', s'⟩ := hp
      simp only at hx; subst hx
      exact ihy _ _ _ he a' w' β' (s'.keepAt ann y)
    | exit id => obtain ⟨hx, β', s'⟩ := hp; simp only at hx; subst hx; cases he; exact ⟨rfl, β', s'⟩
    | ret => obtain ⟨hx, β', s'⟩ := hp; simp only at hx; subst hx; cases he; exact ⟨rfl, β', s'⟩
    | goto l => exact hp.elim
    | panic c => exact hp.elim
    | outgrown => exact hp.elim
  | cond c x y ihx ihy =>
    intro E h r he a w β s
    simp only [evC] at he
    split at he
    · rename_i t ht
      have hc : a.eval c = .bool t := opd_rel s.env ht
      cases t with
      | true => simp only [if_true] at he; exact wp_cond_true hc (ihx _ _ _ he a w β (s.keepAt ann x))
      | false => simp only [Bool.false_eq_true, if_false] at he; exact wp_cond_false hc (ihy _ _ _ he a w β (s.keepAt ann y))
    · cases he
  | block id c ih =>
    intro E h r he a w β s
    simp only [evC, Option.bind_eq_some_iff] at he
    obtain ⟨⟨x1, E1, h1⟩, he1, he⟩ := he
    refine wp_block (Go.wp_mono (ih _ _ _ he1 a w β s) fun e a' w' hp => ?_)
    cases e with
    | normal => obtain ⟨hx, β', s'⟩ := hp; simp only at hx; subst hx; cases he; exact ⟨rfl, β', s'⟩
    | exit id' =>
      obtain ⟨hx, β', s'⟩ := hp
      simp only at hx; subst hx
      simp only at he
      simp only [Exit.inBlock]
      split at he
      · rename_i hid; rw [if_pos hid]; cases he; exact ⟨rfl, β', s'⟩
      · rename_i hid; rw [if_neg hid]; cases he; exact ⟨rfl, β', s'⟩
    | ret => obtain ⟨hx, β', s'⟩ := hp; simp only at hx; subst hx; cases he; exact ⟨rfl, β', s'⟩
    | goto l => exact hp.elim
    | panic c => exact hp.elim
    | outgrown => exact hp.elim
  | loop c ih =>
    intro E h r he a w β s
    simp only [evC] at he
    obtain ⟨n, hn⟩ := iterR_some he
    refine wp_loop_J (fun n a w => ∃ E h β, iterN (fun E h => (evC P call ann N c E h).map fun r => match r.1 with | .nrm => (.nrm, keepAt ann c r.2.1, r.2.2) | _ => r) n E h = some r ∧ St B β0 h0 w0 N E h a w β) ?_ ?_ n a w ⟨_, h, β, hn, s.keepAt ann c⟩
    · rintro a w ⟨E, h, β, hx, _⟩
      cases hx
    · rintro m a w ⟨E, h, β, hx, s⟩
      simp only [iterN, Option.bind_eq_some_iff, Option.map_eq_some_iff] at hx
      obtain ⟨r1, ⟨⟨x1, E1, h1⟩, he1, hr1⟩, hx⟩ := hx
      refine Go.wp_mono (ih _ _ _ he1 a w β s) fun e a' w' hp => ?_
      cases e with
      | normal =>
        obtain ⟨hx1, β', s'⟩ := hp
        simp only at hx1; subst hx1
        simp only at hr1; subst hr1
        exact ⟨_, _, β', hx, s'.keepAt ann c⟩
      | exit id => obtain ⟨hx1, β', s'⟩ := hp; simp only at hx1; subst hx1; simp only at hr1; subst hr1; cases hx; exact ⟨rfl, β', s'⟩
      | ret => obtain ⟨hx1, β', s'⟩ := hp; simp only at hx1; subst hx1; simp only at hr1; subst hr1; cases hx; exact ⟨rfl, β', s'⟩
      | goto l => exact hp.elim
      | panic c => exact hp.elim
      | outgrown => exact hp.elim
  | rangeFunc f ps x y => intro E h r he; simp only [evC] at he; cases he
  | exit id => intro E h r he a w β s; simp only [evC] at he; cases he; exact wp_exit ⟨rfl, β, s⟩
  | scope c => intro E h r he; simp only [evC] at he; cases he
  | label l => intro E h r he a w β s; simp only [evC] at he; cases he; exact wp_label ⟨rfl, β, s⟩
  | goto l => intro E h r he; simp only [evC] at he; cases he
  | ret => intro E h r he a w β s; simp only [evC] at he; cases he; exact wp_ret ⟨rfl, β, s⟩
  | refuse s => intro E h r he; simp only [evC] at he; cases he

theorem paramEnv_get : ∀ (i : Nat) (args : List V) (t : Nat) (v : V), Env.get (paramEnv i args) t = some v → i ≤ t ∧ args[t - i]? = some v
  | i, [], t, v, h => by cases h
  | i, u :: r, t, v, h => by
    simp only [paramEnv, Env.get] at h
    split at h
    · rename_i e; subst e; cases h; exact ⟨Nat.le_refl _, by simp⟩
    · rename_i e
      obtain ⟨h1, h2⟩ := paramEnv_get (i + 1) r t v h
      refine ⟨by omega, ?_⟩
      rw [show t - i = (t - (i + 1)) + 1 from by omega]; simpa using h2

def resSem (tmps : Array Value) : ResultVar → Sem Value
  | .tmp t => pure (tmps.getD t undef)
  | .cell x t => do loadVar t (← asAddr (tmps.getD x undef))
theorem resV_sim {B : Nat} {β0 β : Bet} {h0 h : H} {w0 w : World} {N : Nat} {E : Env} {a : Act} (s : St B β0 h0 w0 N E h a w β) {rv : ResultVar} {v : V} (hv : resV P E h rv = some v) :
    ∃ c, RelV β v c ∧ (resSem a.tmps rv).run P w = .ok c w := by
  cases rv with
  | tmp t =>
    obtain ⟨c, h1, h2⟩ := s.env t v hv
    exact ⟨c, h2, by simp [resSem, h1]⟩
  | cell x t =>
    simp only [resV, Option.bind_eq_some_iff] at hv
    obtain ⟨p, hp, hv⟩ := hv
    obtain ⟨pc, h1, h2⟩ := s.env x p hp
    obtain ⟨c, hr, hrun⟩ := ldV_sim s.heap h2 hv E 0 (.tmp x) hp
    refine ⟨c, hr, ?_⟩
    have := hrun w (AgreeR.refl _ _ _ _)
    simp only [Instr.loadAt, Sem.run_bind] at this
    unfold ldV at hv
    split at hv
    · rename_i id off
      rcases h2 with ⟨_, _, rfl⟩ | ⟨_, l, _, rfl⟩
      · simp [Instr.sureAddr] at this
      · simpa [resSem, Instr.sureAddr, asAddr, h1] using this
    · cases hv
theorem ressV_sim {B : Nat} {β0 β : Bet} {h0 h : H} {w0 w : World} {N : Nat} {E : Env} {a : Act} (s : St B β0 h0 w0 N E h a w β) : ∀ {l : List ResultVar} {vs : List V}, ressV P E h l = some vs →
    ∃ cs, All2 (RelA β) vs cs ∧ (l.mapM (resSem a.tmps)).run P w = .ok cs w
  | [], vs, h => by simp [ressV] at h; subst h; exact ⟨[], trivial, by simp⟩
  | rv :: l, vs, h => by
    simp only [ressV, Option.bind_eq_some_iff, Option.map_eq_some_iff] at h
    obtain ⟨v, hv, v', hv', us, hus, rfl⟩ := h
    obtain ⟨c, h1, h2⟩ := resV_sim s hv
    obtain ⟨cs, h3, h4⟩ := ressV_sim s hus
    refine ⟨c :: cs, ⟨?_, h3⟩, ?_⟩
    · unfold ntup at hv'
      split at hv'
      · cases hv'
      · rename_i hne
        cases hv'
        cases v <;> first | exact h1 | exact absurd rfl (hne _)
    · rw [List.mapM_cons]
      rw [Sem.run_bind, h2]
      simp only [Result.andThen_ok, Sem.run_bind, h4, Sem.run_pure]

def PrimOk (P : Program) (B : Nat) (f : Nat) (p : List V → H → Option (V × H)) : Prop :=
  (∃ fn, P.funcs[f]? = some fn ∧ (fn.name == "runtime.NumGoroutine") = false ∧ fn.body.isNone = false) ∧
  ∀ args h r h', p args h = some (r, h') → ∀ β w argsC, All2 (RelV β) args argsC → RelH B β h w → Calls P f argsC.toArray w (Ret B β h w r h')

theorem evF_sim {prims : Prims} {ann : Nat → Nat → List Nat} (hm : P.follows .mixedOrders = true) (hprims : ∀ B f p, prims f = some p → PrimOk P B f p) : ∀ (n B : Nat), CallOk P B (evF P prims ann n)
  | 0, B => fun f args h r h' he => by cases he
  | n + 1, B => fun f args h r h' he => by
    unfold evF at he
    split at he
    · rename_i p hp
      obtain ⟨h1, h2⟩ := hprims B f p hp
      exact ⟨h1, fun β w argsC ha hH => h2 args h r h' he β w argsC ha hH⟩
    · split at he
      · rename_i fn hfn
        unfold evBody at he
        split at he
        · rename_i c hbody
          split at he
          · rename_i hc
            obtain ⟨hlen, hname⟩ := hc
            refine ⟨⟨fn, hfn, hname, by rw [hbody]; rfl⟩, fun β w argsC ha hH => ?_⟩
            simp only [Option.bind_eq_some_iff] at he
            obtain ⟨⟨x, E1, h1⟩, he1, he⟩ := he
            have hal := ha.length
            refine calls_of_wp hfn hbody (Go.wp_mono (evC_sim (β0 := β) (h0 := h) (w0 := w) (evF_sim hm hprims n) hm (ann f) c _ h _ he1 _ w β ⟨RelE.keepAt (fun t v hv => ?_) _ _, by simp; omega, rfl, hH, Ext.refl _ _ _ _⟩) fun e a' w' hp => ?_)
            · obtain ⟨_, hv'⟩ := paramEnv_get 0 args t v hv
              obtain ⟨cv, hcv, hr⟩ := ha.get hv'
              simp only [Nat.sub_zero] at hcv
              have hlt : t < argsC.length := (List.getElem?_eq_some_iff.1 hcv).1
              refine ⟨cv, ?_, hr⟩
              rw [Array.getElem?_append_left (by simpa using hlt)]
              simpa using hcv
            · have fin : ∀ β', St B β h w fn.ntmps E1 h1 a' w' β' → (ressV P E1 h1 fn.results.toList).map (fun vs => (tupOf vs, h1)) = some (r, h') → a'.defers = [] ∧ ∃ v, (results fn a'.tmps).run P w' = .ok v w' ∧ Ret B β h w r h' (.returned v) w' := fun β' s hres => by
                simp only [Option.map_eq_some_iff] at hres
                obtain ⟨vs, hvs, hx⟩ := hres
                cases hx
                obtain ⟨cs, hcs, hrun⟩ := ressV_sim s hvs
                refine ⟨s.defers, (if hsz : cs.toArray.size = 1 then cs.toArray[0] else .tuple cs.toArray), ?_, _, β', rfl, ?_, s.heap, s.ext⟩
                · have hres : results fn a'.tmps = (do let vs ← fn.results.mapM (resSem a'.tmps); pure (if h : vs.size = 1 then vs[0] else .tuple vs)) := by
                    unfold results
                    congr 2
                  rw [hres, Sem.run_bind, Array.mapM_eq_mapM_toList, Sem.run_map, hrun]
                  rfl
                · match vs, cs, hcs with
                  | [], [], _ => exact ⟨[], rfl, trivial⟩
                  | [v], [c], hcs => exact hcs.1.toV
                  | v :: v' :: vs, c :: c' :: cs, hcs => exact ⟨_, by simp, hcs⟩
              cases e with
              | normal => obtain ⟨hx, β', s⟩ := hp; simp only at hx; subst hx; exact fin β' s he
              | ret => obtain ⟨hx, β', s⟩ := hp; simp only at hx; subst hx; exact fin β' s he
              | exit id => obtain ⟨hx, β', s⟩ := hp; simp only at hx; subst hx; cases he
              | goto l => exact hp.elim
              | panic c => exact hp.elim
              | outgrown => exact hp.elim
          · cases he
        · cases he
      · cases he
end Go.Proofs.Ythoabddfionmoaa.AH
