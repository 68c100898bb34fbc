/- Words for the printed equations: the program's table is out of them. No condition. -/
import Derived.Test.YthoabddfionmoaaAD
set_option linter.unusedVariables false
set_option linter.unusedSimpArgs false
namespace Go.Proofs.Ythoabddfionmoaa.AH
open Go Go.RowKit
variable {R : Type}

/-! Code by its place: 0, 1 the parts of two, of a test; a block's, a loop's body is 0. -/
def Code.sub : Code → Nat → Code
  | .seq a _, 0 => a
  | .seq _ b, _ => b
  | .cond _ a _, 0 => a
  | .cond _ _ b, _ => b
  | .block _ c, _ => c
  | .loop c, _ => c
  | c, _ => c
def cdAt : List Nat → Code → Code
  | [], c => c
  | i :: r, c => cdAt r (Code.sub c i)
def bodyOf (fn : Func) : Code := match fn.body with | some c => c | none => .skip

def onB (v : V) (a b : Option R) : Option R :=
  match v with
  | .bool true => a
  | .bool false => b
  | _ => none
def spB (v : V) (a b : Option R) : Option R :=
  match v with
  | .bool true => a
  | .bool false => b
  | _ => none
def pkV (c : V) (a b : Option V) : Option V :=
  match c with
  | .bool t => if t then a else b
  | _ => none
def ld1 (h : H) : V → Option V
  | .ptr id off => (h.load id off 1).bind List.head?
  | _ => none
def ldn (n : Nat) (h : H) : V → Option V
  | .ptr id off => (h.load id off n).map V.agg
  | _ => none
def fA (o : Nat) : V → Option V
  | .ptr id off => if id = 0 then none else some (.ptr id (off + o))
  | _ => none
def fP (o n : Nat) (row : Bool) : V → Option V
  | .agg cs => partV n row cs o
  | _ => none
def nilC : V → Option V
  | .ptr id off => if id = 0 then none else some (.ptr id off)
  | .fn f cs => some (.fn f cs)
  | _ => none
def iA (s : Nat) : V → V → Option V
  | .sl _ id off len, .int _ n => if 0 ≤ n ∧ n < (len : Int) then some (.ptr id (off + n.toNat * s)) else none
  | _, _ => none
def lenS : V → Option V
  | .str s => some (.int .i64 s.size)
  | _ => none
def lenL : V → Option V
  | .sl _ _ _ n => some (.int .i64 n)
  | _ => none
def cvI (k : IntKind) : V → Option V
  | .int _ n => some (.int k (k.wrap n))
  | _ => none
def cvS : V → Option V
  | .str s => some (.str s)
  | .sl _ _ _ _ => none
  | _ => none
def cvB (h : H) : V → Option V
  | .str s => some (.str s)
  | .sl _ id off len => if id = 0 then some (.str .empty) else if len = 0 then some (.str .empty) else (h.load id off len).bind fun cs => (bytesOf cs).map fun l => .str ⟨l.toArray⟩
  | _ => none
def bnd (x : Option V) (d most : Nat) : Option Nat :=
  match x with
  | none => some d
  | some v => match v with
    | .int _ n => if 0 ≤ n ∧ n ≤ (most : Int) then some n.toNat else none
    | _ => none
def slS (x : V) (lo hi : Option V) : Option V :=
  match x with
  | .str s => (bnd hi s.size s.size).bind fun h => (bnd lo 0 h).bind fun l => some (.str (s.extract l h))
  | _ => none
def slL (sz : Nat) (x : V) (lo hi mx : Option V) : Option V :=
  match x with
  | .sl z id off len => if sz = z ∨ id = 0 then (bnd mx len len).bind fun m => if mx.isSome && hi.isNone then none else (bnd hi len m).bind fun h => (bnd lo 0 h).bind fun l =>
        some (.sl z id (off + l * sz) (h - l)) else none
  | _ => none
def ixS : V → V → Option V
  | .str s, .int _ n => if 0 ≤ n then (s[n.toNat]?).map fun b => .int .u8 b.toNat else none
  | _, _ => none
def stN (n : Nat) (h : H) (p v : V) (k : H → Option R) : Option R :=
  (cellsV v).bind fun vs => match p with
    | .ptr id off => if vs.length = n then (h.store id off vs).bind k else none
    | _ => none
def alK (z : List V) (h : H) (k : V → H → Option R) : Option R := k (.ptr h.next 0) (h.new z)
def bxK (h : H) (v : V) (k : V → H → Option R) : Option R := (cellsV v).bind fun cs => k (.ptr h.next 0) (h.new cs)
def bld (z : List V) : List (Nat × Nat × V) → Option (List V)
  | [] => some z
  | (o, n, v) :: r => (cellsV v).bind fun vs => if vs.length = n then (splice z o vs).bind fun cs => bld cs r else none
def bldV (z : List V) (ps : List (Nat × Nat × V)) : Option V := (bld z ps).bind fun cs => some (.agg cs)
def bsK (sz n : Nat) (h : H) (z : List V) (ps : List (Nat × Nat × V)) (k : V → H → Option R) : Option R := (bld z ps).bind fun cs => k (.sl sz h.next 0 n) (h.new cs)
def mkK (sz bytes : Nat) (z : List V) (h : H) (l c : V) (k : V → H → Option R) : Option R :=
  match l, c with
  | .int _ n, .int _ m => if n = m ∧ 0 ≤ n ∧ n ≤ 4611686018427387904 ∧ (bytes : Int) * n ≤ 281474976710656 ∧ z.length = sz then k (.sl sz h.next 0 n.toNat) (h.new ((List.replicate n.toNat z).flatten)) else none
  | _, _ => none
def s2b (h : H) : V → Option (V × H)
  | .str b => if b.size < 4611686018427387904 then some (.sl 1 h.next 0 b.size, h.new (b.data.toList.map fun c => V.int .u8 c.toNat)) else none
  | _ => none
def srcL (h : H) (size : Nat) : V → Option (Nat × List V)
  | .sl _ id off n => if id = 0 then some (0, []) else if n * size = 0 then (if n = 0 then some (0, []) else none) else (h.load id off (n * size)).map fun cs => (n, cs)
  | .str _ => none
  | _ => none
def srcS (size : Nat) : V → Option (Nat × List V)
  | .sl _ _ _ _ => none
  | .str s => if size = 1 then some (s.size, s.data.toList.map fun b => V.int .u8 b.toNat) else none
  | _ => none
def apL (size bytes : Nat) (h : H) (s x : V) : Option (V × H) :=
  match s with
  | .sl ez id off len => (srcL h size x).bind fun y =>
      if y.1 = 0 then some (.sl ez id off len, h) else
      if (len + y.1) * bytes ≤ 140737488355328 ∧ len + y.1 ≤ 4611686018427387904 ∧ (id = 0 ∧ len = 0 ∨ (h.blk id).alive = true ∧ h.lo ≤ id ∧ id ≠ 0 ∧ ez = size) ∧ size = size then
        (if len = 0 then some [] else h.load id off (len * size)).bind fun olds => some (.sl size h.next 0 (len + y.1), (h.new (olds ++ y.2)).kill id)
      else none
  | _ => none
def apS (size bytes : Nat) (h : H) (s x : V) : Option (V × H) :=
  match s with
  | .sl ez id off len => (srcS size x).bind fun y =>
      if y.1 = 0 then some (.sl ez id off len, h) else
      if (len + y.1) * bytes ≤ 140737488355328 ∧ len + y.1 ≤ 4611686018427387904 ∧ (id = 0 ∧ len = 0 ∨ (h.blk id).alive = true ∧ h.lo ≤ id ∧ id ≠ 0 ∧ ez = size) ∧ size = size then
        (if len = 0 then some [] else h.load id off (len * size)).bind fun olds => some (.sl size h.next 0 (len + y.1), (h.new (olds ++ y.2)).kill id)
      else none
  | _ => none
def mkF (f : Nat) (caps : List V) : Option V := (capsV caps).map (V.fn f)
where capsV : List V → Option (List (Nat × Nat))
  | [] => some []
  | v :: r => match v with
    | .ptr id off => if id = 0 then none else (capsV r).map ((id, off) :: ·)
    | _ => none
def mms (mx : Bool) (v : V) : List V → Option V
  | [] => some v
  | x :: r => (mmV mx v x).bind fun u => mms mx u r
def dynK (call : CallF) (f : V) (args : List V) (h : H) (k : V × H → Option R) : Option R :=
  match f with
  | .fn f caps => (call f (args ++ caps.map fun p => V.ptr p.1 p.2) h).bind k
  | _ => none
/-- The block behind a pointer has not been written since. -/
def pdV (h' : H) (p : V) (h : H) (k : Option R) : Option R :=
  match p with
  | .ptr id _ => if (h'.blk id).ver = (h.blk id).ver then k else none
  | _ => k
def ress : List (Option V) → Option (List V)
  | [] => some []
  | r :: l => r.bind fun v => (ntup v).bind fun v => (ress l).map (v :: ·)
end Go.Proofs.Ythoabddfionmoaa.AH
