/- The abstract heap's laws for simplification; frames; slices that read a list; contracts' words. Two functions of the library as words of their own: slices.Insert, slices.Delete. PRINTED BY rprint.py (this session's own program): the run, and its rule for each function. A machine's own blocks as a list: what stands in each, none met twice. Steps that keep it. Contracts of seat s, the leaves. Contracts of seat s: the law's own functions on commands and numbers. Contracts of seat s: the law's equalities and marks. A text that bears a number; equalities of pairs, replies, sessions. PRINTED BY exgen.py (this session's own program): contracts of the exact laws' helpers. Contracts of seat s: the pure map of commands; the reference. No condition. -/
import Derived.Test.YthoabddfionmoaaK32
import Derived.Lib.Strings
import Derived.Test.YthoabddfionmoaaK3St
import Derived.Test.YthoabddfionmoaaK31
set_option linter.unusedVariables false
set_option linter.unusedSimpArgs false
set_option maxRecDepth 100000
namespace Go.Proofs.Ythoabddfionmoaa.AH
open Go Go.RowKit

/-! ### The heap -/
def bload (b : Blk) (off n : Nat) : Option (List V) := if b.alive = true ∧ off + n ≤ b.cells.length then some ((b.cells.drop off).take n) else none
theorem load_eq (h : H) (id off n : Nat) : h.load id off n = bload (h.blk id) off n := rfl
@[simp] theorem next_upd (h : H) (i : Nat) (b : Blk) : (h.upd i b).next = h.next := rfl
@[simp] theorem lo_upd (h : H) (i : Nat) (b : Blk) : (h.upd i b).lo = h.lo := rfl
@[simp] theorem next_new (h : H) (cs : List V) : (h.new cs).next = h.next + 1 := rfl
@[simp] theorem lo_new (h : H) (cs : List V) : (h.new cs).lo = h.lo := rfl
@[simp] theorem next_kill (h : H) (i : Nat) : (h.kill i).next = h.next := rfl
@[simp] theorem lo_kill (h : H) (i : Nat) : (h.kill i).lo = h.lo := rfl
theorem blk_upd (h : H) (i : Nat) (b : Blk) (j : Nat) : (h.upd i b).blk j = if j = i then b else h.blk j := rfl
theorem blk_new (h : H) (cs : List V) (j : Nat) : (h.new cs).blk j = if j = h.next then ⟨cs, (h.blk h.next).ver, true⟩ else h.blk j := rfl
theorem blk_kill (h : H) (i j : Nat) : (h.kill i).blk j = if j = i then ⟨(h.blk i).cells, (h.blk i).ver + 1, false⟩ else h.blk j := rfl
theorem store_eq (h : H) (id off : Nat) (vs : List V) : h.store id off vs =
  if (h.blk id).alive = true ∧ h.lo ≤ id ∧ off + vs.length ≤ (h.blk id).cells.length then
    some (h.upd id ⟨(h.blk id).cells.take off ++ vs ++ (h.blk id).cells.drop (off + vs.length), (h.blk id).ver + 1, true⟩) else none := rfl
theorem bload_mk (cs : List V) (ver off n : Nat) (k : off + n ≤ cs.length) : bload ⟨cs, ver, true⟩ off n = some ((cs.drop off).take n) := if_pos ⟨rfl, k⟩
theorem bload_alive {b : Blk} {off n : Nat} {l : List V} (e : bload b off n = some l) : b.alive = true ∧ off + n ≤ b.cells.length ∧ l = (b.cells.drop off).take n := by
  unfold bload at e
  split at e
  · rename_i h; cases e; exact ⟨h.1, h.2, rfl⟩
  · cases e
theorem bload_sub {b : Blk} {off n : Nat} {l : List V} (e : bload b off n = some l) (j m : Nat) (k : j + m ≤ n) : bload b (off + j) m = some ((l.drop j).take m) := by
  obtain ⟨h1, h2, rfl⟩ := bload_alive e
  unfold bload
  rw [if_pos ⟨h1, by omega⟩, List.drop_take, List.take_take, List.drop_drop]
  congr 2
  omega
theorem bload_len {b : Blk} {off n : Nat} {l : List V} (e : bload b off n = some l) : l.length = n := by
  obtain ⟨h1, h2, rfl⟩ := bload_alive e
  simp only [List.length_take, List.length_drop]; omega

/-! ### Frames -/
def Hok (h : H) : Prop := 0 < h.lo ∧ h.lo ≤ h.next
def Fr (S : List Nat) (h h' : H) : Prop := h'.lo = h.lo ∧ h.next ≤ h'.next ∧ ∀ j, j ≠ 0 → j < h.next → j ∉ S → h'.blk j = h.blk j
theorem Fr.refl (S : List Nat) (h : H) : Fr S h h := ⟨rfl, Nat.le_refl _, fun _ _ _ _ => rfl⟩
theorem Fr.trans {S T : List Nat} {a b c : H} (x : Fr S a b) (y : Fr T b c) (hS : ∀ j ∈ T, j < a.next → j ∈ S) : Fr S a c :=
  ⟨y.1.trans x.1, Nat.le_trans x.2.1 y.2.1, fun j h0 h1 h2 => (y.2.2 j h0 (Nat.lt_of_lt_of_le h1 x.2.1) (fun hj => h2 (hS j hj h1))).trans (x.2.2 j h0 h1 h2)⟩
theorem Fr.trans0 {S : List Nat} {a b c : H} (x : Fr S a b) (y : Fr [] b c) : Fr S a c := x.trans y (fun j hj => by cases hj)
theorem Fr.mono {S T : List Nat} {a b : H} (x : Fr S a b) (k : ∀ j ∈ S, j ∈ T) : Fr T a b := ⟨x.1, x.2.1, fun j h0 h1 h2 => x.2.2 j h0 h1 fun hj => h2 (k j hj)⟩
theorem Fr.new {S : List Nat} {a b : H} (x : Fr S a b) (cs : List V) : Fr S a (b.new cs) :=
  ⟨x.1, Nat.le_succ_of_le x.2.1, fun j h0 h1 h2 => by
    rw [blk_new, if_neg (by have := x.2.1; omega)]; exact x.2.2 j h0 h1 h2⟩
theorem Fr.upd {S : List Nat} {a b : H} (x : Fr S a b) {i : Nat} (c : Blk) (k : i ∈ S ∨ a.next ≤ i ∨ i = 0) : Fr S a (b.upd i c) :=
  ⟨x.1, x.2.1, fun j h0 h1 h2 => by
    have : j ≠ i := by rintro rfl; rcases k with k | k | k <;> first | exact h2 k | omega
    rw [blk_upd, if_neg this]; exact x.2.2 j h0 h1 h2⟩
theorem Fr.kill {S : List Nat} {a b : H} (x : Fr S a b) {i : Nat} (k : i ∈ S ∨ a.next ≤ i ∨ i = 0) : Fr S a (b.kill i) := x.upd _ k
theorem Fr.blk {S : List Nat} {a b : H} (x : Fr S a b) {j : Nat} (h0 : j ≠ 0) (h1 : j < a.next) (h2 : j ∉ S) : b.blk j = a.blk j := x.2.2 j h0 h1 h2
theorem Fr.blk0 {a b : H} (x : Fr [] a b) {j : Nat} (h0 : j ≠ 0) (h1 : j < a.next) : b.blk j = a.blk j := x.2.2 j h0 h1 (by simp)
theorem Fr.blk1 {i : Nat} {a b : H} (x : Fr [i] a b) {j : Nat} (h0 : j ≠ 0) (h1 : j < a.next) (h2 : j ≠ i) : b.blk j = a.blk j := x.2.2 j h0 h1 (by simpa using h2)
theorem Fr.ok {S : List Nat} {a b : H} (x : Fr S a b) (k : Hok a) : Hok b := ⟨x.1 ▸ k.1, x.1 ▸ Nat.le_trans k.2 x.2.1⟩
theorem Hok.new {h : H} (k : Hok h) (cs : List V) : Hok (h.new cs) := ⟨k.1, Nat.le_succ_of_le k.2⟩
theorem Hok.upd {h : H} (k : Hok h) (i : Nat) (b : Blk) : Hok (h.upd i b) := k
theorem Hok.kill {h : H} (k : Hok h) (i : Nat) : Hok (h.kill i) := k

/-! ### Contracts -/
def Wp (m : Option (V × H)) (Q : V → H → Prop) : Prop := ∃ r h', m = some (r, h') ∧ Q r h'
theorem Wp.ret {Q : V → H → Prop} {r : V} {h : H} (q : Q r h) : Wp (some (r, h)) Q := ⟨r, h, rfl, q⟩
theorem Wp.bind {m : Option (V × H)} {Q1 Q : V → H → Prop} {f : V × H → Option (V × H)} (c : Wp m Q1) (k : ∀ r h', Q1 r h' → Wp (f (r, h')) Q) : Wp (m.bind f) Q := by
  obtain ⟨r, h', e, q⟩ := c
  rw [e]; exact k r h' q
theorem Wp.mono {m : Option (V × H)} {Q Q' : V → H → Prop} (c : Wp m Q) (k : ∀ r h', Q r h' → Q' r h') : Wp m Q' := by
  obtain ⟨r, h', e, q⟩ := c
  exact ⟨r, h', e, k r h' q⟩
theorem Wp.run {P : Program} {prims : Prims} {ann : Nat → Nat → List Nat} {f : Nat} {fn : Func} {c : Code} (hp : prims f = none) (hf : P.funcs[f]? = some fn) (hb : fn.body = some c) (hname : (fn.name == "runtime.NumGoroutine") = false) {args : List V} (hlen : args.length ≤ fn.ntmps) {h : H} {Q : V → H → Prop}
    (w : Wp (bodyK P (AH.run P prims ann) (ann f) fn c args h) Q) : Wp (AH.run P prims ann f args h) Q := by
  obtain ⟨r, h', e, q⟩ := w
  exact ⟨r, h', run_bodyK hp hf hb hname hlen e, q⟩
theorem Wp.prim {P : Program} {prims : Prims} {ann : Nat → Nat → List Nat} {f : Nat} {p : List V → H → Option (V × H)} (hp : prims f = Option.some p) {args : List V} {h : H} {Q : V → H → Prop}
    (w : Wp (p args h) Q) : Wp (AH.run P prims ann f args h) Q := by
  obtain ⟨r, h', e, q⟩ := w
  exact ⟨r, h', run_prim hp e, q⟩

/-! ### Words on whole numbers, letters -/
theorem beq_dec {α : Type} [DecidableEq α] (a b : α) : (a == b) = decide (a = b) := by
  by_cases h : a = b
  · subst h; simp
  · simp [h]
section
variable (P : Program) (t : TypeId) (k : IntKind) (a b : Int) (s u : ByteArray)
@[simp] theorem bin_lss : binV P .lss t (.int k a) (.int k b) = some (.bool (decide (a < b))) := by simp [binV, intOp]
@[simp] theorem bin_leq : binV P .leq t (.int k a) (.int k b) = some (.bool (decide (a ≤ b))) := by simp [binV, intOp]
@[simp] theorem bin_gtr : binV P .gtr t (.int k a) (.int k b) = some (.bool (decide (b < a))) := by simp [binV, intOp]
@[simp] theorem bin_geq : binV P .geq t (.int k a) (.int k b) = some (.bool (decide (b ≤ a))) := by simp [binV, intOp]
@[simp] theorem bin_eql : binV P .eql t (.int k a) (.int k b) = some (.bool (decide (a = b))) := by simp [binV, intOp, beq_dec]
@[simp] theorem bin_neq : binV P .neq t (.int k a) (.int k b) = some (.bool (!decide (a = b))) := by simp [binV, intOp, bne, beq_dec]
@[simp] theorem bin_add : binV P .add t (.int k a) (.int k b) = some (.int k (k.wrap (a + b))) := by simp [binV, intOp]
@[simp] theorem bin_sub : binV P .sub t (.int k a) (.int k b) = some (.int k (k.wrap (a - b))) := by simp [binV, intOp]
@[simp] theorem bin_mul : binV P .mul t (.int k a) (.int k b) = some (.int k (k.wrap (a * b))) := by simp [binV, intOp]
theorem bin_quo (hb : b ≠ 0) : binV P .quo t (.int k a) (.int k b) = some (.int k (k.wrap (a.tdiv b))) := by simp [binV, intOp, hb]
theorem bin_rem (hb : b ≠ 0) : binV P .rem t (.int k a) (.int k b) = some (.int k (a.tmod b)) := by simp [binV, intOp, hb]
theorem bytes_eqb (s u : ByteArray) : (s.toList == u.toList) = decide (s = u) := by
  rw [ByteArray.toList_eq, ByteArray.toList_eq, Bool.eq_iff_iff, beq_iff_eq, decide_eq_true_eq]
  constructor
  · intro h
    cases s; cases u
    simp only [ByteArray.mk.injEq]
    exact Array.ext' h
  · rintro rfl; rfl
@[simp] theorem str_eql : binV P .eql t (.str s) (.str u) = some (.bool (decide (s = u))) := by simp only [binV, strOp, bytes_eqb]
@[simp] theorem str_neq : binV P .neq t (.str s) (.str u) = some (.bool (!decide (s = u))) := by simp only [binV, strOp, bytes_eqb]
def sLt (s u : ByteArray) : Bool := Op.bytesLess s.toList u.toList
@[simp] theorem str_lss : binV P .lss t (.str s) (.str u) = some (.bool (sLt s u)) := rfl
@[simp] theorem str_gtr : binV P .gtr t (.str s) (.str u) = some (.bool (!(sLt s u || decide (s = u)))) := by simp only [binV, strOp, bytes_eqb]; rfl
@[simp] theorem str_geq : binV P .geq t (.str s) (.str u) = some (.bool (!(sLt s u))) := rfl
@[simp] theorem str_leq : binV P .leq t (.str s) (.str u) = some (.bool (sLt s u || decide (s = u))) := by simp only [binV, strOp, bytes_eqb]; rfl
theorem str_add (hk : s.size + u.size < 9223372036854775808) : binV P .add t (.str s) (.str u) = some (.str (s ++ u)) := by
  have : ¬ (((s.size + u.size : Nat) : Int) > IntKind.i64.max) := by
    have : IntKind.i64.max = 9223372036854775807 := by rfl
    omega
  simp only [binV, strOp]; rw [if_neg this]
@[simp] theorem not_bool (b : Bool) : unV .not (.bool b) = some (.bool !b) := rfl
theorem wrap64 {x : Int} (h1 : -9223372036854775808 ≤ x) (h2 : x < 9223372036854775808) : IntKind.i64.wrap x = x := by
  have e : IntKind.i64.wrap x = (if x % 18446744073709551616 ≥ 9223372036854775808 then x % 18446744073709551616 - 18446744073709551616 else x % 18446744073709551616) := by
    unfold IntKind.wrap
    have h64 : (2 : Int) ^ 64 = 18446744073709551616 := by decide
    have h63 : (2 : Int) ^ (64 - 1) = 9223372036854775808 := by decide
    simp only [IntKind.bits, IntKind.signed, h64, h63, Bool.true_and, decide_eq_true_eq]
  rw [e]
  split <;> omega
@[simp] theorem neq_bool (x y : Bool) (e : P.underlying t = some .bool) : binV P .neq t (.bool x) (.bool y) = some (.bool (x != y)) := by
  have : eqV P Op.maxDepth t (.bool x) (.bool y) = some (x == y) := by
    show eqV P (_ + 1) t _ _ = _
    unfold eqV; rw [e]
  simp only [binV, this]; cases x <;> cases y <;> rfl
end
@[simp] theorem onB_bool {R : Type} (c : Bool) (a b : Option R) : onB (.bool c) a b = if c = true then a else b := by cases c <;> rfl
@[simp] theorem spB_bool {R : Type} (c : Bool) (a b : Option R) : spB (.bool c) a b = if c = true then a else b := by cases c <;> rfl
@[simp] theorem ext_tup (vs : List V) (i : Nat) : extV (.tup vs) i = vs[i]? := rfl
@[simp] theorem lenL_sl (z id off n : Nat) : lenL (.sl z id off n) = some (.int .i64 n) := rfl
@[simp] theorem lenS_str (s : ByteArray) : lenS (.str s) = some (.int .i64 s.size) := rfl
theorem iA_sl {z id off len s : Nat} {n : Nat} (k : n < len) : iA s (.sl z id off len) (.int .i64 n) = some (.ptr id (off + n * s)) := by
  show (if (0 : Int) ≤ (n : Int) ∧ (n : Int) < (len : Int) then _ else _) = _
  rw [if_pos ⟨by omega, by omega⟩]; simp
theorem fA_ptr {o id off : Nat} (k : id ≠ 0) : fA o (.ptr id off) = some (.ptr id (off + o)) := if_neg k
theorem nilC_ptr {id off : Nat} (k : id ≠ 0) : nilC (.ptr id off) = some (.ptr id off) := if_neg k
@[simp] theorem ld1_ptr (h : H) (id off : Nat) : ld1 h (.ptr id off) = (bload (h.blk id) off 1).bind List.head? := rfl
@[simp] theorem ldn_ptr (n : Nat) (h : H) (id off : Nat) : ldn n h (.ptr id off) = (bload (h.blk id) off n).map V.agg := rfl
@[simp] theorem ress_nil : ress [] = some [] := rfl
@[simp] theorem ress_cons (r : Option V) (l : List (Option V)) : ress (r :: l) = r.bind fun v => (ntup v).bind fun v => (ress l).map (v :: ·) := rfl
@[simp] theorem ntup_int (k : IntKind) (n : Int) : ntup (.int k n) = some (.int k n) := rfl
@[simp] theorem ntup_bool (b : Bool) : ntup (.bool b) = some (.bool b) := rfl
@[simp] theorem ntup_str (s : ByteArray) : ntup (.str s) = some (.str s) := rfl
@[simp] theorem ntup_ptr (a b : Nat) : ntup (.ptr a b) = some (.ptr a b) := rfl
@[simp] theorem ntup_sl (a b c d : Nat) : ntup (.sl a b c d) = some (.sl a b c d) := rfl
@[simp] theorem ntup_agg (l : List V) : ntup (.agg l) = some (.agg l) := rfl
@[simp] theorem tupOf_one (v : V) : tupOf [v] = v := rfl
@[simp] theorem tupOf_two (v u : V) (l : List V) : tupOf (v :: u :: l) = .tup (v :: u :: l) := rfl
@[simp] theorem tupOf_nil : tupOf [] = .tup [] := rfl
@[simp] theorem cells_int (k : IntKind) (n : Int) : cellsV (.int k n) = some [.int k n] := rfl
@[simp] theorem cells_bool (b : Bool) : cellsV (.bool b) = some [.bool b] := rfl
@[simp] theorem cells_str (s : ByteArray) : cellsV (.str s) = some [.str s] := rfl
@[simp] theorem cells_ptr (a b : Nat) : cellsV (.ptr a b) = some [.ptr a b] := rfl
@[simp] theorem cells_sl (a b c d : Nat) : cellsV (.sl a b c d) = some [.sl a b c d] := rfl
@[simp] theorem cells_fn (a : Nat) (l : List (Nat × Nat)) : cellsV (.fn a l) = some [.fn a l] := rfl
@[simp] theorem cells_agg (l : List V) : cellsV (.agg l) = some l := rfl
attribute [simp] blk_new blk_upd blk_kill fA_ptr nilC_ptr load_eq store_eq
theorem bload_mk' (cs : List V) (ver off n : Nat) (k : off + n ≤ cs.length) : bload { cells := cs, ver := ver, alive := true } off n = some ((cs.drop off).take n) := bload_mk cs ver off n k
attribute [simp] bload_mk
@[simp] theorem stN_ptr {R : Type} (n : Nat) (h : H) (id off : Nat) (v : V) (k : H → Option R) : stN n h (.ptr id off) v k = (cellsV v).bind fun vs => if vs.length = n then (h.store id off vs).bind k else none := rfl
@[simp] theorem bxK_eq {R : Type} (h : H) (v : V) (k : V → H → Option R) : bxK h v k = (cellsV v).bind fun cs => k (.ptr h.next 0) (h.new cs) := rfl
@[simp] theorem alK_eq {R : Type} (z : List V) (h : H) (k : V → H → Option R) : alK z h k = k (.ptr h.next 0) (h.new z) := rfl
@[simp] theorem bld_nil (z : List V) : bld z [] = some z := rfl
@[simp] theorem bld_cons (z : List V) (o n : Nat) (v : V) (r : List (Nat × Nat × V)) : bld z ((o, n, v) :: r) = (cellsV v).bind fun vs => if vs.length = n then (splice z o vs).bind fun cs => bld cs r else none := rfl
@[simp] theorem bldV_eq (z : List V) (ps : List (Nat × Nat × V)) : bldV z ps = (bld z ps).bind fun cs => some (.agg cs) := rfl
@[simp] theorem bsK_eq {R : Type} (sz n : Nat) (h : H) (z : List V) (ps : List (Nat × Nat × V)) (k : V → H → Option R) : bsK sz n h z ps k = (bld z ps).bind fun cs => k (.sl sz h.next 0 n) (h.new cs) := rfl
@[simp] theorem splice_eq (cells : List V) (off : Nat) (vs : List V) : splice cells off vs = if off + vs.length ≤ cells.length then some (cells.take off ++ vs ++ cells.drop (off + vs.length)) else none := rfl
@[simp] theorem pdV_ptr {R : Type} (h' h : H) (id off : Nat) (k : Option R) : pdV h' (.ptr id off) h k = if (h'.blk id).ver = (h.blk id).ver then k else none := rfl
@[simp] theorem pdB_int {R : Type} (h' h : H) (t : IntKind) (n : Int) (k : Option R) : pdB h' (.int t n) h k = k := rfl
@[simp] theorem ne_up2 (n : Nat) : (n = n + 1 + 1) = False := by simp only [eq_iff_iff, iff_false]; omega
@[simp] theorem ne_dn2 (n : Nat) : (n + 1 + 1 = n) = False := by simp only [eq_iff_iff, iff_false]; omega
@[simp] theorem ne_up3 (n : Nat) : (n = n + 1 + 1 + 1) = False := by simp only [eq_iff_iff, iff_false]; omega
@[simp] theorem ne_dn3 (n : Nat) : (n + 1 + 1 + 1 = n) = False := by simp only [eq_iff_iff, iff_false]; omega
@[simp] theorem ne_up4 (n : Nat) : (n = n + 1 + 1 + 1 + 1) = False := by simp only [eq_iff_iff, iff_false]; omega
@[simp] theorem ne_dn4 (n : Nat) : (n + 1 + 1 + 1 + 1 = n) = False := by simp only [eq_iff_iff, iff_false]; omega
@[simp] theorem ne_up5 (n : Nat) : (n = n + 1 + 1 + 1 + 1 + 1) = False := by simp only [eq_iff_iff, iff_false]; omega
@[simp] theorem ne_dn5 (n : Nat) : (n + 1 + 1 + 1 + 1 + 1 = n) = False := by simp only [eq_iff_iff, iff_false]; omega
@[simp] theorem ne_up6 (n : Nat) : (n = n + 1 + 1 + 1 + 1 + 1 + 1) = False := by simp only [eq_iff_iff, iff_false]; omega
@[simp] theorem ne_dn6 (n : Nat) : (n + 1 + 1 + 1 + 1 + 1 + 1 = n) = False := by simp only [eq_iff_iff, iff_false]; omega
@[simp] theorem ne_up7 (n : Nat) : (n = n + 1 + 1 + 1 + 1 + 1 + 1 + 1) = False := by simp only [eq_iff_iff, iff_false]; omega
@[simp] theorem ne_dn7 (n : Nat) : (n + 1 + 1 + 1 + 1 + 1 + 1 + 1 = n) = False := by simp only [eq_iff_iff, iff_false]; omega
@[simp] theorem ne_up8 (n : Nat) : (n = n + 1 + 1 + 1 + 1 + 1 + 1 + 1 + 1) = False := by simp only [eq_iff_iff, iff_false]; omega
@[simp] theorem ne_dn8 (n : Nat) : (n + 1 + 1 + 1 + 1 + 1 + 1 + 1 + 1 = n) = False := by simp only [eq_iff_iff, iff_false]; omega
theorem Hok.pos {h : H} (k : Hok h) : h.next ≠ 0 := by have := k.1; have := k.2; omega
@[simp] theorem capsV_nil : mkF.capsV [] = some [] := rfl

/-! ### Lists in memory -/
class Enc (α : Type) where
  sz : Nat
  pos : 0 < sz
  enc : α → List V
  len : ∀ a, (enc a).length = sz
def flat {α : Type} [Enc α] (l : List α) : List V := l.flatMap Enc.enc
variable {α : Type} [Enc α]
theorem flat_len (l : List α) : (flat l).length = l.length * Enc.sz α := by
  induction l with
  | nil => simp [flat]
  | cons a l ih => simp only [flat, List.flatMap_cons, List.length_append, Enc.len, List.length_cons, Nat.add_mul] at *; omega
theorem flat_append (l m : List α) : flat (l ++ m) = flat l ++ flat m := by simp [flat]
theorem flat_cons (a : α) (l : List α) : flat (a :: l) = Enc.enc a ++ flat l := by simp [flat]
theorem flat_nil : flat ([] : List α) = [] := rfl
theorem flat_one (a : α) : flat [a] = Enc.enc a := by simp [flat]
theorem flat_drop (l : List α) (k : Nat) : (flat l).drop (k * Enc.sz α) = flat (l.drop k) := by
  induction l generalizing k with
  | nil => simp [flat]
  | cons a l ih =>
    cases k with
    | zero => simp
    | succ k =>
      rw [flat_cons, List.drop_succ_cons, ← ih k, Nat.add_mul, Nat.one_mul, Nat.add_comm]
      rw [← List.drop_drop, List.drop_append_of_le_length (Nat.le_of_eq (Enc.len a).symm)]
      rw [List.drop_eq_nil_of_le (Nat.le_of_eq (Enc.len a)), List.nil_append]
theorem flat_take (l : List α) (k : Nat) : (flat l).take (k * Enc.sz α) = flat (l.take k) := by
  induction l generalizing k with
  | nil => simp [flat]
  | cons a l ih =>
    cases k with
    | zero => simp [flat]
    | succ k =>
      rw [flat_cons, List.take_succ_cons, flat_cons, ← ih k, Nat.add_mul, Nat.one_mul, Nat.add_comm]
      rw [List.take_append, Enc.len]
      congr 1
      · exact List.take_of_length_le (by have := Enc.len a; omega)
      · congr 1; omega
theorem flat_get (l : List α) (k : Nat) (hk : k < l.length) : ((flat l).drop (k * Enc.sz α)).take (Enc.sz α) = Enc.enc l[k] := by
  rw [flat_drop, List.drop_eq_getElem_cons hk, flat_cons, List.take_append_of_le_length (Nat.le_of_eq (Enc.len _).symm)]
  exact List.take_of_length_le (Nat.le_of_eq (Enc.len _))
/-- The slice (z, id, off, l.length) reads l. -/
def Sl (l : List α) (h : H) (z id off : Nat) : Prop :=
  (id = 0 ∧ l = []) ∨ (id ≠ 0 ∧ z = Enc.sz α ∧ id < h.next ∧ bload (h.blk id) off (l.length * Enc.sz α) = some (flat l))
theorem Sl.nil (h : H) (z off : Nat) : Sl ([] : List α) h z 0 off := .inl ⟨rfl, rfl⟩
theorem Sl.pos {l : List α} {h : H} {z id off : Nat} (s : Sl l h z id off) {k : Nat} (hk : k < l.length) : id ≠ 0 ∧ z = Enc.sz α ∧ id < h.next := by
  rcases s with ⟨_, rfl⟩ | s
  · simp at hk
  · exact ⟨s.1, s.2.1, s.2.2.1⟩
theorem Sl.get {l : List α} {h : H} {z id off : Nat} (s : Sl l h z id off) {k : Nat} (hk : k < l.length) : bload (h.blk id) (off + k * Enc.sz α) (Enc.sz α) = some (Enc.enc l[k]) := by
  rcases s with ⟨_, rfl⟩ | s
  · simp at hk
  · rw [bload_sub s.2.2.2 (k * Enc.sz α) (Enc.sz α) (by have := Nat.mul_le_mul_right (Enc.sz α) hk; rw [Nat.succ_mul] at this; exact this), flat_get]
theorem Sl.blk {l : List α} {h h' : H} {z id off : Nat} (s : Sl l h z id off) (e : id ≠ 0 → h'.blk id = h.blk id) (n : h.next ≤ h'.next) : Sl l h' z id off := by
  rcases s with s | s
  · exact .inl s
  · exact .inr ⟨s.1, s.2.1, by omega, by rw [e s.1]; exact s.2.2.2⟩
theorem Sl.fr {S : List Nat} {l : List α} {h h' : H} {z id off : Nat} (s : Sl l h z id off) (F : Fr S h h') (k : id ∉ S) : Sl l h' z id off := by
  rcases s with s | s
  · exact .inl s
  · exact .inr ⟨s.1, s.2.1, Nat.lt_of_lt_of_le s.2.2.1 F.2.1, by rw [F.blk s.1 s.2.2.1 k]; exact s.2.2.2⟩
theorem Sl.fr0 {l : List α} {h h' : H} {z id off : Nat} (s : Sl l h z id off) (F : Fr [] h h') : Sl l h' z id off := s.fr F (by simp)
theorem Sl.lt {l : List α} {h : H} {z id off : Nat} (s : Sl l h z id off) (k : Hok h) : id < h.next := by
  rcases s with s | s
  · rw [s.1]; exact Nat.lt_of_lt_of_le k.1 k.2
  · exact s.2.2.1
theorem Sl.sub {l : List α} {h : H} {z id off : Nat} (s : Sl l h z id off) (a b : Nat) (hab : a + b ≤ l.length) : Sl ((l.drop a).take b) h z id (off + a * Enc.sz α) := by
  rcases s with ⟨h0, rfl⟩ | s
  · exact .inl ⟨h0, by simp⟩
  · refine .inr ⟨s.1, s.2.1, s.2.2.1, ?_⟩
    have hl : ((l.drop a).take b).length = b := by simp only [List.length_take, List.length_drop]; omega
    rw [hl, bload_sub s.2.2.2 (a * Enc.sz α) (b * Enc.sz α) (by rw [← Nat.add_mul]; exact Nat.mul_le_mul_right _ hab), flat_drop, flat_take]
theorem slL_some {z id off len sz a b : Nat} (hz : sz = z ∨ id = 0) (ha : a ≤ b) (hb : b ≤ len) :
    slL sz (.sl z id off len) (some (.int .i64 a)) (some (.int .i64 b)) none = some (.sl z id (off + a * sz) (b - a)) := by
  have h1 : (0 : Int) ≤ (b : Int) ∧ (b : Int) ≤ (len : Int) := ⟨by omega, by omega⟩
  have h2 : (0 : Int) ≤ (a : Int) ∧ (a : Int) ≤ (b : Int) := ⟨by omega, by omega⟩
  simp only [slL, if_pos hz, bnd, Option.bind_some, Option.isSome_none, Bool.false_and, Bool.false_eq_true, if_false, if_pos h1, Int.toNat_natCast, if_pos h2]
theorem slL_hi {z id off len sz b : Nat} (hz : sz = z ∨ id = 0) (hb : b ≤ len) :
    slL sz (.sl z id off len) none (some (.int .i64 b)) none = some (.sl z id off b) := by
  have h1 : (0 : Int) ≤ (b : Int) ∧ (b : Int) ≤ (len : Int) := ⟨by omega, by omega⟩
  simp only [slL, if_pos hz, bnd, Option.bind_some, Option.isSome_none, Bool.false_and, Bool.false_eq_true, if_false, if_pos h1, Int.toNat_natCast, Nat.zero_mul, Nat.add_zero, Nat.sub_zero]
theorem slL_lo {z id off len sz a : Nat} (hz : sz = z ∨ id = 0) (ha : a ≤ len) :
    slL sz (.sl z id off len) (some (.int .i64 a)) none none = some (.sl z id (off + a * sz) (len - a)) := by
  have h2 : (0 : Int) ≤ (a : Int) ∧ (a : Int) ≤ (len : Int) := ⟨by omega, by omega⟩
  simp only [slL, if_pos hz, bnd, Option.bind_some, Option.isSome_none, Bool.false_and, Bool.false_eq_true, if_false, Int.toNat_natCast, if_pos h2]
theorem Sl.zor {l : List α} {h : H} {z id off : Nat} (s : Sl l h z id off) : Enc.sz α = z ∨ id = 0 := by
  rcases s with s | s
  · exact .inr s.1
  · exact .inl s.2.1.symm
/-- Append: a new block; the old one is dead. -/
theorem apL_sl {l m : List α} {h : H} {z id off z' id' off' bytes : Nat} (hk : Hok h) (s : Sl l h z id off) (own : id = 0 ∨ h.lo ≤ id) (s' : Sl m h z' id' off')
    (hb : (l.length + m.length) * bytes ≤ 140737488355328) (hn : l.length + m.length ≤ 4611686018427387904) :
    ∃ z2 id2 off2 h', apL (Enc.sz α) bytes h (.sl z id off l.length) (.sl z' id' off' m.length) = some (.sl z2 id2 off2 (l ++ m).length, h') ∧ Fr [id] h h' ∧ Sl (l ++ m) h' z2 id2 off2 ∧ (id2 = 0 ∨ h.lo ≤ id2) ∧ (m = [] ∧ id2 = id ∧ h' = h ∨ h.next ≤ id2) := by
  by_cases hm : m = []
  · subst hm
    refine ⟨z, id, off, h, ?_, Fr.refl _ _, by simpa using s, own, .inl ⟨rfl, rfl, rfl⟩⟩
    have : srcL h (Enc.sz α) (.sl z' id' off' ([] : List α).length) = some (0, []) := by
      simp only [srcL, List.length_nil, Nat.zero_mul, if_true]
      split <;> rfl
    simp only [apL, this, Option.bind_some, if_true, List.append_nil]
  · have hml : 0 < m.length := List.length_pos_iff.2 hm
    rcases s' with s' | s'
    · exact absurd s'.2 hm
    have hsz := Enc.pos (α := α)
    have hne : ¬ m.length * Enc.sz α = 0 := Nat.ne_of_gt (Nat.mul_pos hml hsz)
    have e1 : srcL h (Enc.sz α) (.sl z' id' off' m.length) = some (m.length, flat m) := by
      simp only [srcL, if_neg s'.1, if_neg hne]
      rw [load_eq, s'.2.2.2]; rfl
    have hc : (l.length + m.length) * bytes ≤ 140737488355328 ∧ l.length + m.length ≤ 4611686018427387904 ∧ (id = 0 ∧ l.length = 0 ∨ (h.blk id).alive = true ∧ h.lo ≤ id ∧ id ≠ 0 ∧ z = Enc.sz α) ∧ Enc.sz α = Enc.sz α := by
      refine ⟨hb, hn, ?_, rfl⟩
      rcases s with s | s
      · exact .inl ⟨s.1, by rw [s.2]; rfl⟩
      · exact .inr ⟨(bload_alive s.2.2.2).1, own.resolve_left s.1, s.1, s.2.1⟩
    have e2 : (if l.length = 0 then some [] else h.load id off (l.length * Enc.sz α)) = some (flat l) := by
      split
      · rename_i h0; rw [List.length_eq_zero_iff.1 h0]; rfl
      · rename_i h0
        rcases s with s | s
        · rw [s.2] at h0; exact absurd rfl h0
        · rw [load_eq]; exact s.2.2.2
    refine ⟨Enc.sz α, h.next, 0, (h.new (flat l ++ flat m)).kill id, ?_, ?_, ?_, .inr hk.2, .inr (Nat.le_refl _)⟩
    · simp only [apL, e1, Option.bind_some, if_neg (Nat.ne_of_gt hml), e2, List.length_append]; rw [if_pos ⟨hc.1, hc.2.1, hc.2.2.1, trivial⟩]
    · exact (Fr.refl _ _).new _ |>.kill (.inl (by simp))
    · refine .inr ⟨by have := hk.1; have := hk.2; omega, rfl, by simp, ?_⟩
      have hid : h.next ≠ id := by
        rcases s with s | s
        · have := hk.1; have := hk.2; omega
        · have := s.2.2.1; omega
      rw [blk_kill, if_neg hid, blk_new, if_pos rfl, ← flat_append, bload_mk _ _ _ _ (by rw [flat_len]; omega)]
      rw [List.drop_zero, List.take_of_length_le (by rw [flat_len]; exact Nat.le_refl _)]
/-! Stores. -/
theorem bload_split {b : Blk} {off n : Nat} {L : List V} (e : bload b off n = some L) : ∃ pre post, b.cells = pre ++ L ++ post ∧ pre.length = off ∧ L.length = n := by
  obtain ⟨h1, h2, h3⟩ := bload_alive e
  refine ⟨b.cells.take off, b.cells.drop (off + n), ?_, by simp; omega, bload_len e⟩
  rw [h3, List.append_assoc, ← List.drop_drop, List.take_append_drop, List.take_append_drop]
theorem bload_put {b : Blk} {off n : Nat} {L : List V} (e : bload b off n = some L) (j : Nat) (vs : List V) (hj : j + vs.length ≤ n) (ver : Nat) :
    bload ⟨b.cells.take (off + j) ++ vs ++ b.cells.drop (off + j + vs.length), ver, true⟩ off n = some (L.take j ++ vs ++ L.drop (j + vs.length)) := by
  obtain ⟨pre, post, ec, hp, hL⟩ := bload_split e
  have e1 : b.cells.take (off + j) = pre ++ L.take j := by
    rw [ec, List.append_assoc, ← hp, List.take_length_add_append, List.take_append_of_le_length (by omega)]
  have e2 : b.cells.drop (off + j + vs.length) = L.drop (j + vs.length) ++ post := by
    rw [ec, List.append_assoc, ← hp, Nat.add_assoc, List.drop_length_add_append, List.drop_append_of_le_length (by omega)]
  rw [e1, e2, bload_mk _ _ _ _ (by simp; omega)]
  have : pre ++ List.take j L ++ vs ++ (List.drop (j + vs.length) L ++ post) = pre ++ ((L.take j ++ vs ++ L.drop (j + vs.length)) ++ post) := by simp
  rw [this, List.drop_left' hp, List.take_left']
  simp; omega
theorem flat_set (l : List α) (k : Nat) (hk : k < l.length) (a : α) : flat (l.set k a) = (flat l).take (k * Enc.sz α) ++ Enc.enc a ++ (flat l).drop (k * Enc.sz α + Enc.sz α) := by
  have : k * Enc.sz α + Enc.sz α = (k + 1) * Enc.sz α := by rw [Nat.add_mul, Nat.one_mul]
  rw [this, flat_take, flat_drop, List.set_eq_take_append_cons_drop, if_pos hk, flat_append, flat_cons, List.append_assoc]
theorem flat_setf (l : List α) (k : Nat) (hk : k < l.length) (a : α) (f : Nat) (vs : List V) (hf : f + vs.length ≤ Enc.sz α) (ha : Enc.enc a = (Enc.enc l[k]).take f ++ vs ++ (Enc.enc l[k]).drop (f + vs.length)) :
    flat (l.set k a) = (flat l).take (k * Enc.sz α + f) ++ vs ++ (flat l).drop (k * Enc.sz α + f + vs.length) := by
  have hl := Enc.len l[k]
  have e : flat l = flat (l.take k) ++ (Enc.enc l[k] ++ flat (l.drop (k + 1))) := by
    rw [← flat_cons, ← List.drop_eq_getElem_cons hk, ← flat_append, List.take_append_drop]
  have ht : (flat (l.take k)).length = k * Enc.sz α := by rw [flat_len, List.length_take, Nat.min_eq_left (by omega)]
  rw [List.set_eq_take_append_cons_drop, if_pos hk, flat_append, flat_cons, ha, e, ← ht]
  rw [List.take_length_add_append, Nat.add_assoc, List.drop_length_add_append, List.take_append_of_le_length (by omega), List.drop_append_of_le_length (by omega)]
  simp
/-- A store into a slice's element: at its field f. -/
theorem Sl.putf {l : List α} {h g : H} {z id off : Nat} (s : Sl l h z id off) {k : Nat} (hk : k < l.length) (a : α) (f : Nat) (vs : List V) (hf : f + vs.length ≤ Enc.sz α)
    (ha : Enc.enc a = (Enc.enc l[k]).take f ++ vs ++ (Enc.enc l[k]).drop (f + vs.length)) (gn : h.next ≤ g.next) (ver : Nat)
    (gb : g.blk id = ⟨(h.blk id).cells.take (off + (k * Enc.sz α + f)) ++ vs ++ (h.blk id).cells.drop (off + (k * Enc.sz α + f) + vs.length), ver, true⟩) : Sl (l.set k a) g z id off := by
  have p := s.pos hk
  rcases s with s | s
  · exact absurd s.1 p.1
  refine .inr ⟨p.1, p.2.1, by omega, ?_⟩
  have hkk : k * Enc.sz α + Enc.sz α ≤ l.length * Enc.sz α := by have := Nat.mul_le_mul_right (Enc.sz α) hk; rw [Nat.succ_mul] at this; exact this
  rw [gb, List.length_set, bload_put s.2.2.2 (k * Enc.sz α + f) vs (by omega), flat_setf l k hk a f vs hf ha]
theorem Wp.st {n : Nat} {h : H} {id o : Nat} {v : V} {vs : List V} {f : H → Option (V × H)} {Q : V → H → Prop} (hv : cellsV v = some vs) (hn : vs.length = n) (ha : (h.blk id).alive = true) (hlo : h.lo ≤ id) (hb : o + n ≤ (h.blk id).cells.length)
    (k : ∀ g ver, g.next = h.next → g.blk id = ⟨(h.blk id).cells.take o ++ vs ++ (h.blk id).cells.drop (o + vs.length), ver, true⟩ → Fr [id] h g → Wp (f g) Q) : Wp (stN n h (.ptr id o) v f) Q := by
  have e : stN n h (.ptr id o) v f = f (h.upd id ⟨(h.blk id).cells.take o ++ vs ++ (h.blk id).cells.drop (o + vs.length), (h.blk id).ver + 1, true⟩) := by
    simp only [stN_ptr, hv, Option.bind_some, hn, if_true, store_eq]
    rw [if_pos ⟨ha, hlo, hb⟩]; rfl
  rw [e]
  exact k _ _ rfl (by rw [blk_upd, if_pos rfl]) ((Fr.refl _ _).upd _ (.inl (by simp)))
/-- A store into a slice's element, as a step. -/
theorem Wp.stf {l : List α} {h : H} {z id off : Nat} (hk : Hok h) (s : Sl l h z id off) (own : id = 0 ∨ h.lo ≤ id) {k : Nat} (hkl : k < l.length) (a : α) (f : Nat) {n o : Nat} {v : V} {vs : List V} (hv : cellsV v = some vs) (hn : vs.length = n) (hf : f + n ≤ Enc.sz α) (ho : o = off + k * Enc.sz α + f)
    (ha : Enc.enc a = (Enc.enc l[k]).take f ++ vs ++ (Enc.enc l[k]).drop (f + vs.length)) {F : H → Option (V × H)} {Q : V → H → Prop}
    (c : ∀ g, g.next = h.next → Hok g → Sl (l.set k a) g z id off → Fr [id] h g → Wp (F g) Q) : Wp (stN n h (.ptr id o) v F) Q := by
  have p := s.pos hkl
  have hkk : k * Enc.sz α + Enc.sz α ≤ l.length * Enc.sz α := by have := Nat.mul_le_mul_right (Enc.sz α) hkl; rw [Nat.succ_mul] at this; exact this
  have q : (h.blk id).alive = true ∧ off + l.length * Enc.sz α ≤ (h.blk id).cells.length := by
    rcases s with s | s
    · exact absurd s.1 p.1
    · have := bload_alive s.2.2.2; exact ⟨this.1, this.2.1⟩
  refine Wp.st hv hn q.1 (own.resolve_left p.1) (by omega) ?_
  intro g ver gn gb F'
  refine c g gn (F'.ok hk) (s.putf hkl a f vs (by omega) ha (Nat.le_of_eq gn.symm) ver ?_) F'
  rw [gb, ho]
  simp only [Nat.add_assoc]
/-! Steps that make blocks. -/
theorem Fr.tr {S T : List Nat} {a b c : H} (x : Fr S a b) (y : Fr T b c) (hS : ∀ j ∈ T, j = 0 ∨ j ∈ S ∨ a.next ≤ j) : Fr S a c :=
  ⟨y.1.trans x.1, Nat.le_trans x.2.1 y.2.1, fun j h0 h1 h2 => (y.2.2 j h0 (Nat.lt_of_lt_of_le h1 x.2.1) (fun hj => by
    rcases hS j hj with e | e | e
    · exact h0 e
    · exact h2 e
    · omega)).trans (x.2.2 j h0 h1 h2)⟩
theorem Wp.bx {S : List Nat} {h0 h : H} (hk : Hok h) (F : Fr S h0 h) {v : V} {cs : List V} (hv : cellsV v = some cs) {f : V → H → Option (V × H)} {Q : V → H → Prop}
    (c : ∀ b g n, b = h.next → g.next = b + 1 → g.blk b = ⟨cs, n, true⟩ → Hok g → b ≠ 0 → g.lo ≤ b → Fr S h0 g → Fr [] h g → Wp (f (.ptr b 0) g) Q) : Wp (bxK h v f) Q := by
  rw [bxK_eq, hv]
  exact c h.next (h.new cs) _ rfl rfl (by rw [blk_new, if_pos rfl]) (hk.new _) hk.pos hk.2 (F.new _) ((Fr.refl _ _).new _)
theorem Wp.al {S : List Nat} {h0 h : H} (hk : Hok h) (F : Fr S h0 h) {z : List V} {f : V → H → Option (V × H)} {Q : V → H → Prop}
    (c : ∀ b g n, b = h.next → g.next = b + 1 → g.blk b = ⟨z, n, true⟩ → Hok g → b ≠ 0 → g.lo ≤ b → Fr S h0 g → Fr [] h g → Wp (f (.ptr b 0) g) Q) : Wp (alK z h f) Q :=
  c h.next (h.new z) _ rfl rfl (by rw [blk_new, if_pos rfl]) (hk.new _) hk.pos hk.2 (F.new _) ((Fr.refl _ _).new _)
theorem Wp.bs {S : List Nat} {h0 h : H} (hk : Hok h) (F : Fr S h0 h) (l : List α) {z : List V} {ps : List (Nat × Nat × V)} {sz n : Nat} (hv : bld z ps = some (flat l)) (hs : sz = Enc.sz α) (hn : n = l.length) {f : V → H → Option (V × H)} {Q : V → H → Prop}
    (c : ∀ b g, b = h.next → g.next = b + 1 → Sl l g (Enc.sz α) b 0 → Hok g → b ≠ 0 → g.lo ≤ b → Fr S h0 g → Fr [] h g → Wp (f (.sl (Enc.sz α) b 0 l.length) g) Q) : Wp (bsK sz n h z ps f) Q := by
  subst hs; subst hn
  rw [bsK_eq, hv]
  refine c h.next (h.new (flat l)) rfl rfl (.inr ⟨hk.pos, rfl, Nat.lt_succ_self _, ?_⟩) (hk.new _) hk.pos hk.2 (F.new _) ((Fr.refl _ _).new _)
  rw [blk_new, if_pos rfl, bload_mk _ _ _ _ (by rw [flat_len]; omega), List.drop_zero, List.take_of_length_le (by rw [flat_len]; exact Nat.le_refl _)]
/-- Append. -/
theorem Wp.ap {S : List Nat} {h0 h : H} (hk : Hok h) (F : Fr S h0 h) {l m : List α} {z id off n z' id' off' n' bytes sz : Nat} (s : Sl l h z id off) (own : id = 0 ∨ h.lo ≤ id) (hid : id = 0 ∨ id ∈ S ∨ h0.next ≤ id) (s' : Sl m h z' id' off')
    (ln : n = l.length) (lm : n' = m.length) (hs : sz = Enc.sz α) (hb : (l.length + m.length) * bytes ≤ 140737488355328) (hn : l.length + m.length ≤ 4611686018427387904) {f : V × H → Option (V × H)} {Q : V → H → Prop}
    (c : ∀ z2 id2 off2 g, Hok g → Sl (l ++ m) g z2 id2 off2 → (id2 = 0 ∨ g.lo ≤ id2) → (m = [] ∧ id2 = id ∨ h.next ≤ id2) → Fr S h0 g → Fr [id] h g → Wp (f (.sl z2 id2 off2 (l ++ m).length, g)) Q) :
    Wp ((apL sz bytes h (.sl z id off n) (.sl z' id' off' n')).bind f) Q := by
  subst ln; subst lm; subst hs
  obtain ⟨z2, id2, off2, g, e, F', s2, own2, fr⟩ := apL_sl hk s own s' hb hn
  rw [e]
  refine c z2 id2 off2 g (F'.ok hk) s2 (by rw [F'.1]; exact own2) ?_ (F.tr F' (by simpa using hid)) F'
  rcases fr with fr | fr
  · exact .inl ⟨fr.1, fr.2.1⟩
  · exact .inr fr
/-! Steps at the head alone (the kernel is slow where a rewriting goes through a long text). -/
theorem Wp.b {α : Type} {o : Option α} {a : α} {f : α → Option (V × H)} {Q : V → H → Prop} (e : o = some a) (w : Wp (f a) Q) : Wp (o.bind f) Q := by
  subst e; exact w
theorem Wp.on {c : Bool} {a b : Option (V × H)} {Q : V → H → Prop} (t : c = true → Wp a Q) (f : c = false → Wp b Q) : Wp (onB (.bool c) a b) Q := by
  cases c
  · exact f rfl
  · exact t rfl
theorem Wp.sp {c : Bool} {a b : Option (V × H)} {Q : V → H → Prop} (t : c = true → Wp a Q) (f : c = false → Wp b Q) : Wp (spB (.bool c) a b) Q := by
  cases c
  · exact f rfl
  · exact t rfl
theorem Wp.onT {c : Bool} {a b : Option (V × H)} {Q : V → H → Prop} (t : c = true) (w : Wp a Q) : Wp (onB (.bool c) a b) Q := by subst t; exact w
theorem Wp.onF {c : Bool} {a b : Option (V × H)} {Q : V → H → Prop} (t : c = false) (w : Wp b Q) : Wp (onB (.bool c) a b) Q := by subst t; exact w
theorem Wp.spT {c : Bool} {a b : Option (V × H)} {Q : V → H → Prop} (t : c = true) (w : Wp a Q) : Wp (spB (.bool c) a b) Q := by subst t; exact w
theorem Wp.spF {c : Bool} {a b : Option (V × H)} {Q : V → H → Prop} (t : c = false) (w : Wp b Q) : Wp (spB (.bool c) a b) Q := by subst t; exact w
theorem Wp.r1 {o : Option V} {v : V} {h : H} {Q : V → H → Prop} (e : o = some v) (hv : ntup v = some v) (q : Q v h) : Wp ((ress [o]).map fun vs => (tupOf vs, h)) Q :=
  ⟨v, h, by subst e; simp [hv], q⟩
theorem Wp.r2 {o o' : Option V} {v u : V} {h : H} {Q : V → H → Prop} (e : o = some v) (e' : o' = some u) (hv : ntup v = some v) (hu : ntup u = some u) (q : Q (.tup [v, u]) h) : Wp ((ress [o, o']).map fun vs => (tupOf vs, h)) Q :=
  ⟨.tup [v, u], h, by subst e; subst e'; simp [hv, hu], q⟩
theorem Wp.r3 {o o' o2 : Option V} {v u t : V} {h : H} {Q : V → H → Prop} (e : o = some v) (e' : o' = some u) (e2 : o2 = some t) (hv : ntup v = some v) (hu : ntup u = some u) (ht : ntup t = some t) (q : Q (.tup [v, u, t]) h) : Wp ((ress [o, o', o2]).map fun vs => (tupOf vs, h)) Q :=
  ⟨.tup [v, u, t], h, by subst e; subst e'; subst e2; simp [hv, hu, ht], q⟩
theorem Wp.r0 {h : H} {Q : V → H → Prop} (q : Q (.tup []) h) : Wp ((ress []).map fun vs => (tupOf vs, h)) Q := ⟨.tup [], h, rfl, q⟩
instance : Enc Int := ⟨1, by decide, fun n => [.int .i64 n], fun _ => rfl⟩
instance : Enc ByteArray := ⟨1, by decide, fun n => [.str n], fun _ => rfl⟩
instance : Enc UInt8 := ⟨1, by decide, fun n => [.int .u8 n.toNat], fun _ => rfl⟩
end Go.Proofs.Ythoabddfionmoaa.AH
namespace Go.Proofs.Ythoabddfionmoaa.AH
open Go Go.RowKit
def insP (size bytes : Nat) : List V → H → Option (V × H)
  | [s, i, x], h => match s, i, x with
    | .sl ez id off len, .int .i64 i, .sl xz xid xoff xlen => (srcL h size (.sl xz xid xoff xlen)).bind fun y =>
      if 0 ≤ i ∧ i ≤ (len : Int) then
        if xlen = 0 then some (.sl ez id off len, h) else
        if xid ≠ id ∧ h.lo ≤ xid ∧ xid ≠ 0 ∧ xz = size ∧ size ≠ 1 ∧ (len + y.1) * bytes ≤ 140737488355328 ∧ len + y.1 ≤ 4611686018427387904 ∧ (id = 0 ∧ len = 0 ∨ (h.blk id).alive = true ∧ h.lo ≤ id ∧ id ≠ 0 ∧ ez = size) then
          (if len = 0 then some [] else h.load id off (len * size)).bind fun olds => some (.sl size h.next 0 (len + y.1), (h.new (olds.take (i.toNat * size) ++ y.2 ++ olds.drop (i.toNat * size))).kill id)
        else none
      else none
    | _, _, _ => none
  | _, _ => none
def delP (size : Nat) : List V → H → Option (V × H)
  | [s, i, j], h => match s, i, j with
    | .sl ez id off len, .int .i64 i, .int .i64 j =>
      if 0 ≤ i ∧ i ≤ j ∧ j ≤ (len : Int) then
        if i = j then some (.sl ez id off len, h) else
        if (h.blk id).alive = true ∧ h.lo ≤ id ∧ id ≠ 0 ∧ ez = size then
          (h.load id off (len * size)).bind fun olds => some (.sl size h.next 0 (len - (j.toNat - i.toNat)), (h.new (olds.take (i.toNat * size) ++ olds.drop (j.toNat * size))).kill id)
        else none
      else none
    | _, _, _ => none
  | _, _ => none
section
variable {α : Type} [Enc α]
theorem insP_sl {l m : List α} {h : H} {z id off z' id' off' bytes i : Nat} (hk : Hok h) (s : Sl l h z id off) (own : id = 0 ∨ h.lo ≤ id) (s' : Sl m h z' id' off') (hm : m ≠ []) (hx : id' ≠ id) (hxo : h.lo ≤ id') (h1 : Enc.sz α ≠ 1)
    (hi : i ≤ l.length) (hb : (l.length + m.length) * bytes ≤ 140737488355328) (hn : l.length + m.length ≤ 4611686018427387904) :
    ∃ h', insP (Enc.sz α) bytes [.sl z id off l.length, .int .i64 i, .sl z' id' off' m.length] h = some (.sl (Enc.sz α) h.next 0 (l.take i ++ m ++ l.drop i).length, h') ∧ Fr [id] h h' ∧ Sl (l.take i ++ m ++ l.drop i) h' (Enc.sz α) h.next 0 ∧ h'.next = h.next + 1 := by
  have hml : 0 < m.length := List.length_pos_iff.2 hm
  rcases s' with s' | s'
  · exact absurd s'.2 hm
  have hsz := Enc.pos (α := α)
  have hne : ¬ m.length * Enc.sz α = 0 := Nat.ne_of_gt (Nat.mul_pos hml hsz)
  have e1 : srcL h (Enc.sz α) (.sl z' id' off' m.length) = some (m.length, flat m) := by
    simp only [srcL, if_neg s'.1, if_neg hne]
    rw [load_eq, s'.2.2.2]; rfl
  have hc : id' ≠ id ∧ h.lo ≤ id' ∧ id' ≠ 0 ∧ z' = Enc.sz α ∧ Enc.sz α ≠ 1 ∧ (l.length + m.length) * bytes ≤ 140737488355328 ∧ l.length + m.length ≤ 4611686018427387904 ∧ (id = 0 ∧ l.length = 0 ∨ (h.blk id).alive = true ∧ h.lo ≤ id ∧ id ≠ 0 ∧ z = Enc.sz α) := by
    refine ⟨hx, hxo, s'.1, s'.2.1, h1, hb, hn, ?_⟩
    rcases s with s | s
    · exact .inl ⟨s.1, by rw [s.2]; rfl⟩
    · exact .inr ⟨(bload_alive s.2.2.2).1, own.resolve_left s.1, s.1, s.2.1⟩
  have e2 : (if l.length = 0 then some [] else h.load id off (l.length * Enc.sz α)) = some (flat l) := by
    split
    · rename_i h0; rw [List.length_eq_zero_iff.1 h0]; rfl
    · rename_i h0
      rcases s with s | s
      · rw [s.2] at h0; exact absurd rfl h0
      · rw [load_eq]; exact s.2.2.2
  have hl : (l.take i ++ m ++ l.drop i).length = l.length + m.length := by
    simp only [List.length_append, List.length_take, List.length_drop]; omega
  refine ⟨(h.new ((flat l).take (i * Enc.sz α) ++ flat m ++ (flat l).drop (i * Enc.sz α))).kill id, ?_, ?_, ?_, rfl⟩
  · have hi' : (0 : Int) ≤ (i : Int) ∧ (i : Int) ≤ (l.length : Int) := ⟨by omega, by omega⟩
    simp only [insP, e1, Option.bind_some, if_neg (Nat.ne_of_gt hml), e2, hl, if_pos hi', Int.toNat_natCast]
    rw [if_pos hc]
  · exact (Fr.refl _ _).new _ |>.kill (.inl (by simp))
  · refine .inr ⟨by have := hk.1; have := hk.2; omega, rfl, by simp, ?_⟩
    have hid : h.next ≠ id := by
      rcases s with s | s
      · have := hk.1; have := hk.2; omega
      · have := s.2.2.1; omega
    rw [flat_take, flat_drop, ← flat_append, ← flat_append]
    rw [blk_kill, if_neg hid, blk_new, if_pos rfl, bload_mk _ _ _ _ (by rw [flat_len]; omega)]
    rw [List.drop_zero, List.take_of_length_le (by rw [flat_len]; exact Nat.le_refl _)]
theorem delP_sl {l : List α} {h : H} {z id off i j : Nat} (hk : Hok h) (s : Sl l h z id off) (own : id = 0 ∨ h.lo ≤ id)
    (hi : i < j) (hj : j ≤ l.length) :
    ∃ h', delP (Enc.sz α) [.sl z id off l.length, .int .i64 i, .int .i64 j] h = some (.sl (Enc.sz α) h.next 0 (l.take i ++ l.drop j).length, h') ∧ Fr [id] h h' ∧ Sl (l.take i ++ l.drop j) h' (Enc.sz α) h.next 0 ∧ h'.next = h.next + 1 := by
  rcases s with s | s
  · rw [s.2] at hj; simp at hj; omega
  have hl : (l.take i ++ l.drop j).length = l.length - (j - i) := by
    simp only [List.length_append, List.length_take, List.length_drop]; omega
  refine ⟨(h.new ((flat l).take (i * Enc.sz α) ++ (flat l).drop (j * Enc.sz α))).kill id, ?_, ?_, ?_, rfl⟩
  · have hi' : (0 : Int) ≤ (i : Int) ∧ (i : Int) ≤ (j : Int) ∧ (j : Int) ≤ (l.length : Int) := ⟨by omega, by omega, by omega⟩
    have hij : ¬ (i : Int) = (j : Int) := by omega
    have hc : (h.blk id).alive = true ∧ h.lo ≤ id ∧ id ≠ 0 ∧ z = Enc.sz α := ⟨(bload_alive s.2.2.2).1, own.resolve_left s.1, s.1, s.2.1⟩
    simp only [delP, if_pos hi', if_neg hij, load_eq, s.2.2.2, Option.bind_some, hl, Int.toNat_natCast]
    rw [if_pos hc]
  · exact (Fr.refl _ _).new _ |>.kill (.inl (by simp))
  · refine .inr ⟨by have := hk.1; have := hk.2; omega, rfl, by simp, ?_⟩
    have hid : h.next ≠ id := by have := s.2.2.1; omega
    rw [flat_take, flat_drop, ← flat_append]
    rw [blk_kill, if_neg hid, blk_new, if_pos rfl, bload_mk _ _ _ _ (by rw [flat_len]; omega)]
    rw [List.drop_zero, List.take_of_length_le (by rw [flat_len]; exact Nat.le_refl _)]
end
end Go.Proofs.Ythoabddfionmoaa.AH
namespace Go.Proofs.Ythoabddfionmoaa.AH
open Go Go.RowKit
def annT : Nat → Nat → List Nat
  | 3 => an3
  | 4 => an4
  | 5 => an5
  | 6 => an6
  | 7 => an7
  | 8 => an8
  | 9 => an9
  | 10 => an10
  | 11 => an11
  | 12 => an12
  | 13 => an13
  | 14 => an14
  | 15 => an15
  | 16 => an16
  | 17 => an17
  | 18 => an18
  | 19 => an19
  | 20 => an20
  | 21 => an21
  | 22 => an22
  | 23 => an23
  | 24 => an24
  | 25 => an25
  | 26 => an26
  | 27 => an27
  | 28 => an28
  | 29 => an29
  | 30 => an30
  | 31 => an31
  | 32 => an32
  | 33 => an33
  | 34 => an34
  | 35 => an35
  | 36 => an36
  | 37 => an37
  | 38 => an38
  | 39 => an39
  | 40 => an40
  | 41 => an41
  | 42 => an42
  | 43 => an43
  | 44 => an44
  | 45 => an45
  | 46 => an46
  | 47 => an47
  | 48 => an48
  | 49 => an49
  | 50 => an50
  | 51 => an51
  | 52 => an52
  | 53 => an53
  | 54 => an54
  | 55 => an55
  | 56 => an56
  | 57 => an57
  | 58 => an58
  | 59 => an59
  | 60 => an60
  | 61 => an61
  | 62 => an62
  | 63 => an63
  | 64 => an64
  | 65 => an65
  | 66 => an66
  | 67 => an67
  | 68 => an68
  | 69 => an69
  | 70 => an70
  | 71 => an71
  | 72 => an72
  | 73 => an73
  | 75 => an75
  | 76 => an76
  | 77 => an77
  | 78 => an78
  | 79 => an79
  | 80 => an80
  | 81 => an81
  | 82 => an82
  | 83 => an83
  | 84 => an84
  | 85 => an85
  | 86 => an86
  | 87 => an87
  | 88 => an88
  | 89 => an89
  | 94 => an94
  | 95 => an95
  | _ => fun _ => []
noncomputable def primT : Nat → Option (List V → H → Option (V × H))
  | 74 => some (insP 4 40)
  | 92 => some (insP 2 32)
  | 93 => some (delP 2)
  | _ => none
noncomputable def R : CallF := run Try.prog primT annT
theorem R3 {args : List V} {h : H} {Q : V → H → Prop} (hl : Nat.ble args.length Try.f3.ntmps = true) (w : Wp (bodyK Try.prog R an3 Try.f3 (bodyOf Try.f3) args h) Q) : Wp (R 3 args h) Q :=
  Wp.run rfl (fn := Try.f3) (by kernel_rfl) (by kernel_rfl) (by kernel_rfl) (Nat.le_of_ble_eq_true hl) w
theorem R4 {args : List V} {h : H} {Q : V → H → Prop} (hl : Nat.ble args.length Try.f4.ntmps = true) (w : Wp (bodyK Try.prog R an4 Try.f4 (bodyOf Try.f4) args h) Q) : Wp (R 4 args h) Q :=
  Wp.run rfl (fn := Try.f4) (by kernel_rfl) (by kernel_rfl) (by kernel_rfl) (Nat.le_of_ble_eq_true hl) w
theorem R5 {args : List V} {h : H} {Q : V → H → Prop} (hl : Nat.ble args.length Try.f5.ntmps = true) (w : Wp (bodyK Try.prog R an5 Try.f5 (bodyOf Try.f5) args h) Q) : Wp (R 5 args h) Q :=
  Wp.run rfl (fn := Try.f5) (by kernel_rfl) (by kernel_rfl) (by kernel_rfl) (Nat.le_of_ble_eq_true hl) w
theorem R6 {args : List V} {h : H} {Q : V → H → Prop} (hl : Nat.ble args.length Try.f6.ntmps = true) (w : Wp (bodyK Try.prog R an6 Try.f6 (bodyOf Try.f6) args h) Q) : Wp (R 6 args h) Q :=
  Wp.run rfl (fn := Try.f6) (by kernel_rfl) (by kernel_rfl) (by kernel_rfl) (Nat.le_of_ble_eq_true hl) w
theorem R7 {args : List V} {h : H} {Q : V → H → Prop} (hl : Nat.ble args.length Try.f7.ntmps = true) (w : Wp (bodyK Try.prog R an7 Try.f7 (bodyOf Try.f7) args h) Q) : Wp (R 7 args h) Q :=
  Wp.run rfl (fn := Try.f7) (by kernel_rfl) (by kernel_rfl) (by kernel_rfl) (Nat.le_of_ble_eq_true hl) w
theorem R8 {args : List V} {h : H} {Q : V → H → Prop} (hl : Nat.ble args.length Try.f8.ntmps = true) (w : Wp (bodyK Try.prog R an8 Try.f8 (bodyOf Try.f8) args h) Q) : Wp (R 8 args h) Q :=
  Wp.run rfl (fn := Try.f8) (by kernel_rfl) (by kernel_rfl) (by kernel_rfl) (Nat.le_of_ble_eq_true hl) w
theorem R9 {args : List V} {h : H} {Q : V → H → Prop} (hl : Nat.ble args.length Try.f9.ntmps = true) (w : Wp (bodyK Try.prog R an9 Try.f9 (bodyOf Try.f9) args h) Q) : Wp (R 9 args h) Q :=
  Wp.run rfl (fn := Try.f9) (by kernel_rfl) (by kernel_rfl) (by kernel_rfl) (Nat.le_of_ble_eq_true hl) w
theorem R10 {args : List V} {h : H} {Q : V → H → Prop} (hl : Nat.ble args.length Try.f10.ntmps = true) (w : Wp (bodyK Try.prog R an10 Try.f10 (bodyOf Try.f10) args h) Q) : Wp (R 10 args h) Q :=
  Wp.run rfl (fn := Try.f10) (by kernel_rfl) (by kernel_rfl) (by kernel_rfl) (Nat.le_of_ble_eq_true hl) w
theorem R11 {args : List V} {h : H} {Q : V → H → Prop} (hl : Nat.ble args.length Try.f11.ntmps = true) (w : Wp (bodyK Try.prog R an11 Try.f11 (bodyOf Try.f11) args h) Q) : Wp (R 11 args h) Q :=
  Wp.run rfl (fn := Try.f11) (by kernel_rfl) (by kernel_rfl) (by kernel_rfl) (Nat.le_of_ble_eq_true hl) w
theorem R12 {args : List V} {h : H} {Q : V → H → Prop} (hl : Nat.ble args.length Try.f12.ntmps = true) (w : Wp (bodyK Try.prog R an12 Try.f12 (bodyOf Try.f12) args h) Q) : Wp (R 12 args h) Q :=
  Wp.run rfl (fn := Try.f12) (by kernel_rfl) (by kernel_rfl) (by kernel_rfl) (Nat.le_of_ble_eq_true hl) w
theorem R13 {args : List V} {h : H} {Q : V → H → Prop} (hl : Nat.ble args.length Try.f13.ntmps = true) (w : Wp (bodyK Try.prog R an13 Try.f13 (bodyOf Try.f13) args h) Q) : Wp (R 13 args h) Q :=
  Wp.run rfl (fn := Try.f13) (by kernel_rfl) (by kernel_rfl) (by kernel_rfl) (Nat.le_of_ble_eq_true hl) w
theorem R14 {args : List V} {h : H} {Q : V → H → Prop} (hl : Nat.ble args.length Try.f14.ntmps = true) (w : Wp (bodyK Try.prog R an14 Try.f14 (bodyOf Try.f14) args h) Q) : Wp (R 14 args h) Q :=
  Wp.run rfl (fn := Try.f14) (by kernel_rfl) (by kernel_rfl) (by kernel_rfl) (Nat.le_of_ble_eq_true hl) w
theorem R15 {args : List V} {h : H} {Q : V → H → Prop} (hl : Nat.ble args.length Try.f15.ntmps = true) (w : Wp (bodyK Try.prog R an15 Try.f15 (bodyOf Try.f15) args h) Q) : Wp (R 15 args h) Q :=
  Wp.run rfl (fn := Try.f15) (by kernel_rfl) (by kernel_rfl) (by kernel_rfl) (Nat.le_of_ble_eq_true hl) w
theorem R16 {args : List V} {h : H} {Q : V → H → Prop} (hl : Nat.ble args.length Try.f16.ntmps = true) (w : Wp (bodyK Try.prog R an16 Try.f16 (bodyOf Try.f16) args h) Q) : Wp (R 16 args h) Q :=
  Wp.run rfl (fn := Try.f16) (by kernel_rfl) (by kernel_rfl) (by kernel_rfl) (Nat.le_of_ble_eq_true hl) w
theorem R17 {args : List V} {h : H} {Q : V → H → Prop} (hl : Nat.ble args.length Try.f17.ntmps = true) (w : Wp (bodyK Try.prog R an17 Try.f17 (bodyOf Try.f17) args h) Q) : Wp (R 17 args h) Q :=
  Wp.run rfl (fn := Try.f17) (by kernel_rfl) (by kernel_rfl) (by kernel_rfl) (Nat.le_of_ble_eq_true hl) w
theorem R18 {args : List V} {h : H} {Q : V → H → Prop} (hl : Nat.ble args.length Try.f18.ntmps = true) (w : Wp (bodyK Try.prog R an18 Try.f18 (bodyOf Try.f18) args h) Q) : Wp (R 18 args h) Q :=
  Wp.run rfl (fn := Try.f18) (by kernel_rfl) (by kernel_rfl) (by kernel_rfl) (Nat.le_of_ble_eq_true hl) w
theorem R19 {args : List V} {h : H} {Q : V → H → Prop} (hl : Nat.ble args.length Try.f19.ntmps = true) (w : Wp (bodyK Try.prog R an19 Try.f19 (bodyOf Try.f19) args h) Q) : Wp (R 19 args h) Q :=
  Wp.run rfl (fn := Try.f19) (by kernel_rfl) (by kernel_rfl) (by kernel_rfl) (Nat.le_of_ble_eq_true hl) w
theorem R20 {args : List V} {h : H} {Q : V → H → Prop} (hl : Nat.ble args.length Try.f20.ntmps = true) (w : Wp (bodyK Try.prog R an20 Try.f20 (bodyOf Try.f20) args h) Q) : Wp (R 20 args h) Q :=
  Wp.run rfl (fn := Try.f20) (by kernel_rfl) (by kernel_rfl) (by kernel_rfl) (Nat.le_of_ble_eq_true hl) w
theorem R21 {args : List V} {h : H} {Q : V → H → Prop} (hl : Nat.ble args.length Try.f21.ntmps = true) (w : Wp (bodyK Try.prog R an21 Try.f21 (bodyOf Try.f21) args h) Q) : Wp (R 21 args h) Q :=
  Wp.run rfl (fn := Try.f21) (by kernel_rfl) (by kernel_rfl) (by kernel_rfl) (Nat.le_of_ble_eq_true hl) w
theorem R22 {args : List V} {h : H} {Q : V → H → Prop} (hl : Nat.ble args.length Try.f22.ntmps = true) (w : Wp (bodyK Try.prog R an22 Try.f22 (bodyOf Try.f22) args h) Q) : Wp (R 22 args h) Q :=
  Wp.run rfl (fn := Try.f22) (by kernel_rfl) (by kernel_rfl) (by kernel_rfl) (Nat.le_of_ble_eq_true hl) w
theorem R23 {args : List V} {h : H} {Q : V → H → Prop} (hl : Nat.ble args.length Try.f23.ntmps = true) (w : Wp (bodyK Try.prog R an23 Try.f23 (bodyOf Try.f23) args h) Q) : Wp (R 23 args h) Q :=
  Wp.run rfl (fn := Try.f23) (by kernel_rfl) (by kernel_rfl) (by kernel_rfl) (Nat.le_of_ble_eq_true hl) w
theorem R24 {args : List V} {h : H} {Q : V → H → Prop} (hl : Nat.ble args.length Try.f24.ntmps = true) (w : Wp (bodyK Try.prog R an24 Try.f24 (bodyOf Try.f24) args h) Q) : Wp (R 24 args h) Q :=
  Wp.run rfl (fn := Try.f24) (by kernel_rfl) (by kernel_rfl) (by kernel_rfl) (Nat.le_of_ble_eq_true hl) w
theorem R25 {args : List V} {h : H} {Q : V → H → Prop} (hl : Nat.ble args.length Try.f25.ntmps = true) (w : Wp (bodyK Try.prog R an25 Try.f25 (bodyOf Try.f25) args h) Q) : Wp (R 25 args h) Q :=
  Wp.run rfl (fn := Try.f25) (by kernel_rfl) (by kernel_rfl) (by kernel_rfl) (Nat.le_of_ble_eq_true hl) w
theorem R26 {args : List V} {h : H} {Q : V → H → Prop} (hl : Nat.ble args.length Try.f26.ntmps = true) (w : Wp (bodyK Try.prog R an26 Try.f26 (bodyOf Try.f26) args h) Q) : Wp (R 26 args h) Q :=
  Wp.run rfl (fn := Try.f26) (by kernel_rfl) (by kernel_rfl) (by kernel_rfl) (Nat.le_of_ble_eq_true hl) w
theorem R27 {args : List V} {h : H} {Q : V → H → Prop} (hl : Nat.ble args.length Try.f27.ntmps = true) (w : Wp (bodyK Try.prog R an27 Try.f27 (bodyOf Try.f27) args h) Q) : Wp (R 27 args h) Q :=
  Wp.run rfl (fn := Try.f27) (by kernel_rfl) (by kernel_rfl) (by kernel_rfl) (Nat.le_of_ble_eq_true hl) w
theorem R28 {args : List V} {h : H} {Q : V → H → Prop} (hl : Nat.ble args.length Try.f28.ntmps = true) (w : Wp (bodyK Try.prog R an28 Try.f28 (bodyOf Try.f28) args h) Q) : Wp (R 28 args h) Q :=
  Wp.run rfl (fn := Try.f28) (by kernel_rfl) (by kernel_rfl) (by kernel_rfl) (Nat.le_of_ble_eq_true hl) w
theorem R29 {args : List V} {h : H} {Q : V → H → Prop} (hl : Nat.ble args.length Try.f29.ntmps = true) (w : Wp (bodyK Try.prog R an29 Try.f29 (bodyOf Try.f29) args h) Q) : Wp (R 29 args h) Q :=
  Wp.run rfl (fn := Try.f29) (by kernel_rfl) (by kernel_rfl) (by kernel_rfl) (Nat.le_of_ble_eq_true hl) w
theorem R30 {args : List V} {h : H} {Q : V → H → Prop} (hl : Nat.ble args.length Try.f30.ntmps = true) (w : Wp (bodyK Try.prog R an30 Try.f30 (bodyOf Try.f30) args h) Q) : Wp (R 30 args h) Q :=
  Wp.run rfl (fn := Try.f30) (by kernel_rfl) (by kernel_rfl) (by kernel_rfl) (Nat.le_of_ble_eq_true hl) w
theorem R31 {args : List V} {h : H} {Q : V → H → Prop} (hl : Nat.ble args.length Try.f31.ntmps = true) (w : Wp (bodyK Try.prog R an31 Try.f31 (bodyOf Try.f31) args h) Q) : Wp (R 31 args h) Q :=
  Wp.run rfl (fn := Try.f31) (by kernel_rfl) (by kernel_rfl) (by kernel_rfl) (Nat.le_of_ble_eq_true hl) w
theorem R32 {args : List V} {h : H} {Q : V → H → Prop} (hl : Nat.ble args.length Try.f32.ntmps = true) (w : Wp (bodyK Try.prog R an32 Try.f32 (bodyOf Try.f32) args h) Q) : Wp (R 32 args h) Q :=
  Wp.run rfl (fn := Try.f32) (by kernel_rfl) (by kernel_rfl) (by kernel_rfl) (Nat.le_of_ble_eq_true hl) w
theorem R33 {args : List V} {h : H} {Q : V → H → Prop} (hl : Nat.ble args.length Try.f33.ntmps = true) (w : Wp (bodyK Try.prog R an33 Try.f33 (bodyOf Try.f33) args h) Q) : Wp (R 33 args h) Q :=
  Wp.run rfl (fn := Try.f33) (by kernel_rfl) (by kernel_rfl) (by kernel_rfl) (Nat.le_of_ble_eq_true hl) w
theorem R34 {args : List V} {h : H} {Q : V → H → Prop} (hl : Nat.ble args.length Try.f34.ntmps = true) (w : Wp (bodyK Try.prog R an34 Try.f34 (bodyOf Try.f34) args h) Q) : Wp (R 34 args h) Q :=
  Wp.run rfl (fn := Try.f34) (by kernel_rfl) (by kernel_rfl) (by kernel_rfl) (Nat.le_of_ble_eq_true hl) w
theorem R35 {args : List V} {h : H} {Q : V → H → Prop} (hl : Nat.ble args.length Try.f35.ntmps = true) (w : Wp (bodyK Try.prog R an35 Try.f35 (bodyOf Try.f35) args h) Q) : Wp (R 35 args h) Q :=
  Wp.run rfl (fn := Try.f35) (by kernel_rfl) (by kernel_rfl) (by kernel_rfl) (Nat.le_of_ble_eq_true hl) w
theorem R36 {args : List V} {h : H} {Q : V → H → Prop} (hl : Nat.ble args.length Try.f36.ntmps = true) (w : Wp (bodyK Try.prog R an36 Try.f36 (bodyOf Try.f36) args h) Q) : Wp (R 36 args h) Q :=
  Wp.run rfl (fn := Try.f36) (by kernel_rfl) (by kernel_rfl) (by kernel_rfl) (Nat.le_of_ble_eq_true hl) w
theorem R37 {args : List V} {h : H} {Q : V → H → Prop} (hl : Nat.ble args.length Try.f37.ntmps = true) (w : Wp (bodyK Try.prog R an37 Try.f37 (bodyOf Try.f37) args h) Q) : Wp (R 37 args h) Q :=
  Wp.run rfl (fn := Try.f37) (by kernel_rfl) (by kernel_rfl) (by kernel_rfl) (Nat.le_of_ble_eq_true hl) w
theorem R38 {args : List V} {h : H} {Q : V → H → Prop} (hl : Nat.ble args.length Try.f38.ntmps = true) (w : Wp (bodyK Try.prog R an38 Try.f38 (bodyOf Try.f38) args h) Q) : Wp (R 38 args h) Q :=
  Wp.run rfl (fn := Try.f38) (by kernel_rfl) (by kernel_rfl) (by kernel_rfl) (Nat.le_of_ble_eq_true hl) w
theorem R39 {args : List V} {h : H} {Q : V → H → Prop} (hl : Nat.ble args.length Try.f39.ntmps = true) (w : Wp (bodyK Try.prog R an39 Try.f39 (bodyOf Try.f39) args h) Q) : Wp (R 39 args h) Q :=
  Wp.run rfl (fn := Try.f39) (by kernel_rfl) (by kernel_rfl) (by kernel_rfl) (Nat.le_of_ble_eq_true hl) w
theorem R40 {args : List V} {h : H} {Q : V → H → Prop} (hl : Nat.ble args.length Try.f40.ntmps = true) (w : Wp (bodyK Try.prog R an40 Try.f40 (bodyOf Try.f40) args h) Q) : Wp (R 40 args h) Q :=
  Wp.run rfl (fn := Try.f40) (by kernel_rfl) (by kernel_rfl) (by kernel_rfl) (Nat.le_of_ble_eq_true hl) w
theorem R41 {args : List V} {h : H} {Q : V → H → Prop} (hl : Nat.ble args.length Try.f41.ntmps = true) (w : Wp (bodyK Try.prog R an41 Try.f41 (bodyOf Try.f41) args h) Q) : Wp (R 41 args h) Q :=
  Wp.run rfl (fn := Try.f41) (by kernel_rfl) (by kernel_rfl) (by kernel_rfl) (Nat.le_of_ble_eq_true hl) w
theorem R42 {args : List V} {h : H} {Q : V → H → Prop} (hl : Nat.ble args.length Try.f42.ntmps = true) (w : Wp (bodyK Try.prog R an42 Try.f42 (bodyOf Try.f42) args h) Q) : Wp (R 42 args h) Q :=
  Wp.run rfl (fn := Try.f42) (by kernel_rfl) (by kernel_rfl) (by kernel_rfl) (Nat.le_of_ble_eq_true hl) w
theorem R43 {args : List V} {h : H} {Q : V → H → Prop} (hl : Nat.ble args.length Try.f43.ntmps = true) (w : Wp (bodyK Try.prog R an43 Try.f43 (bodyOf Try.f43) args h) Q) : Wp (R 43 args h) Q :=
  Wp.run rfl (fn := Try.f43) (by kernel_rfl) (by kernel_rfl) (by kernel_rfl) (Nat.le_of_ble_eq_true hl) w
theorem R44 {args : List V} {h : H} {Q : V → H → Prop} (hl : Nat.ble args.length Try.f44.ntmps = true) (w : Wp (bodyK Try.prog R an44 Try.f44 (bodyOf Try.f44) args h) Q) : Wp (R 44 args h) Q :=
  Wp.run rfl (fn := Try.f44) (by kernel_rfl) (by kernel_rfl) (by kernel_rfl) (Nat.le_of_ble_eq_true hl) w
theorem R45 {args : List V} {h : H} {Q : V → H → Prop} (hl : Nat.ble args.length Try.f45.ntmps = true) (w : Wp (bodyK Try.prog R an45 Try.f45 (bodyOf Try.f45) args h) Q) : Wp (R 45 args h) Q :=
  Wp.run rfl (fn := Try.f45) (by kernel_rfl) (by kernel_rfl) (by kernel_rfl) (Nat.le_of_ble_eq_true hl) w
theorem R46 {args : List V} {h : H} {Q : V → H → Prop} (hl : Nat.ble args.length Try.f46.ntmps = true) (w : Wp (bodyK Try.prog R an46 Try.f46 (bodyOf Try.f46) args h) Q) : Wp (R 46 args h) Q :=
  Wp.run rfl (fn := Try.f46) (by kernel_rfl) (by kernel_rfl) (by kernel_rfl) (Nat.le_of_ble_eq_true hl) w
theorem R47 {args : List V} {h : H} {Q : V → H → Prop} (hl : Nat.ble args.length Try.f47.ntmps = true) (w : Wp (bodyK Try.prog R an47 Try.f47 (bodyOf Try.f47) args h) Q) : Wp (R 47 args h) Q :=
  Wp.run rfl (fn := Try.f47) (by kernel_rfl) (by kernel_rfl) (by kernel_rfl) (Nat.le_of_ble_eq_true hl) w
theorem R48 {args : List V} {h : H} {Q : V → H → Prop} (hl : Nat.ble args.length Try.f48.ntmps = true) (w : Wp (bodyK Try.prog R an48 Try.f48 (bodyOf Try.f48) args h) Q) : Wp (R 48 args h) Q :=
  Wp.run rfl (fn := Try.f48) (by kernel_rfl) (by kernel_rfl) (by kernel_rfl) (Nat.le_of_ble_eq_true hl) w
theorem R49 {args : List V} {h : H} {Q : V → H → Prop} (hl : Nat.ble args.length Try.f49.ntmps = true) (w : Wp (bodyK Try.prog R an49 Try.f49 (bodyOf Try.f49) args h) Q) : Wp (R 49 args h) Q :=
  Wp.run rfl (fn := Try.f49) (by kernel_rfl) (by kernel_rfl) (by kernel_rfl) (Nat.le_of_ble_eq_true hl) w
theorem R50 {args : List V} {h : H} {Q : V → H → Prop} (hl : Nat.ble args.length Try.f50.ntmps = true) (w : Wp (bodyK Try.prog R an50 Try.f50 (bodyOf Try.f50) args h) Q) : Wp (R 50 args h) Q :=
  Wp.run rfl (fn := Try.f50) (by kernel_rfl) (by kernel_rfl) (by kernel_rfl) (Nat.le_of_ble_eq_true hl) w
theorem R51 {args : List V} {h : H} {Q : V → H → Prop} (hl : Nat.ble args.length Try.f51.ntmps = true) (w : Wp (bodyK Try.prog R an51 Try.f51 (bodyOf Try.f51) args h) Q) : Wp (R 51 args h) Q :=
  Wp.run rfl (fn := Try.f51) (by kernel_rfl) (by kernel_rfl) (by kernel_rfl) (Nat.le_of_ble_eq_true hl) w
theorem R52 {args : List V} {h : H} {Q : V → H → Prop} (hl : Nat.ble args.length Try.f52.ntmps = true) (w : Wp (bodyK Try.prog R an52 Try.f52 (bodyOf Try.f52) args h) Q) : Wp (R 52 args h) Q :=
  Wp.run rfl (fn := Try.f52) (by kernel_rfl) (by kernel_rfl) (by kernel_rfl) (Nat.le_of_ble_eq_true hl) w
theorem R53 {args : List V} {h : H} {Q : V → H → Prop} (hl : Nat.ble args.length Try.f53.ntmps = true) (w : Wp (bodyK Try.prog R an53 Try.f53 (bodyOf Try.f53) args h) Q) : Wp (R 53 args h) Q :=
  Wp.run rfl (fn := Try.f53) (by kernel_rfl) (by kernel_rfl) (by kernel_rfl) (Nat.le_of_ble_eq_true hl) w
theorem R54 {args : List V} {h : H} {Q : V → H → Prop} (hl : Nat.ble args.length Try.f54.ntmps = true) (w : Wp (bodyK Try.prog R an54 Try.f54 (bodyOf Try.f54) args h) Q) : Wp (R 54 args h) Q :=
  Wp.run rfl (fn := Try.f54) (by kernel_rfl) (by kernel_rfl) (by kernel_rfl) (Nat.le_of_ble_eq_true hl) w
theorem R55 {args : List V} {h : H} {Q : V → H → Prop} (hl : Nat.ble args.length Try.f55.ntmps = true) (w : Wp (bodyK Try.prog R an55 Try.f55 (bodyOf Try.f55) args h) Q) : Wp (R 55 args h) Q :=
  Wp.run rfl (fn := Try.f55) (by kernel_rfl) (by kernel_rfl) (by kernel_rfl) (Nat.le_of_ble_eq_true hl) w
theorem R56 {args : List V} {h : H} {Q : V → H → Prop} (hl : Nat.ble args.length Try.f56.ntmps = true) (w : Wp (bodyK Try.prog R an56 Try.f56 (bodyOf Try.f56) args h) Q) : Wp (R 56 args h) Q :=
  Wp.run rfl (fn := Try.f56) (by kernel_rfl) (by kernel_rfl) (by kernel_rfl) (Nat.le_of_ble_eq_true hl) w
theorem R57 {args : List V} {h : H} {Q : V → H → Prop} (hl : Nat.ble args.length Try.f57.ntmps = true) (w : Wp (bodyK Try.prog R an57 Try.f57 (bodyOf Try.f57) args h) Q) : Wp (R 57 args h) Q :=
  Wp.run rfl (fn := Try.f57) (by kernel_rfl) (by kernel_rfl) (by kernel_rfl) (Nat.le_of_ble_eq_true hl) w
theorem R58 {args : List V} {h : H} {Q : V → H → Prop} (hl : Nat.ble args.length Try.f58.ntmps = true) (w : Wp (bodyK Try.prog R an58 Try.f58 (bodyOf Try.f58) args h) Q) : Wp (R 58 args h) Q :=
  Wp.run rfl (fn := Try.f58) (by kernel_rfl) (by kernel_rfl) (by kernel_rfl) (Nat.le_of_ble_eq_true hl) w
theorem R59 {args : List V} {h : H} {Q : V → H → Prop} (hl : Nat.ble args.length Try.f59.ntmps = true) (w : Wp (bodyK Try.prog R an59 Try.f59 (bodyOf Try.f59) args h) Q) : Wp (R 59 args h) Q :=
  Wp.run rfl (fn := Try.f59) (by kernel_rfl) (by kernel_rfl) (by kernel_rfl) (Nat.le_of_ble_eq_true hl) w
theorem R60 {args : List V} {h : H} {Q : V → H → Prop} (hl : Nat.ble args.length Try.f60.ntmps = true) (w : Wp (bodyK Try.prog R an60 Try.f60 (bodyOf Try.f60) args h) Q) : Wp (R 60 args h) Q :=
  Wp.run rfl (fn := Try.f60) (by kernel_rfl) (by kernel_rfl) (by kernel_rfl) (Nat.le_of_ble_eq_true hl) w
theorem R61 {args : List V} {h : H} {Q : V → H → Prop} (hl : Nat.ble args.length Try.f61.ntmps = true) (w : Wp (bodyK Try.prog R an61 Try.f61 (bodyOf Try.f61) args h) Q) : Wp (R 61 args h) Q :=
  Wp.run rfl (fn := Try.f61) (by kernel_rfl) (by kernel_rfl) (by kernel_rfl) (Nat.le_of_ble_eq_true hl) w
theorem R62 {args : List V} {h : H} {Q : V → H → Prop} (hl : Nat.ble args.length Try.f62.ntmps = true) (w : Wp (bodyK Try.prog R an62 Try.f62 (bodyOf Try.f62) args h) Q) : Wp (R 62 args h) Q :=
  Wp.run rfl (fn := Try.f62) (by kernel_rfl) (by kernel_rfl) (by kernel_rfl) (Nat.le_of_ble_eq_true hl) w
theorem R63 {args : List V} {h : H} {Q : V → H → Prop} (hl : Nat.ble args.length Try.f63.ntmps = true) (w : Wp (bodyK Try.prog R an63 Try.f63 (bodyOf Try.f63) args h) Q) : Wp (R 63 args h) Q :=
  Wp.run rfl (fn := Try.f63) (by kernel_rfl) (by kernel_rfl) (by kernel_rfl) (Nat.le_of_ble_eq_true hl) w
theorem R64 {args : List V} {h : H} {Q : V → H → Prop} (hl : Nat.ble args.length Try.f64.ntmps = true) (w : Wp (bodyK Try.prog R an64 Try.f64 (bodyOf Try.f64) args h) Q) : Wp (R 64 args h) Q :=
  Wp.run rfl (fn := Try.f64) (by kernel_rfl) (by kernel_rfl) (by kernel_rfl) (Nat.le_of_ble_eq_true hl) w
theorem R65 {args : List V} {h : H} {Q : V → H → Prop} (hl : Nat.ble args.length Try.f65.ntmps = true) (w : Wp (bodyK Try.prog R an65 Try.f65 (bodyOf Try.f65) args h) Q) : Wp (R 65 args h) Q :=
  Wp.run rfl (fn := Try.f65) (by kernel_rfl) (by kernel_rfl) (by kernel_rfl) (Nat.le_of_ble_eq_true hl) w
theorem R66 {args : List V} {h : H} {Q : V → H → Prop} (hl : Nat.ble args.length Try.f66.ntmps = true) (w : Wp (bodyK Try.prog R an66 Try.f66 (bodyOf Try.f66) args h) Q) : Wp (R 66 args h) Q :=
  Wp.run rfl (fn := Try.f66) (by kernel_rfl) (by kernel_rfl) (by kernel_rfl) (Nat.le_of_ble_eq_true hl) w
theorem R67 {args : List V} {h : H} {Q : V → H → Prop} (hl : Nat.ble args.length Try.f67.ntmps = true) (w : Wp (bodyK Try.prog R an67 Try.f67 (bodyOf Try.f67) args h) Q) : Wp (R 67 args h) Q :=
  Wp.run rfl (fn := Try.f67) (by kernel_rfl) (by kernel_rfl) (by kernel_rfl) (Nat.le_of_ble_eq_true hl) w
theorem R68 {args : List V} {h : H} {Q : V → H → Prop} (hl : Nat.ble args.length Try.f68.ntmps = true) (w : Wp (bodyK Try.prog R an68 Try.f68 (bodyOf Try.f68) args h) Q) : Wp (R 68 args h) Q :=
  Wp.run rfl (fn := Try.f68) (by kernel_rfl) (by kernel_rfl) (by kernel_rfl) (Nat.le_of_ble_eq_true hl) w
theorem R69 {args : List V} {h : H} {Q : V → H → Prop} (hl : Nat.ble args.length Try.f69.ntmps = true) (w : Wp (bodyK Try.prog R an69 Try.f69 (bodyOf Try.f69) args h) Q) : Wp (R 69 args h) Q :=
  Wp.run rfl (fn := Try.f69) (by kernel_rfl) (by kernel_rfl) (by kernel_rfl) (Nat.le_of_ble_eq_true hl) w
theorem R70 {args : List V} {h : H} {Q : V → H → Prop} (hl : Nat.ble args.length Try.f70.ntmps = true) (w : Wp (bodyK Try.prog R an70 Try.f70 (bodyOf Try.f70) args h) Q) : Wp (R 70 args h) Q :=
  Wp.run rfl (fn := Try.f70) (by kernel_rfl) (by kernel_rfl) (by kernel_rfl) (Nat.le_of_ble_eq_true hl) w
theorem R71 {args : List V} {h : H} {Q : V → H → Prop} (hl : Nat.ble args.length Try.f71.ntmps = true) (w : Wp (bodyK Try.prog R an71 Try.f71 (bodyOf Try.f71) args h) Q) : Wp (R 71 args h) Q :=
  Wp.run rfl (fn := Try.f71) (by kernel_rfl) (by kernel_rfl) (by kernel_rfl) (Nat.le_of_ble_eq_true hl) w
theorem R72 {args : List V} {h : H} {Q : V → H → Prop} (hl : Nat.ble args.length Try.f72.ntmps = true) (w : Wp (bodyK Try.prog R an72 Try.f72 (bodyOf Try.f72) args h) Q) : Wp (R 72 args h) Q :=
  Wp.run rfl (fn := Try.f72) (by kernel_rfl) (by kernel_rfl) (by kernel_rfl) (Nat.le_of_ble_eq_true hl) w
theorem R73 {args : List V} {h : H} {Q : V → H → Prop} (hl : Nat.ble args.length Try.f73.ntmps = true) (w : Wp (bodyK Try.prog R an73 Try.f73 (bodyOf Try.f73) args h) Q) : Wp (R 73 args h) Q :=
  Wp.run rfl (fn := Try.f73) (by kernel_rfl) (by kernel_rfl) (by kernel_rfl) (Nat.le_of_ble_eq_true hl) w
theorem R75 {args : List V} {h : H} {Q : V → H → Prop} (hl : Nat.ble args.length Try.f75.ntmps = true) (w : Wp (bodyK Try.prog R an75 Try.f75 (bodyOf Try.f75) args h) Q) : Wp (R 75 args h) Q :=
  Wp.run rfl (fn := Try.f75) (by kernel_rfl) (by kernel_rfl) (by kernel_rfl) (Nat.le_of_ble_eq_true hl) w
theorem R76 {args : List V} {h : H} {Q : V → H → Prop} (hl : Nat.ble args.length Try.f76.ntmps = true) (w : Wp (bodyK Try.prog R an76 Try.f76 (bodyOf Try.f76) args h) Q) : Wp (R 76 args h) Q :=
  Wp.run rfl (fn := Try.f76) (by kernel_rfl) (by kernel_rfl) (by kernel_rfl) (Nat.le_of_ble_eq_true hl) w
theorem R77 {args : List V} {h : H} {Q : V → H → Prop} (hl : Nat.ble args.length Try.f77.ntmps = true) (w : Wp (bodyK Try.prog R an77 Try.f77 (bodyOf Try.f77) args h) Q) : Wp (R 77 args h) Q :=
  Wp.run rfl (fn := Try.f77) (by kernel_rfl) (by kernel_rfl) (by kernel_rfl) (Nat.le_of_ble_eq_true hl) w
theorem R78 {args : List V} {h : H} {Q : V → H → Prop} (hl : Nat.ble args.length Try.f78.ntmps = true) (w : Wp (bodyK Try.prog R an78 Try.f78 (bodyOf Try.f78) args h) Q) : Wp (R 78 args h) Q :=
  Wp.run rfl (fn := Try.f78) (by kernel_rfl) (by kernel_rfl) (by kernel_rfl) (Nat.le_of_ble_eq_true hl) w
theorem R79 {args : List V} {h : H} {Q : V → H → Prop} (hl : Nat.ble args.length Try.f79.ntmps = true) (w : Wp (bodyK Try.prog R an79 Try.f79 (bodyOf Try.f79) args h) Q) : Wp (R 79 args h) Q :=
  Wp.run rfl (fn := Try.f79) (by kernel_rfl) (by kernel_rfl) (by kernel_rfl) (Nat.le_of_ble_eq_true hl) w
theorem R80 {args : List V} {h : H} {Q : V → H → Prop} (hl : Nat.ble args.length Try.f80.ntmps = true) (w : Wp (bodyK Try.prog R an80 Try.f80 (bodyOf Try.f80) args h) Q) : Wp (R 80 args h) Q :=
  Wp.run rfl (fn := Try.f80) (by kernel_rfl) (by kernel_rfl) (by kernel_rfl) (Nat.le_of_ble_eq_true hl) w
theorem R81 {args : List V} {h : H} {Q : V → H → Prop} (hl : Nat.ble args.length Try.f81.ntmps = true) (w : Wp (bodyK Try.prog R an81 Try.f81 (bodyOf Try.f81) args h) Q) : Wp (R 81 args h) Q :=
  Wp.run rfl (fn := Try.f81) (by kernel_rfl) (by kernel_rfl) (by kernel_rfl) (Nat.le_of_ble_eq_true hl) w
theorem R82 {args : List V} {h : H} {Q : V → H → Prop} (hl : Nat.ble args.length Try.f82.ntmps = true) (w : Wp (bodyK Try.prog R an82 Try.f82 (bodyOf Try.f82) args h) Q) : Wp (R 82 args h) Q :=
  Wp.run rfl (fn := Try.f82) (by kernel_rfl) (by kernel_rfl) (by kernel_rfl) (Nat.le_of_ble_eq_true hl) w
theorem R83 {args : List V} {h : H} {Q : V → H → Prop} (hl : Nat.ble args.length Try.f83.ntmps = true) (w : Wp (bodyK Try.prog R an83 Try.f83 (bodyOf Try.f83) args h) Q) : Wp (R 83 args h) Q :=
  Wp.run rfl (fn := Try.f83) (by kernel_rfl) (by kernel_rfl) (by kernel_rfl) (Nat.le_of_ble_eq_true hl) w
theorem R84 {args : List V} {h : H} {Q : V → H → Prop} (hl : Nat.ble args.length Try.f84.ntmps = true) (w : Wp (bodyK Try.prog R an84 Try.f84 (bodyOf Try.f84) args h) Q) : Wp (R 84 args h) Q :=
  Wp.run rfl (fn := Try.f84) (by kernel_rfl) (by kernel_rfl) (by kernel_rfl) (Nat.le_of_ble_eq_true hl) w
theorem R85 {args : List V} {h : H} {Q : V → H → Prop} (hl : Nat.ble args.length Try.f85.ntmps = true) (w : Wp (bodyK Try.prog R an85 Try.f85 (bodyOf Try.f85) args h) Q) : Wp (R 85 args h) Q :=
  Wp.run rfl (fn := Try.f85) (by kernel_rfl) (by kernel_rfl) (by kernel_rfl) (Nat.le_of_ble_eq_true hl) w
theorem R86 {args : List V} {h : H} {Q : V → H → Prop} (hl : Nat.ble args.length Try.f86.ntmps = true) (w : Wp (bodyK Try.prog R an86 Try.f86 (bodyOf Try.f86) args h) Q) : Wp (R 86 args h) Q :=
  Wp.run rfl (fn := Try.f86) (by kernel_rfl) (by kernel_rfl) (by kernel_rfl) (Nat.le_of_ble_eq_true hl) w
theorem R87 {args : List V} {h : H} {Q : V → H → Prop} (hl : Nat.ble args.length Try.f87.ntmps = true) (w : Wp (bodyK Try.prog R an87 Try.f87 (bodyOf Try.f87) args h) Q) : Wp (R 87 args h) Q :=
  Wp.run rfl (fn := Try.f87) (by kernel_rfl) (by kernel_rfl) (by kernel_rfl) (Nat.le_of_ble_eq_true hl) w
theorem R88 {args : List V} {h : H} {Q : V → H → Prop} (hl : Nat.ble args.length Try.f88.ntmps = true) (w : Wp (bodyK Try.prog R an88 Try.f88 (bodyOf Try.f88) args h) Q) : Wp (R 88 args h) Q :=
  Wp.run rfl (fn := Try.f88) (by kernel_rfl) (by kernel_rfl) (by kernel_rfl) (Nat.le_of_ble_eq_true hl) w
theorem R89 {args : List V} {h : H} {Q : V → H → Prop} (hl : Nat.ble args.length Try.f89.ntmps = true) (w : Wp (bodyK Try.prog R an89 Try.f89 (bodyOf Try.f89) args h) Q) : Wp (R 89 args h) Q :=
  Wp.run rfl (fn := Try.f89) (by kernel_rfl) (by kernel_rfl) (by kernel_rfl) (Nat.le_of_ble_eq_true hl) w
theorem R94 {args : List V} {h : H} {Q : V → H → Prop} (hl : Nat.ble args.length Try.f94.ntmps = true) (w : Wp (bodyK Try.prog R an94 Try.f94 (bodyOf Try.f94) args h) Q) : Wp (R 94 args h) Q :=
  Wp.run rfl (fn := Try.f94) (by kernel_rfl) (by kernel_rfl) (by kernel_rfl) (Nat.le_of_ble_eq_true hl) w
theorem R95 {args : List V} {h : H} {Q : V → H → Prop} (hl : Nat.ble args.length Try.f95.ntmps = true) (w : Wp (bodyK Try.prog R an95 Try.f95 (bodyOf Try.f95) args h) Q) : Wp (R 95 args h) Q :=
  Wp.run rfl (fn := Try.f95) (by kernel_rfl) (by kernel_rfl) (by kernel_rfl) (Nat.le_of_ble_eq_true hl) w
end Go.Proofs.Ythoabddfionmoaa.AH
namespace Go.Proofs.Ythoabddfionmoaa.AH
open Go Go.RowKit

/-- From h0 to g; L: the blocks made since (or handed over), each with its number and its cells. -/
structure Mm (h0 g : H) (L : List (Nat × List V)) : Prop where
  k0 : Hok h0
  k : Hok g
  F : Fr [] h0 g
  own : ∀ x ∈ L, (x.1 = 0 ∧ x.2 = []) ∨ (x.1 ≠ 0 ∧ h0.next ≤ x.1 ∧ x.1 < g.next ∧ ∃ ver, g.blk x.1 = ⟨x.2, ver, true⟩)
  nd : L.Pairwise fun a b => a.1 ≠ b.1 ∨ a.1 = 0
theorem Mm.base {h : H} (k : Hok h) : Mm h h [] := ⟨k, k, Fr.refl _ _, fun x hx => (by cases hx), List.Pairwise.nil⟩
theorem Mm.sub {h0 g : H} {L M : List (Nat × List V)} (s : Mm h0 g L) (m : M.Sublist L) : Mm h0 g M :=
  ⟨s.k0, s.k, s.F, fun x hx => s.own x (m.mem hx), s.nd.sublist m⟩
theorem Mm.tail {h0 g : H} {x : Nat × List V} {L : List (Nat × List V)} (s : Mm h0 g (x :: L)) : Mm h0 g L := s.sub (List.sublist_cons_self _ _)
theorem Mm.perm {h0 g : H} {L M : List (Nat × List V)} (s : Mm h0 g L) (m : L.Perm M) : Mm h0 g M := by
  refine ⟨s.k0, s.k, s.F, fun x hx => s.own x (m.mem_iff.2 hx), (m.pairwise_iff ?_).1 s.nd⟩
  intro a b h
  rcases h with h | h
  · exact .inl (Ne.symm h)
  · by_cases e : a.1 = b.1
    · exact .inr (by omega)
    · exact .inl (Ne.symm e)
/-- Another machine's work behind this one's. -/
theorem Mm.call {h0 g g' : H} {L M : List (Nat × List V)} (s : Mm h0 g L) (t : Mm g g' M) : Mm h0 g' (M ++ L) := by
  have hn := s.F.2.1
  refine ⟨s.k0, t.k, s.F.trans0 t.F, fun x hx => ?_, List.pairwise_append.2 ⟨t.nd, s.nd, fun a ha b hb => ?_⟩⟩
  · rcases List.mem_append.1 hx with hx | hx
    · exact (t.own x hx).imp (fun q => q) fun ⟨a, b, c, d⟩ => ⟨a, Nat.le_trans hn b, c, d⟩
    · refine (s.own x hx).imp (fun q => q) fun ⟨a, b, c, ver, d⟩ => ⟨a, b, Nat.lt_of_lt_of_le c t.F.2.1, ver, ?_⟩
      rw [t.F.blk0 a c, d]
  · rcases t.own a ha with ⟨q, _⟩ | ⟨_, q, _⟩
    · exact .inr q
    · rcases s.own b hb with ⟨r, _⟩ | ⟨r0, _, r, _⟩
      · by_cases e : a.1 = 0
        · exact .inr e
        · exact .inl (by omega)
      · exact .inl (by omega)
theorem Mm.call0 {h0 g g' : H} {L : List (Nat × List V)} (s : Mm h0 g L) (k : Hok g') (F : Fr [] g g') : Mm h0 g' L := s.call (M := []) ⟨s.k, k, F, fun x hx => (by cases hx), List.Pairwise.nil⟩
theorem Mm.fr0 {h0 g g' : H} {L : List (Nat × List V)} (s : Mm h0 g L) (F : Fr [] g g') : Mm h0 g' L := s.call0 (F.ok s.k) F
/-- One block of L takes other cells, or another block takes its place. -/
theorem Mm.set {h0 g g' : H} {L : List (Nat × List V)} (s : Mm h0 g L) {i : Nat} {x : Nat × List V} (hx : L[i]? = some x) {y : Nat × List V} (F : Fr [x.1] g g') (k : Hok g')
    (hy : (y.1 = 0 ∧ y.2 = []) ∨ ((y.1 = x.1 ∨ g.next ≤ y.1) ∧ y.1 ≠ 0 ∧ y.1 < g'.next ∧ ∃ ver, g'.blk y.1 = ⟨y.2, ver, true⟩)) : Mm h0 g' (L.set i y) := by
  have hn := s.F.2.1
  have hlt : i < L.length := (List.getElem?_eq_some_iff.1 hx).1
  have hxm : x ∈ L := List.mem_of_getElem? hx
  have hgi : L[i] = x := (List.getElem?_eq_some_iff.1 hx).2
  have hsx : x.1 = 0 ∨ h0.next ≤ x.1 := (s.own x hxm).imp (fun q => q.1) fun q => q.2.1
  have hne : ∀ j (hj : j < L.length), j ≠ i → L[j].1 ≠ x.1 ∨ L[j].1 = 0 := fun j hj e => by
    rcases Nat.lt_or_gt_of_ne e with e | e
    · have := List.pairwise_iff_getElem.1 s.nd j i hj hlt e; rw [hgi] at this; exact this
    · have := List.pairwise_iff_getElem.1 s.nd i j hlt hj e
      rw [hgi] at this
      rcases this with q | q
      · exact .inl (Ne.symm q)
      · by_cases e2 : L[j].1 = 0
        · exact .inr e2
        · exact .inl (by omega)
  refine ⟨s.k0, k, ⟨F.1.trans s.F.1, Nat.le_trans hn F.2.1, fun j h0' h1 _ => ?_⟩, fun z hz => ?_, List.pairwise_iff_getElem.2 fun a b ha hb hab => ?_⟩
  · rw [F.2.2 j h0' (by omega) (by rw [List.mem_singleton]; omega)]; exact s.F.2.2 j h0' h1 (by simp)
  · obtain ⟨j, hj, rfl⟩ := List.getElem_of_mem hz
    rw [List.length_set] at hj
    by_cases e : j = i
    · subst e
      rw [List.getElem_set_self]
      refine hy.imp (fun q => q) fun ⟨a, b, c, d⟩ => ⟨b, ?_, c, d⟩
      rcases a with a | a <;> omega
    · rw [List.getElem_set_ne (Ne.symm e)]
      refine (s.own _ (List.getElem_mem hj)).imp (fun q => q) fun ⟨a, b, c, ver, d⟩ => ⟨a, b, Nat.lt_of_lt_of_le c F.2.1, ver, ?_⟩
      rcases hne j hj e with q | q
      · rw [F.2.2 _ a c (by rw [List.mem_singleton]; exact q), d]
      · exact absurd q a
  · have ha' : a < L.length := by simpa using ha
    have hb' : b < L.length := by simpa using hb
    have key : ∀ j (hj : j < L.length), j ≠ i → L[j].1 ≠ y.1 ∨ L[j].1 = 0 ∨ y.1 = 0 := fun j hj e => by
      rcases hy with ⟨q, _⟩ | ⟨q, _⟩
      · exact .inr (.inr q)
      · rcases q with q | q
        · rw [q]; rcases hne j hj e with r | r
          · exact .inl r
          · exact .inr (.inl r)
        · rcases s.own _ (List.getElem_mem hj) with ⟨r, _⟩ | ⟨_, _, r, _⟩
          · exact .inr (.inl r)
          · exact .inl (by omega)
    by_cases e1 : a = i
    · subst e1
      rw [List.getElem_set_self, List.getElem_set_ne (by omega)]
      by_cases e0 : y.1 = 0
      · exact .inr e0
      · rcases key b hb' (by omega) with q | q | q
        · exact .inl (Ne.symm q)
        · exact .inl (by omega)
        · exact absurd q e0
    · rw [List.getElem_set_ne (Ne.symm e1)]
      by_cases e2 : b = i
      · subst e2
        rw [List.getElem_set_self]
        rcases key a ha' e1 with q | q | q
        · exact .inl q
        · exact .inr q
        · by_cases e0 : L[a].1 = 0
          · exact .inr e0
          · exact .inl (by omega)
      · rw [List.getElem_set_ne (Ne.symm e2)]
        exact List.pairwise_iff_getElem.1 s.nd a b ha' hb' hab
theorem Mm.cons {h0 g g' : H} {L : List (Nat × List V)} (s : Mm h0 g L) {y : Nat × List V} (F : Fr [] g g') (k : Hok g') (hy : g.next ≤ y.1 ∧ y.1 ≠ 0 ∧ y.1 < g'.next ∧ ∃ ver, g'.blk y.1 = ⟨y.2, ver, true⟩) : Mm h0 g' (y :: L) :=
  s.call (M := [y]) ⟨s.k, k, F, fun x hx => by rw [List.mem_singleton] at hx; subst hx; exact .inr ⟨hy.2.1, hy.1, hy.2.2⟩, List.pairwise_singleton _ _⟩
theorem Mm.blk {h0 g : H} {L : List (Nat × List V)} (s : Mm h0 g L) {i : Nat} {b : Nat} {cs : List V} (hx : L[i]? = some (b, cs)) (hb : b ≠ 0) : h0.next ≤ b ∧ b < g.next ∧ g.lo ≤ b ∧ ∃ ver, g.blk b = ⟨cs, ver, true⟩ := by
  rcases s.own _ (List.mem_of_getElem? hx) with ⟨q, _⟩ | ⟨q1, q2, q3, q4⟩
  · exact absurd q hb
  · have h1 := s.F.1
    have h2 := s.k0.2
    exact ⟨q2, q3, by omega, q4⟩
/-! ### Values: slices that are owned, slices that are read -/
section
variable {α : Type} [Enc α]
/-- An owned slice: the block id, whole. -/
def OV (v : V) (l : List α) (id : Nat) : Prop := ∃ z, v = .sl z id 0 l.length ∧ (id = 0 ∧ l = [] ∨ id ≠ 0 ∧ z = Enc.sz α)
/-- A slice that reads l. -/
def RV (h : H) (v : V) (l : List α) : Prop := ∃ z id off, v = .sl z id off l.length ∧ Sl l h z id off
theorem OV.nil : OV (.sl 0 0 0 0) ([] : List α) 0 := ⟨0, rfl, .inl ⟨rfl, rfl⟩⟩
theorem RV.nil (h : H) : RV h (.sl 0 0 0 0) ([] : List α) := ⟨0, 0, 0, rfl, .inl ⟨rfl, rfl⟩⟩
theorem RV.fr {h h' : H} {v : V} {l : List α} (r : RV h v l) (F : Fr [] h h') : RV h' v l := by
  obtain ⟨z, id, off, rfl, s⟩ := r; exact ⟨z, id, off, rfl, s.fr0 F⟩
theorem Mm.rv {h0 g : H} {L : List (Nat × List V)} (s : Mm h0 g L) (i : Nat) {v : V} {l : List α} {id : Nat} (o : OV v l id) (hx : L[i]? = some (id, flat l)) : RV g v l := by
  obtain ⟨z, rfl, o⟩ := o
  rcases o with ⟨rfl, rfl⟩ | ⟨h1, h2⟩
  · exact ⟨z, 0, 0, rfl, .inl ⟨rfl, rfl⟩⟩
  · obtain ⟨_, q2, _, ver, q4⟩ := s.blk hx h1
    refine ⟨z, id, 0, rfl, .inr ⟨h1, h2, q2, ?_⟩⟩
    rw [q4, bload_mk _ _ _ _ (by rw [flat_len]; omega), List.drop_zero, List.take_of_length_le (by rw [flat_len]; exact Nat.le_refl _)]
theorem Mm.bor {h0 g : H} {L : List (Nat × List V)} (s : Mm h0 g L) {v : V} {l : List α} (r : RV h0 v l) : RV g v l := r.fr s.F
theorem RV.len {h : H} {v : V} {l : List α} (r : RV h v l) : lenL v = some (.int .i64 l.length) := by obtain ⟨z, id, off, rfl, s⟩ := r; rfl
theorem OV.len {v : V} {l : List α} {id : Nat} (r : OV v l id) : lenL v = some (.int .i64 l.length) := by obtain ⟨z, rfl, s⟩ := r; rfl
/-- A read of an element: its address, its cells. -/
theorem RV.at {h : H} {v : V} {l : List α} (r : RV h v l) {i : Nat} (hi : i < l.length) : ∃ b o, b ≠ 0 ∧ b < h.next ∧ iA (Enc.sz α) v (.int .i64 i) = some (.ptr b o) ∧ bload (h.blk b) o (Enc.sz α) = some (Enc.enc l[i]) := by
  obtain ⟨z, id, off, rfl, s⟩ := r
  have p := s.pos hi
  exact ⟨id, off + i * Enc.sz α, p.1, p.2.2, iA_sl hi, s.get hi⟩
theorem RV.slH {h : H} {v : V} {l : List α} (r : RV h v l) {b : Nat} (hb : b ≤ l.length) : ∃ v', slL (Enc.sz α) v none (some (.int .i64 b)) none = some v' ∧ RV h v' (l.take b) := by
  obtain ⟨z, id, off, rfl, s⟩ := r
  refine ⟨_, slL_hi s.zor hb, z, id, off, ?_, by simpa using s.sub 0 b (by omega)⟩
  rw [List.length_take, Nat.min_eq_left hb]
theorem RV.slL {h : H} {v : V} {l : List α} (r : RV h v l) {a : Nat} (ha : a ≤ l.length) : ∃ v', slL (Enc.sz α) v (some (.int .i64 a)) none none = some v' ∧ RV h v' (l.drop a) := by
  obtain ⟨z, id, off, rfl, s⟩ := r
  refine ⟨_, slL_lo s.zor ha, z, id, off + a * Enc.sz α, by rw [List.length_drop], ?_⟩
  have := s.sub a (l.length - a) (by omega)
  rwa [List.take_of_length_le (by simp)] at this
theorem RV.slB {h : H} {v : V} {l : List α} (r : RV h v l) {a b : Nat} (ha : a ≤ b) (hb : b ≤ l.length) : ∃ v', AH.slL (Enc.sz α) v (some (.int .i64 a)) (some (.int .i64 b)) none = some v' ∧ RV h v' ((l.drop a).take (b - a)) := by
  obtain ⟨z, id, off, rfl, s⟩ := r
  refine ⟨_, slL_some s.zor ha hb, z, id, off + a * Enc.sz α, by rw [List.length_take, List.length_drop, Nat.min_eq_left (by omega)], s.sub a (b - a) (by omega)⟩
end
/-- A load of one cell, of n cells, out of a box. -/
theorem Mm.ld1 {h0 g : H} {L : List (Nat × List V)} (s : Mm h0 g L) (i : Nat) {b : Nat} {cs : List V} (hx : L[i]? = some (b, cs)) (hb : b ≠ 0) (o : Nat) {c : V} (hc : cs[o]? = some c) : AH.ld1 g (.ptr b o) = some c := by
  obtain ⟨_, _, _, ver, q⟩ := s.blk hx hb
  have hlt := (List.getElem?_eq_some_iff.1 hc).1
  rw [ld1_ptr, q, bload_mk _ _ _ _ (by omega)]
  show ((cs.drop o).take 1).head? = some c
  rw [List.head?_take, List.head?_drop, hc]; rfl
theorem Mm.ldn {h0 g : H} {L : List (Nat × List V)} (s : Mm h0 g L) (i : Nat) {b : Nat} {cs : List V} (hx : L[i]? = some (b, cs)) (hb : b ≠ 0) (o n : Nat) {ds : List V} (ho : o + n ≤ cs.length) (hd : (cs.drop o).take n = ds) : AH.ldn n g (.ptr b o) = some (.agg ds) := by
  obtain ⟨_, _, _, ver, q⟩ := s.blk hx hb
  rw [ldn_ptr, q, bload_mk _ _ _ _ ho, hd]; rfl
theorem fA_p {o b : Nat} (hb : b ≠ 0) : fA o (.ptr b 0) = some (.ptr b o) := by
  show (if b = 0 then none else some (V.ptr b (0 + o))) = _
  rw [if_neg hb, Nat.zero_add]
/-! ### Steps -/
theorem Wp.box {h0 g : H} {L : List (Nat × List V)} (s : Mm h0 g L) {v : V} {cs : List V} (hv : cellsV v = some cs) {f : V → H → Option (V × H)} {Q : V → H → Prop}
    (c : ∀ b g', b ≠ 0 → Fr [] g g' → Mm h0 g' ((b, cs) :: L) → Wp (f (.ptr b 0) g') Q) : Wp (bxK g v f) Q := by
  rw [bxK_eq, hv]
  exact c g.next (g.new cs) s.k.pos ((Fr.refl _ _).new _) (s.cons ((Fr.refl _ _).new _) (s.k.new _) ⟨Nat.le_refl _, s.k.pos, Nat.lt_succ_self _, _, by rw [blk_new, if_pos rfl]⟩)
theorem Wp.alo {h0 g : H} {L : List (Nat × List V)} (s : Mm h0 g L) {z : List V} {f : V → H → Option (V × H)} {Q : V → H → Prop}
    (c : ∀ b g', b ≠ 0 → Fr [] g g' → Mm h0 g' ((b, z) :: L) → Wp (f (.ptr b 0) g') Q) : Wp (alK z g f) Q :=
  c g.next (g.new z) s.k.pos ((Fr.refl _ _).new _) (s.cons ((Fr.refl _ _).new _) (s.k.new _) ⟨Nat.le_refl _, s.k.pos, Nat.lt_succ_self _, _, by rw [blk_new, if_pos rfl]⟩)
/-- A store into a box: 'ds' are the box's cells behind it. -/
theorem Wp.sto {h0 g : H} {L : List (Nat × List V)} (s : Mm h0 g L) (i : Nat) {b : Nat} {cs : List V} (hx : L[i]? = some (b, cs)) (hb : b ≠ 0) {n o : Nat} {v : V} {vs ds : List V} (hv : cellsV v = some vs) (hn : vs.length = n) (ho : o + n ≤ cs.length)
    (hd : cs.take o ++ vs ++ cs.drop (o + n) = ds) {f : H → Option (V × H)} {Q : V → H → Prop} (c : ∀ g', Fr [b] g g' → Mm h0 g' (L.set i (b, ds)) → Wp (f g') Q) : Wp (stN n g (.ptr b o) v f) Q := by
  obtain ⟨_, q2, q3, ver, q⟩ := s.blk hx hb
  refine Wp.st hv hn (by rw [q]) q3 (by rw [q]; exact ho) ?_
  intro g' ver' gn gb F'
  refine c g' F' (s.set hx F' (F'.ok s.k) (.inr ⟨.inl rfl, hb, by rw [gn]; exact q2, ver', ?_⟩))
  rw [gb, q, ← hd, hn]
section
variable {α : Type} [Enc α]
/-- A slice of listed elements. -/
theorem Wp.lit {h0 g : H} {L : List (Nat × List V)} (s : Mm h0 g L) (l : List α) {z : List V} {ps : List (Nat × Nat × V)} {sz n : Nat} (hv : bld z ps = some (flat l)) (hs : sz = Enc.sz α) (hn : n = l.length) {f : V → H → Option (V × H)} {Q : V → H → Prop}
    (c : ∀ v id g', OV v l id → id ≠ 0 → Fr [] g g' → Mm h0 g' ((id, flat l) :: L) → Wp (f v g') Q) : Wp (bsK sz n g z ps f) Q := by
  subst hs; subst hn
  rw [bsK_eq, hv]
  exact c _ g.next (g.new (flat l)) ⟨_, rfl, .inr ⟨s.k.pos, rfl⟩⟩ s.k.pos ((Fr.refl _ _).new _) (s.cons ((Fr.refl _ _).new _) (s.k.new _) ⟨Nat.le_refl _, s.k.pos, Nat.lt_succ_self _, _, by rw [blk_new, if_pos rfl]⟩)
/-- Append, to a slice that is owned. -/
theorem Wp.appx {h0 g : H} {L : List (Nat × List V)} (s : Mm h0 g L) (i : Nat) {v w : V} {l m : List α} {id : Nat} (o : OV v l id) (hx : L[i]? = some (id, flat l)) (r : RV g w m) {sz bytes : Nat} (hs : sz = Enc.sz α)
    (hb : (l.length + m.length) * bytes ≤ 140737488355328) (hn : l.length + m.length ≤ 4611686018427387904) {f : V × H → Option (V × H)} {Q : V → H → Prop}
    (c : ∀ v' id' g', OV v' (l ++ m) id' → (m = [] ∧ id' = id ∨ g.next ≤ id') → Fr [id] g g' → Mm h0 g' (L.set i (id', flat (l ++ m))) → Wp (f (v', g')) Q) : Wp ((apL sz bytes g v w).bind f) Q := by
  subst hs
  have hrv := s.rv i o hx
  obtain ⟨z, rfl, o⟩ := o
  obtain ⟨z', id', off', rfl, s'⟩ := r
  obtain ⟨z1, i1, o1, e, sl⟩ := hrv
  simp only [V.sl.injEq] at e
  obtain ⟨rfl, rfl, rfl, _⟩ := e
  have own : id = 0 ∨ g.lo ≤ id := by
    rcases o with o | o
    · exact .inl o.1
    · exact .inr (s.blk hx o.1).2.2.1
  by_cases hm : m = []
  · subst hm
    have : apL (Enc.sz α) bytes g (.sl z id 0 l.length) (.sl z' id' off' ([] : List α).length) = some (.sl z id 0 l.length, g) := by
      have e1 : srcL g (Enc.sz α) (.sl z' id' off' ([] : List α).length) = some (0, []) := by
        simp only [srcL, List.length_nil, Nat.zero_mul, if_true]
        split <;> rfl
      simp only [apL, e1, Option.bind_some, if_true]
    rw [this]
    refine c _ id g ⟨z, by simp, by simpa using o⟩ (.inl ⟨rfl, rfl⟩) (Fr.refl _ _) ?_
    have e2 : L.set i (id, flat (l ++ [])) = L := by
      rw [List.append_nil]
      obtain ⟨h1, h2⟩ := List.getElem?_eq_some_iff.1 hx
      rw [← h2]; exact List.set_getElem_self h1
    rw [e2]; exact s
  · obtain ⟨z2, id2, off2, g2, e, F', s2, own2, fr⟩ := apL_sl s.k sl own s' hb hn
    have hml : 0 < m.length := List.length_pos_iff.2 hm
    rw [e]
    rcases fr with fr | fr
    · exact absurd fr.1 hm
    -- the block that append made, from its own text
    have hne : ¬ m.length * Enc.sz α = 0 := Nat.ne_of_gt (Nat.mul_pos hml Enc.pos)
    obtain ⟨n1, n2, n3, n4⟩ : id2 ≠ 0 ∧ z2 = Enc.sz α ∧ off2 = 0 ∧ g2.blk id2 = ⟨flat (l ++ m), (g.blk id2).ver, true⟩ ∧ id2 < g2.next := by
      rcases s' with s' | s'
      · exact absurd s'.2 hm
      have e1 : srcL g (Enc.sz α) (.sl z' id' off' m.length) = some (m.length, flat m) := by
        simp only [srcL, if_neg s'.1, if_neg hne]; rw [load_eq, s'.2.2.2]; rfl
      simp only [apL, e1, Option.bind_some, if_neg (Nat.ne_of_gt hml)] at e
      split at e
      · have e2 : (if l.length = 0 then some [] else g.load id 0 (l.length * Enc.sz α)) = some (flat l) := by
          split
          · rename_i q; rw [List.length_eq_zero_iff.1 q]; rfl
          · rename_i q
            rcases sl with sl | sl
            · rw [sl.2] at q; exact absurd rfl q
            · rw [load_eq]; exact sl.2.2.2
        rw [e2] at e
        simp only [Option.bind_some, Option.some.injEq, Prod.mk.injEq, V.sl.injEq] at e
        obtain ⟨⟨rfl, rfl, rfl, _⟩, rfl⟩ := e
        have hid : g.next ≠ id := by
          rcases sl with sl | sl
          · rw [sl.1]; exact s.k.pos
          · have := sl.2.2.1; omega
        refine ⟨s.k.pos, rfl, rfl, ?_, by simp⟩
        rw [blk_kill, if_neg hid, blk_new, if_pos rfl, flat_append]
      · cases e
    subst n2 n3
    refine c _ id2 g2 ⟨_, rfl, .inr ⟨n1, rfl⟩⟩ (.inr fr) F' (s.set hx F' (F'.ok s.k) (.inr ⟨.inr fr, n1, n4.2, _, n4.1⟩))
theorem Wp.app {h0 g : H} {L : List (Nat × List V)} (s : Mm h0 g L) (i : Nat) {v w : V} {l m : List α} {id : Nat} (o : OV v l id) (hx : L[i]? = some (id, flat l)) (r : RV g w m) {sz bytes : Nat} (hs : sz = Enc.sz α)
    (hb : (l.length + m.length) * bytes ≤ 140737488355328) (hn : l.length + m.length ≤ 4611686018427387904) {f : V × H → Option (V × H)} {Q : V → H → Prop}
    (c : ∀ v' id' g', OV v' (l ++ m) id' → Fr [id] g g' → Mm h0 g' (L.set i (id', flat (l ++ m))) → Wp (f (v', g')) Q) : Wp ((apL sz bytes g v w).bind f) Q :=
  Wp.appx s i o hx r hs hb hn fun v' id' g' o _ F s => c v' id' g' o F s
/-- A store into an element of an owned slice, at its field f. -/
theorem Wp.els {h0 g : H} {L : List (Nat × List V)} (s : Mm h0 g L) (i : Nat) {v : V} {l : List α} {id : Nat} (o : OV v l id) (hx : L[i]? = some (id, flat l)) {k : Nat} (hk : k < l.length) (a : α) (f : Nat) {n off : Nat} {w : V} {vs : List V} (hv : cellsV w = some vs) (hn : vs.length = n) (hf : f + n ≤ Enc.sz α)
    (ho : off = k * Enc.sz α + f) (ha : Enc.enc a = (Enc.enc l[k]).take f ++ vs ++ (Enc.enc l[k]).drop (f + vs.length)) {F : H → Option (V × H)} {Q : V → H → Prop}
    (c : ∀ g', Fr [id] g g' → OV v (l.set k a) id → Mm h0 g' (L.set i (id, flat (l.set k a))) → Wp (F g') Q) : Wp (stN n g (.ptr id off) w F) Q := by
  obtain ⟨z, rfl, o⟩ := o
  rcases o with ⟨_, rfl⟩ | ⟨h1, h2⟩
  · simp at hk
  have hkk : k * Enc.sz α + Enc.sz α ≤ l.length * Enc.sz α := by have := Nat.mul_le_mul_right (Enc.sz α) hk; rw [Nat.succ_mul] at this; exact this
  refine Wp.sto s i hx h1 hv hn (by rw [flat_len]; omega) (ds := flat (l.set k a)) ?_ fun g' F' s' => c g' F' ⟨z, by rw [List.length_set], .inr ⟨h1, h2⟩⟩ s'
  rw [flat_setf l k hk a f vs (by omega) ha, ho, hn]
end
/-! ### Lists in two parts -/
section
variable {α : Type} [Enc α]
theorem RV.mid {h : H} {v : V} {A B : List α} {e : α} (r : RV h v (A ++ e :: B)) : ∃ b o, b ≠ 0 ∧ b < h.next ∧ iA (Enc.sz α) v (.int .i64 A.length) = some (.ptr b o) ∧ bload (h.blk b) o (Enc.sz α) = some (Enc.enc e) := by
  obtain ⟨b, o, h1, h2, h3, h4⟩ := r.at (i := A.length) (by simp)
  refine ⟨b, o, h1, h2, h3, ?_⟩
  rw [h4, List.getElem_append_right (Nat.le_refl _)]
  simp
/-- The address of an element that is owned. -/
theorem OV.mid {v : V} {A B : List α} {e : α} {id : Nat} (o : OV v (A ++ e :: B) id) : id ≠ 0 ∧ iA (Enc.sz α) v (.int .i64 A.length) = some (.ptr id (A.length * Enc.sz α)) := by
  obtain ⟨z, rfl, o⟩ := o
  rcases o with ⟨_, o⟩ | ⟨o, _⟩
  · simp at o
  · refine ⟨o, ?_⟩
    rw [iA_sl (by simp), Nat.zero_add]
theorem fA_o {o b k : Nat} (hb : b ≠ 0) : fA o (.ptr b k) = some (.ptr b (k + o)) := if_neg hb
/-- A store into the element between A and B, at its field f. -/
theorem Wp.elm {h0 g : H} {L : List (Nat × List V)} (s : Mm h0 g L) (i : Nat) {v : V} {A B : List α} {e : α} {id : Nat} (o : OV v (A ++ e :: B) id) (hx : L[i]? = some (id, flat (A ++ e :: B))) (a : α) (f : Nat) {n off : Nat} {w : V} {vs : List V} (hv : cellsV w = some vs) (hn : vs.length = n) (hf : f + n ≤ Enc.sz α)
    (ho : off = A.length * Enc.sz α + f) (ha : Enc.enc a = (Enc.enc e).take f ++ vs ++ (Enc.enc e).drop (f + vs.length)) {F : H → Option (V × H)} {Q : V → H → Prop}
    (c : ∀ g', Fr [id] g g' → OV v (A ++ a :: B) id → Mm h0 g' (L.set i (id, flat (A ++ a :: B))) → Wp (F g') Q) : Wp (stN n g (.ptr id off) w F) Q := by
  have e1 : (A ++ e :: B)[A.length]'(by simp) = e := by rw [List.getElem_append_right (Nat.le_refl _)]; simp
  have e2 : (A ++ e :: B).set A.length a = A ++ a :: B := by simp
  refine Wp.els s i o hx (k := A.length) (by simp) a f hv hn hf ho (by rw [e1]; exact ha) ?_
  rw [e2]
  exact c
end
theorem bload_ld1 {h : H} {b o n : Nat} {cs : List V} (e : bload (h.blk b) o n = some cs) (f : Nat) {c : V} (hc : cs[f]? = some c) : AH.ld1 h (.ptr b (o + f)) = some c := by
  have hlt := (List.getElem?_eq_some_iff.1 hc).1
  have hl := bload_len e
  rw [ld1_ptr, bload_sub e f 1 (by omega)]
  show ((cs.drop f).take 1).head? = some c
  rw [List.head?_take, List.head?_drop, hc]; rfl
theorem bload_ldn {h : H} {b o n : Nat} {cs : List V} (e : bload (h.blk b) o n = some cs) (f m : Nat) (hf : f + m ≤ n) : AH.ldn m h (.ptr b (o + f)) = some (.agg ((cs.drop f).take m)) := by
  rw [ldn_ptr, bload_sub e f m hf]; rfl
theorem pdV_same {h g : H} (F : Fr [] h g) {b o : Nat} (h0 : b ≠ 0) (h1 : b < h.next) (k : Option (V × H)) : pdV g (.ptr b o) h k = k := by
  rw [pdV_ptr, F.blk0 h0 h1, if_pos rfl]
theorem Wp.pd {h g : H} (F : Fr [] h g) {b o : Nat} (h0 : b ≠ 0) (h1 : b < h.next) {k : Option (V × H)} {Q : V → H → Prop} (w : Wp k Q) : Wp (pdV g (.ptr b o) h k) Q := by
  rw [pdV_same F h0 h1]; exact w
section
variable {α : Type} [Enc α]
/-- The address of an element that is read. -/
theorem Wp.rd {g : H} {v : V} {l : List α} (r : RV g v l) {sz i : Nat} (hs : sz = Enc.sz α) (hi : i < l.length) {f : V → Option (V × H)} {Q : V → H → Prop}
    (c : ∀ b o, b ≠ 0 → b < g.next → bload (g.blk b) o (Enc.sz α) = some (Enc.enc l[i]) → Wp (f (.ptr b o)) Q) : Wp ((iA sz v (.int .i64 i)).bind f) Q := by
  subst hs
  obtain ⟨b, o, h1, h2, h3, h4⟩ := r.at hi
  exact Wp.b h3 (c b o h1 h2 h4)
/-- The address of an element that is owned. -/
theorem Wp.oa {v : V} {l : List α} {id : Nat} (o : OV v l id) {sz i : Nat} (hs : sz = Enc.sz α) (hi : i < l.length) {f : V → Option (V × H)} {Q : V → H → Prop}
    (c : id ≠ 0 → Wp (f (.ptr id (i * Enc.sz α))) Q) : Wp ((iA sz v (.int .i64 i)).bind f) Q := by
  subst hs
  obtain ⟨z, rfl, o⟩ := o
  rcases o with ⟨_, rfl⟩ | ⟨o, _⟩
  · simp at hi
  · exact Wp.b (iA_sl hi) (by rw [Nat.zero_add]; exact c o)
/-- slices.Insert of an owned slice; m lies in a block of its own. -/
theorem insP_mm {h0 g : H} {L : List (Nat × List V)} (s : Mm h0 g L) (i j : Nat) (hij : i ≠ j) {v w : V} {l m : List α} {id id' : Nat} (o : OV v l id) (hx : L[i]? = some (id, flat l)) (o' : OV w m id') (hy : L[j]? = some (id', flat m)) (hm : m ≠ []) {bytes k : Nat} (hk : k ≤ l.length) (h1 : Enc.sz α ≠ 1)
    (hb : (l.length + m.length) * bytes ≤ 140737488355328) (hn : l.length + m.length ≤ 4611686018427387904) :
    ∃ v2 id2 g2, insP (Enc.sz α) bytes [v, .int .i64 k, w] g = some (v2, g2) ∧ OV v2 (l.take k ++ m ++ l.drop k) id2 ∧ Fr [id] g g2 ∧ Mm h0 g2 (L.set i (id2, flat (l.take k ++ m ++ l.drop k))) := by
  have r1 := s.rv i o hx
  have r2 := s.rv j o' hy
  obtain ⟨z, rfl, o⟩ := o
  obtain ⟨z', rfl, o'⟩ := o'
  obtain ⟨z1, i1, o1, e, sl⟩ := r1
  simp only [V.sl.injEq] at e
  obtain ⟨rfl, rfl, rfl, _⟩ := e
  obtain ⟨z2, i2, o2, e, sm⟩ := r2
  simp only [V.sl.injEq] at e
  obtain ⟨rfl, rfl, rfl, _⟩ := e
  have n' : id' ≠ 0 := by
    rcases o' with o' | o'
    · exact absurd o'.2 hm
    · exact o'.1
  have own : id = 0 ∨ g.lo ≤ id := by
    rcases o with o | o
    · exact .inl o.1
    · exact .inr (s.blk hx o.1).2.2.1
  have b' := s.blk hy n'
  have hne : id' ≠ id := by
    have hi := (List.getElem?_eq_some_iff.1 hx)
    have hj := (List.getElem?_eq_some_iff.1 hy)
    obtain ⟨hi1, hi2⟩ := hi
    obtain ⟨hj1, hj2⟩ := hj
    rcases Nat.lt_or_gt_of_ne hij with e | e
    · have := List.pairwise_iff_getElem.1 s.nd i j hi1 hj1 e
      rw [hi2, hj2] at this
      rcases this with q | q
      · exact Ne.symm q
      · simp only at q; omega
    · have := List.pairwise_iff_getElem.1 s.nd j i hj1 hi1 e
      rw [hi2, hj2] at this
      rcases this with q | q
      · exact q
      · exact absurd q n'
  obtain ⟨g2, e, F, sl2, gn⟩ := insP_sl (bytes := bytes) s.k sl own sm hm hne b'.2.2.1 h1 hk hb hn
  refine ⟨_, g.next, g2, e, ⟨_, rfl, .inr ⟨s.k.pos, rfl⟩⟩, F, s.set hx F (F.ok s.k) (.inr ⟨.inr (Nat.le_refl _), s.k.pos, by omega, ?_⟩)⟩
  -- the block's whole text
  have hml : 0 < m.length := List.length_pos_iff.2 hm
  have hne2 : ¬ m.length * Enc.sz α = 0 := Nat.ne_of_gt (Nat.mul_pos hml Enc.pos)
  rcases sm with sm | sm
  · exact absurd sm.1 n'
  have e1 : srcL g (Enc.sz α) (.sl z' id' 0 m.length) = some (m.length, flat m) := by
    simp only [srcL, if_neg sm.1, if_neg hne2]; rw [load_eq, sm.2.2.2]; rfl
  have hi' : (0 : Int) ≤ (k : Int) ∧ (k : Int) ≤ (l.length : Int) := ⟨by omega, by omega⟩
  have hml' : ¬ m.length = 0 := by omega
  simp only [insP, e1, Option.bind_some, if_pos hi', if_neg hml'] at e
  split at e
  · have e2 : (if l.length = 0 then some [] else g.load id 0 (l.length * Enc.sz α)) = some (flat l) := by
      split
      · rename_i q; rw [List.length_eq_zero_iff.1 q]; rfl
      · rename_i q
        rcases sl with sl | sl
        · rw [sl.2] at q; exact absurd rfl q
        · rw [load_eq]; exact sl.2.2.2
    rw [e2] at e
    simp only [Option.bind_some, Option.some.injEq, Prod.mk.injEq, V.sl.injEq, Int.toNat_natCast] at e
    obtain ⟨_, rfl⟩ := e
    have hid : g.next ≠ id := by
      rcases sl with sl | sl
      · rw [sl.1]; exact s.k.pos
      · have := sl.2.2.1; omega
    refine ⟨(g.blk g.next).ver, ?_⟩
    rw [blk_kill, if_neg hid, blk_new, if_pos rfl, flat_append, flat_append, flat_take, flat_drop]
  · cases e
/-- slices.Delete of an owned slice. -/
theorem delP_mm {h0 g : H} {L : List (Nat × List V)} (s : Mm h0 g L) (i : Nat) {v : V} {l : List α} {id : Nat} (o : OV v l id) (hx : L[i]? = some (id, flat l)) {a b : Nat} (hab : a < b) (hb : b ≤ l.length) :
    ∃ v2 id2 g2, delP (Enc.sz α) [v, .int .i64 a, .int .i64 b] g = some (v2, g2) ∧ OV v2 (l.take a ++ l.drop b) id2 ∧ Fr [id] g g2 ∧ Mm h0 g2 (L.set i (id2, flat (l.take a ++ l.drop b))) := by
  have r1 := s.rv i o hx
  obtain ⟨z, rfl, o⟩ := o
  obtain ⟨z1, i1, o1, e, sl⟩ := r1
  simp only [V.sl.injEq] at e
  obtain ⟨rfl, rfl, rfl, _⟩ := e
  have own : id = 0 ∨ g.lo ≤ id := by
    rcases o with o | o
    · exact .inl o.1
    · exact .inr (s.blk hx o.1).2.2.1
  obtain ⟨g2, e, F, sl2, gn⟩ := delP_sl s.k sl own hab hb
  refine ⟨_, g.next, g2, e, ⟨_, rfl, .inr ⟨s.k.pos, rfl⟩⟩, F, s.set hx F (F.ok s.k) (.inr ⟨.inr (Nat.le_refl _), s.k.pos, by omega, ?_⟩)⟩
  rcases sl with sl | sl
  · rw [sl.2] at hb; simp at hb; omega
  have hi' : (0 : Int) ≤ (a : Int) ∧ (a : Int) ≤ (b : Int) ∧ (b : Int) ≤ (l.length : Int) := ⟨by omega, by omega, by omega⟩
  have hij : ¬ (a : Int) = (b : Int) := by omega
  simp only [delP, if_pos hi', if_neg hij, load_eq, sl.2.2.2, Option.bind_some, Int.toNat_natCast] at e
  split at e
  · simp only [Option.some.injEq, Prod.mk.injEq, V.sl.injEq] at e
    obtain ⟨_, rfl⟩ := e
    have hid : g.next ≠ id := by have := sl.2.2.1; omega
    refine ⟨(g.blk g.next).ver, ?_⟩
    rw [blk_kill, if_neg hid, blk_new, if_pos rfl, flat_append, flat_take, flat_drop]
  · cases e
end
theorem inc64 {n : Nat} (k : n < 9223372036854775807) : IntKind.i64.wrap ((n : Int) + 1) = ((n + 1 : Nat) : Int) := by
  rw [wrap64 (by omega) (by omega)]; omega
theorem ret_of {m : Option (V × H)} {v : V} {h : H} (w : Wp m fun r h' => r = v ∧ h' = h) : m = some (v, h) := by
  obtain ⟨r, h', e, rfl, rfl⟩ := w
  exact e
theorem wp_of {m : Option (V × H)} {v : V} {h : H} {Q : V → H → Prop} (e : m = some (v, h)) (q : Q v h) : Wp m Q := ⟨v, h, e, q⟩
theorem Wp.pv {h g : H} {b o : Nat} (e : g.blk b = h.blk b) {k : Option (V × H)} {Q : V → H → Prop} (w : Wp k Q) : Wp (pdV g (.ptr b o) h k) Q := by
  rw [pdV_ptr, e, if_pos rfl]; exact w
theorem Mm.ne {h0 g : H} {L : List (Nat × List V)} (s : Mm h0 g L) (i j : Nat) (hij : i ≠ j) {b c : Nat} {cs ds : List V} (hx : L[i]? = some (b, cs)) (hy : L[j]? = some (c, ds)) (hb : b ≠ 0) : b ≠ c := by
  obtain ⟨hi1, hi2⟩ := (List.getElem?_eq_some_iff.1 hx)
  obtain ⟨hj1, hj2⟩ := (List.getElem?_eq_some_iff.1 hy)
  rcases Nat.lt_or_gt_of_ne hij with e | e
  · have := List.pairwise_iff_getElem.1 s.nd i j hi1 hj1 e
    rw [hi2, hj2] at this
    rcases this with q | q
    · exact q
    · exact absurd q hb
  · have := List.pairwise_iff_getElem.1 s.nd j i hj1 hi1 e
    rw [hi2, hj2] at this
    rcases this with q | q
    · exact Ne.symm q
    · intro e2; simp only at q; omega
section
variable {α : Type} [Enc α]
theorem OV.cells {v : V} {l : List α} {id : Nat} (o : OV v l id) : cellsV v = some [v] := by obtain ⟨z, rfl, _⟩ := o; rfl
theorem OV.nt {v : V} {l : List α} {id : Nat} (o : OV v l id) : ntup v = some v := by obtain ⟨z, rfl, _⟩ := o; rfl
theorem RV.cells {h : H} {v : V} {l : List α} (o : RV h v l) : cellsV v = some [v] := by obtain ⟨z, _, _, rfl, _⟩ := o; rfl
theorem RV.nt {h : H} {v : V} {l : List α} (o : RV h v l) : ntup v = some v := by obtain ⟨z, _, _, rfl, _⟩ := o; rfl
end
theorem Wp.pd1 {h g g' : H} {i : Nat} (F : Fr [] h g) (F' : Fr [i] g g') {b o : Nat} (h0 : b ≠ 0) (h1 : b < h.next) (hne : b ≠ i) {k : Option (V × H)} {Q : V → H → Prop} (w : Wp k Q) : Wp (pdV g' (.ptr b o) h k) Q :=
  Wp.pv ((F'.blk1 h0 (Nat.lt_of_lt_of_le h1 F.2.1) hne).trans (F.blk0 h0 h1)) w
theorem Wp.pdi {h g : H} {i : Nat} (F : Fr [i] h g) {b o : Nat} (h0 : b ≠ 0) (h1 : b < h.next) (hne : b ≠ i) {k : Option (V × H)} {Q : V → H → Prop} (w : Wp k Q) : Wp (pdV g (.ptr b o) h k) Q :=
  Wp.pv (F.blk1 h0 h1 hne) w
/-! What stands at the head. -/
theorem Wp.gb {α : Type} {o : Option α} {f : α → Option (V × H)} {Q : V → H → Prop} (w : Wp (o.bind f) Q) : Wp (o.bind f) Q := w
theorem Wp.gbx {h : H} {v : V} {f : V → H → Option (V × H)} {Q : V → H → Prop} (w : Wp (bxK h v f) Q) : Wp (bxK h v f) Q := w
theorem Wp.gal {z : List V} {h : H} {f : V → H → Option (V × H)} {Q : V → H → Prop} (w : Wp (alK z h f) Q) : Wp (alK z h f) Q := w
theorem Wp.gst {n : Nat} {h : H} {p v : V} {f : H → Option (V × H)} {Q : V → H → Prop} (w : Wp (stN n h p v f) Q) : Wp (stN n h p v f) Q := w
theorem Mm.nil0 {h0 g : H} {L : List (Nat × List V)} (s : Mm h0 g L) : Mm h0 g ((0, []) :: L) :=
  ⟨s.k0, s.k, s.F, fun x hx => by
    rcases List.mem_cons.1 hx with rfl | hx
    · exact .inl ⟨rfl, rfl⟩
    · exact s.own x hx, List.pairwise_cons.2 ⟨fun b hb => .inr rfl, s.nd⟩⟩
theorem Mm.nil1 {h0 g : H} {x : Nat × List V} {L : List (Nat × List V)} (s : Mm h0 g (x :: L)) : Mm h0 g (x :: (0, []) :: L) := s.nil0.perm (List.Perm.swap _ _ _)
theorem Mm.back {h0 g : H} {x y : Nat × List V} {L : List (Nat × List V)} (s : Mm h0 g (x :: y :: L)) : Mm h0 g (y :: x :: L) := s.perm (List.Perm.swap _ _ _)
section
variable {α : Type} [Enc α]
theorem flat_rep (a : α) (n : Nat) : flat (List.replicate n a) = (List.replicate n (Enc.enc a)).flatten := by
  induction n with
  | zero => rfl
  | succ n ih => rw [List.replicate_succ, List.replicate_succ, flat_cons, List.flatten_cons, ih]
/-- A slice that is made. -/
theorem Wp.mks {h0 g : H} {L : List (Nat × List V)} (s : Mm h0 g L) (a : α) (n : Nat) {z : List V} (hz : z = Enc.enc a) {sz bytes : Nat} (hs : sz = Enc.sz α) (hn : n ≤ 4611686018427387904) (hb : bytes * n ≤ 281474976710656) {k k' : IntKind} {f : V → H → Option (V × H)} {Q : V → H → Prop}
    (c : ∀ v id g', OV v (List.replicate n a) id → id ≠ 0 → Fr [] g g' → Mm h0 g' ((id, flat (List.replicate n a)) :: L) → Wp (f v g') Q) : Wp (mkK sz bytes z g (.int k n) (.int k' n) f) Q := by
  subst hz hs
  have e : mkK (Enc.sz α) bytes (Enc.enc a) g (.int k n) (.int k' n) f = f (.sl (Enc.sz α) g.next 0 n) (g.new ((List.replicate n (Enc.enc a)).flatten)) := by
    simp only [mkK]
    have hb' : (bytes : Int) * (n : Int) ≤ 281474976710656 := by
      rw [← Int.natCast_mul]; omega
    rw [if_pos ⟨trivial, by omega, by omega, hb', Enc.len a⟩, Int.toNat_natCast]
  rw [e, ← flat_rep]
  exact c _ g.next _ ⟨_, by rw [List.length_replicate], .inr ⟨s.k.pos, rfl⟩⟩ s.k.pos ((Fr.refl _ _).new _) (s.cons ((Fr.refl _ _).new _) (s.k.new _) ⟨Nat.le_refl _, s.k.pos, Nat.lt_succ_self _, _, by rw [blk_new, if_pos rfl]⟩)
end
/-- What is left behind a thing's size. -/
def szr (left : Int) (w : Nat) : Int := if left < (w : Int) then -1 else left - w
theorem szr_add (left : Int) (a b : Nat) (h : ¬ left < (a : Int)) : szr (left - a) b = szr left (a + b) := by
  unfold szr
  by_cases c : left - a < (b : Int)
  · rw [if_pos c, if_pos (by omega)]
  · rw [if_neg c, if_neg (by omega)]; omega
theorem szr_neg {left : Int} {a : Nat} (b : Nat) (h : left < (a : Int)) : szr left (a + b) = -1 := by
  unfold szr; rw [if_pos (by omega)]
theorem szr_ok {left : Int} {w : Nat} (h : ¬ szr left w < 0) (h0 : 0 ≤ left) : (w : Int) ≤ left := by
  unfold szr at h; split at h <;> omega
end Go.Proofs.Ythoabddfionmoaa.AH
namespace Go.Proofs.Ythoabddfionmoaa.AH
open Go Go.RowKit
structure Cmd where
  s : Int
  n : Int
  o : Int
  k : ByteArray
  v : ByteArray
  d : ByteArray
  deriving DecidableEq
structure Pr where
  k : ByteArray
  v : ByteArray
  deriving DecidableEq
structure Rp where
  c : Int
  v : ByteArray
  deriving DecidableEq
structure Se where
  i : Int
  l : Int
  r : Rp
  deriving DecidableEq
def Cmd.en (c : Cmd) : List V := [.int .i64 c.s, .int .i64 c.n, .int .i64 c.o, .str c.k, .str c.v, .str c.d]
def Pr.en (c : Pr) : List V := [.str c.k, .str c.v]
def Rp.en (c : Rp) : List V := [.int .i64 c.c, .str c.v]
def Se.en (c : Se) : List V := [.int .i64 c.i, .int .i64 c.l, .int .i64 c.r.c, .str c.r.v]
instance : Enc Cmd := ⟨6, by decide, Cmd.en, fun _ => rfl⟩
instance : Enc Pr := ⟨2, by decide, Pr.en, fun _ => rfl⟩
instance : Enc Rp := ⟨2, by decide, Rp.en, fun _ => rfl⟩
instance : Enc Se := ⟨4, by decide, Se.en, fun _ => rfl⟩
theorem c64 (a x y : Int) (h : H) : R 64 [.int .i64 a, .int .i64 x, .int .i64 y] h = some (.bool (decide (x ≤ a) && decide (a ≤ y)), h) := by
  refine ret_of (R64 rfl ?_)
  rw [S64_eq]
  refine wp_of (v := _) (h := h) ?_ ⟨rfl, rfl⟩
  by_cases hx : x ≤ a <;> simp [hx]
theorem c67 (a x y : Int) (h : H) : R 67 [.int .i64 a, .int .i64 x, .int .i64 y] h = some (.bool (decide (x ≤ a) && decide (a ≤ y)), h) := by
  refine ret_of (R67 rfl ?_)
  rw [S67_eq]
  refine wp_of (v := _) (h := h) ?_ ⟨rfl, rfl⟩
  by_cases hx : x ≤ a <;> simp [hx]
def keyOk (s : ByteArray) : Bool := decide ((1 : Int) ≤ s.size) && decide ((s.size : Int) ≤ 16)
def valOk (s : ByteArray) : Bool := decide ((s.size : Int) ≤ 40)
theorem c65 (s : ByteArray) (h : H) : R 65 [.str s] h = some (.bool (keyOk s), h) := by
  refine ret_of (R65 rfl ?_)
  rw [S65_eq]
  simp only [lenS_str, Option.bind_some, c64]
  exact ⟨_, _, rfl, rfl, rfl⟩
theorem c68 (s : ByteArray) (h : H) : R 68 [.str s] h = some (.bool (keyOk s), h) := by
  refine ret_of (R68 rfl ?_)
  rw [S68_eq]
  simp only [lenS_str, Option.bind_some, c67]
  exact ⟨_, _, rfl, rfl, rfl⟩
theorem c66 (s : ByteArray) (h : H) : R 66 [.str s] h = some (.bool (valOk s), h) := by
  refine ret_of (R66 rfl ?_)
  rw [S66_eq]
  simp only [lenS_str, Option.bind_some, bin_leq]
  exact ⟨_, _, rfl, rfl, rfl⟩
/-! A command in a box of its own. -/
theorem box_new (h : H) (cs : List V) (i n : Nat) (k : i + n ≤ cs.length) : bload ((h.new cs).blk h.next) i n = some ((cs.drop i).take n) := by
  rw [blk_new, if_pos rfl, bload_mk _ _ _ _ k]
def emp : ByteArray := ⟨#[]⟩
def okC (c : Cmd) : Bool :=
  decide (0 ≤ c.s) && decide (c.s ≤ 99) && decide (1 ≤ c.n) && decide (c.n ≤ 1000000) && decide (1 ≤ c.o) && decide (c.o ≤ 4) && keyOk c.k && valOk c.v && valOk c.d &&
  (decide (c.v = emp) || decide (c.o = 2) || decide (c.o = 4)) && (decide (c.d = emp) || decide (c.o = 4))
theorem j39 (c : Cmd) (h : H) (id : Nat) (h0 : id ≠ 0) (e : h.blk id = ⟨c.en, 0, true⟩ ∨ ∃ n, h.blk id = ⟨c.en, n, true⟩) :
    S39_j3 R (.ptr id 0) h = some (.bool ((decide (c.v = emp) || decide (c.o = 2) || decide (c.o = 4)) && (decide (c.d = emp) || decide (c.o = 4))), h) := by
  have e : ∃ n, h.blk id = ⟨c.en, n, true⟩ := by rcases e with e | e; exact ⟨0, e⟩; exact e
  obtain ⟨n, e⟩ := e
  rw [S39_j3_eq]
  simp only [fA_ptr h0, Option.bind_some, ld1_ptr, e, bload_mk, Cmd.en, Nat.zero_add, List.length_cons, List.length_nil, Nat.reduceAdd, Nat.reduceLeDiff, List.drop_succ_cons, List.drop_zero, List.take_succ_cons, List.take_zero, List.head?_cons, str_eql, bin_eql, spB_bool]
  by_cases h1 : c.v = emp <;> by_cases h2 : c.d = emp <;> by_cases h3 : c.o = 2 <;> by_cases h4 : c.o = 4 <;> simp_all [emp]
theorem c39 (c : Cmd) (h : H) (hk : Hok h) : ∃ h', R 39 [.agg c.en] h = some (.bool (okC c), h') ∧ Fr [] h h' := by
  refine ⟨h.new c.en, ret_of (R39 rfl ?_), (Fr.refl [] h).new c.en⟩
  have h0 := hk.pos
  have hj := j39 c (h.new c.en) h.next h0 (.inr ⟨_, by rw [blk_new, if_pos rfl]⟩)
  rw [S39_eq]
  refine wp_of (v := _) (h := _) ?_ ⟨rfl, rfl⟩
  simp only [Cmd.en] at hj
  simp [h0, c64, c65, c66, Cmd.en, hj]
  by_cases q1 : c.s < 0 ∨ 99 < c.s
  · simp only [if_pos q1, okC]; simp; intros; omega
  by_cases q2 : c.n < 1 ∨ 1000000 < c.n
  · simp only [if_neg q1, if_pos q2, okC]; simp; intros; omega
  by_cases q3 : c.o < 1 ∨ 4 < c.o
  · simp only [if_neg q1, if_neg q2, if_pos q3, okC]; simp; intros; omega
  have q1' : 0 ≤ c.s ∧ c.s ≤ 99 := by omega
  have q2' : 1 ≤ c.n ∧ c.n ≤ 1000000 := by omega
  have q3' : 1 ≤ c.o ∧ c.o ≤ 4 := by omega
  simp only [if_neg q1, if_neg q2, if_neg q3, okC, q1', q2', q3']
  cases keyOk c.k <;> cases valOk c.v <;> cases valOk c.d <;> simp
theorem c33 (c : Cmd) (h : H) (hk : Hok h) : ∃ h', R 33 [.agg c.en] h = some (.agg c.en, h') ∧ Fr [] h h' := by
  have : Wp (R 33 [.agg c.en] h) fun r h' => r = .agg c.en ∧ Fr [] h h' := by
    refine R33 rfl ?_
    have h0 := hk.pos
    have h1 := hk.2
    rw [S33_eq]
    have l1 : h.lo ≤ h.next + 1 + 1 := by omega
    have l2 : h.lo ≤ h.next + 1 := by omega
    simp [h0, Cmd.en, l1, l2]
    refine ⟨_, _, rfl, rfl, ?_⟩
    repeat first | exact Fr.refl _ _ | apply Fr.new | refine Fr.upd ?_ _ (.inr (.inl (by omega)))
  obtain ⟨r, h', e, rfl, F⟩ := this
  exact ⟨h', e, F⟩
end Go.Proofs.Ythoabddfionmoaa.AH
namespace Go.Proofs.Ythoabddfionmoaa.AH
open Go Go.RowKit
/-! Sizes. -/
def Cmd.small (c : Cmd) (b : Nat) : Prop := c.k.size ≤ b ∧ c.v.size ≤ b ∧ c.d.size ≤ b
theorem c30 (c : Cmd) (hc : c.small 4611686018427387904) (left : Int) (h1 : 0 ≤ left) (h2 : left ≤ 1048576) (h : H) (hk : Hok h) :
    Wp (R 30 [.agg c.en, .int .i64 left] h) fun r h' => Fr [] h h' ∧ ∃ x : Int, r = .int .i64 x ∧ (x = -1 ∨ (0 ≤ x ∧ x ≤ left ∧ c.small 1048576)) := by
  refine R30 rfl ?_
  obtain ⟨b1, b2, b3⟩ := hc
  have h0 := hk.pos
  rw [S30_eq]
  simp [h0, Cmd.en]
  rw [wrap64 (by omega) (by omega)]
  split
  · exact ⟨_, _, rfl, (Fr.refl _ _).new _, _, rfl, .inl rfl⟩
  rw [wrap64 (by omega) (by omega)]
  split
  · exact ⟨_, _, rfl, (Fr.refl _ _).new _, _, rfl, .inl rfl⟩
  rw [wrap64 (by omega) (by omega)]
  split
  · exact ⟨_, _, rfl, (Fr.refl _ _).new _, _, rfl, .inl rfl⟩
  · refine ⟨_, _, rfl, (Fr.refl _ _).new _, _, rfl, .inr ⟨by omega, by omega, ?_⟩⟩
    refine ⟨?_, ?_, ?_⟩ <;> omega
theorem l6 (l : List Cmd) (hl : ∀ c ∈ l, c.small 4611686018427387904) (hn : l.length ≤ 1048576) (z id off : Nat) : ∀ (n i : Nat), i + n = l.length → ∀ (left : Int) (h : H), Hok h → Sl l h z id off → 0 ≤ left → left ≤ 1048576 →
    Wp (S6_l5 R (.sl z id off l.length) (.int .i64 left) (.int .i64 i) h) fun r h' => Fr [] h h' ∧ ∃ x : Int, r = .int .i64 x ∧ (x = -1 ∨ (0 ≤ x ∧ ∀ c ∈ l.drop i, c.small 1048576))
  | 0, i, hi, left, h, hk, s, h1, h2 => by
    rw [S6_l5_eq]
    have : i = l.length := by omega
    subst this
    simp
    exact ⟨_, _, rfl, Fr.refl _ _, _, rfl, .inr h1⟩
  | n + 1, i, hi, left, h, hk, s, h1, h2 => by
    rw [S6_l5_eq]
    have hil : i < l.length := by omega
    have g := s.get hil
    simp only [lenL_sl, Option.bind_some, bin_lss, Int.ofNat_lt, hil, decide_true, onB_bool, if_true, iA_sl hil, ldn_ptr]
    rw [show (6 : Nat) = Enc.sz Cmd from rfl, g]
    simp only [Option.map_some, Option.bind_some]
    refine Wp.bind (c30 l[i] (hl _ (List.getElem_mem _)) left h1 h2 h hk) ?_
    rintro r h' ⟨F, x, rfl, hx⟩
    simp only [bin_lss, Option.bind_some, onB_bool, decide_eq_true_eq]
    rcases hx with rfl | ⟨x0, x1, xs⟩
    · simp; exact ⟨_, _, rfl, F, _, rfl, .inl rfl⟩
    · rw [if_neg (by omega), bin_add, inc64 (by omega)]
      simp only [Option.bind_some]
      refine (l6 l hl hn z id off n (i + 1) (by omega) x h' (F.ok hk) (s.fr0 F) x0 (by omega)).mono ?_
      rintro r h'' ⟨F', y, rfl, hy⟩
      refine ⟨F.trans0 F', y, rfl, ?_⟩
      rcases hy with hy | ⟨y0, ys⟩
      · exact .inl hy
      · refine .inr ⟨y0, fun c hc => ?_⟩
        rw [List.drop_eq_getElem_cons hil] at hc
        rcases List.mem_cons.1 hc with rfl | hc
        · exact xs
        · exact ys c hc
theorem c6 (l : List Cmd) (hl : ∀ c ∈ l, c.small 4611686018427387904) (hn : l.length ≤ 4611686018427387904) (z id off : Nat) (h : H) (hk : Hok h) (s : Sl l h z id off) :
    Wp (R 6 [.sl z id off l.length, .int .i64 1048576] h) fun r h' => Fr [] h h' ∧ ∃ x : Int, r = .int .i64 x ∧ (x = -1 ∨ (0 ≤ x ∧ l.length ≤ 1048576 ∧ ∀ c ∈ l, c.small 1048576)) := by
  refine R6 rfl ?_
  rw [S6_eq]
  simp
  rw [wrap64 (by omega) (by omega)]
  split
  · exact ⟨_, _, rfl, Fr.refl _ _, _, rfl, .inl rfl⟩
  · refine (l6 l hl (by omega) z id off l.length 0 (by omega) _ h hk s (by omega) (by omega)).mono ?_
    rintro r h' ⟨F, x, rfl, hx⟩
    refine ⟨F, x, rfl, ?_⟩
    rcases hx with hx | ⟨x0, xs⟩
    · exact .inl hx
    · exact .inr ⟨x0, by omega, by simpa using xs⟩
/-! Copies. -/
theorem splice_flat (l : List Cmd) (i : Nat) (hi : i < l.length) (rest : List V) (hr : rest.length = (l.length - i) * 6) :
    (flat (l.take i) ++ rest).take (i * 6) ++ l[i].en ++ (flat (l.take i) ++ rest).drop (i * 6 + 6) = flat (l.take (i + 1)) ++ rest.drop 6 := by
  have e : (flat (l.take i)).length = i * 6 := by
    rw [flat_len, List.length_take]; show min i l.length * 6 = i * 6; rw [Nat.min_eq_left (by omega)]
  rw [List.take_left' e, ← List.drop_drop, List.drop_left' e]
  rw [List.take_succ_eq_append_getElem hi, flat_append, flat_one]; rfl
theorem l8 (l : List Cmd) (hn : l.length ≤ 1048576) (z id off o : Nat) : ∀ (n i : Nat), i + n = l.length → ∀ (h : H) (rest : List V) (ver : Nat), Hok h → Sl l h z id off → o ≠ id → h.lo ≤ o → o ≠ 0 → o < h.next →
    h.blk o = ⟨flat (l.take i) ++ rest, ver, true⟩ → rest.length = (l.length - i) * 6 →
    Wp (S8_l3 R (.sl z id off l.length) (.sl 6 o 0 l.length) (.int .i64 i) h) fun r h' => Fr [o] h h' ∧ r = .sl 6 o 0 l.length ∧ Sl l h' 6 o 0
  | 0, i, hi, h, rest, ver, hk, s, ho, hlo, h0, hon, hb, hr => by
    rw [S8_l3_eq]
    have : i = l.length := by omega
    subst this
    simp
    refine ⟨_, _, rfl, Fr.refl _ _, rfl, .inr ⟨h0, rfl, hon, ?_⟩⟩
    have : rest = [] := List.length_eq_zero_iff.1 (by rw [hr]; simp)
    subst this
    rw [hb, bload_mk _ _ _ _ (by simp [flat_len]), List.drop_zero, List.take_length, List.append_nil, List.take_of_length_le (by rw [flat_len]; exact Nat.le_refl _)]
  | n + 1, i, hi, h, rest, ver, hk, s, ho, hlo, h0, hon, hb, hr => by
    rw [S8_l3_eq]
    have hil : i < l.length := by omega
    have g := s.get hil
    simp only [lenL_sl, Option.bind_some, bin_lss, Int.ofNat_lt, hil, decide_true, onB_bool, if_true, iA_sl hil, ldn_ptr]
    rw [show off + i * 6 = off + i * Enc.sz Cmd from rfl, show bload (h.blk id) (off + i * Enc.sz Cmd) 6 = bload (h.blk id) (off + i * Enc.sz Cmd) (Enc.sz Cmd) from rfl, g]
    simp only [Option.map_some, Option.bind_some]
    obtain ⟨h', e, F⟩ := c33 l[i] h hk
    rw [show Enc.enc l[i] = l[i].en from rfl, e]
    have hb' : h'.blk o = ⟨flat (l.take i) ++ rest, ver, true⟩ := by rw [F.blk0 h0 hon, hb]
    have hlo' : h'.lo ≤ o := by rw [F.1]; exact hlo
    have hlen : (flat (l.take i) ++ rest).length = l.length * 6 := by
      rw [List.length_append, hr, flat_len, List.length_take, Nat.min_eq_left (by omega)]
      show i * 6 + _ = _
      rw [Nat.sub_mul]; omega
    simp only [Option.bind_some, Nat.zero_add, stN_ptr, cells_agg, load_eq, store_eq, hb', hlo', hlen]
    have hen : l[i].en.length = 6 := rfl
    rw [hen, if_pos rfl, if_pos ⟨trivial, trivial, by omega⟩]
    simp only [Option.bind_some, bin_add]
    rw [inc64 (by omega)]
    rw [splice_flat l i hil rest hr]
    refine (l8 l hn z id off o n (i + 1) (by omega) _ (rest.drop 6) (ver + 1) ((F.ok hk).upd _ _) ?_ ho hlo' h0 (Nat.lt_of_lt_of_le hon F.2.1) ?_ ?_).mono ?_
    · exact (s.fr0 F).blk (fun _ => by rw [blk_upd, if_neg (by omega)]) (Nat.le_refl _)
    · rw [blk_upd, if_pos rfl]
    · rw [List.length_drop, hr]; omega
    · rintro r h'' ⟨F', rfl, s'⟩
      refine ⟨Fr.trans ((F.mono (by simp)).upd (S := [o]) _ (.inl (by simp))) F' (by simp), rfl, s'⟩
theorem c8 (l : List Cmd) (hn : l.length ≤ 1048576) (z id off : Nat) (h : H) (hk : Hok h) (s : Sl l h z id off) :
    Wp (R 8 [.sl z id off l.length] h) fun r h' => Fr [] h h' ∧ ∃ o, h.next ≤ o ∧ r = .sl 6 o 0 l.length ∧ Sl l h' 6 o 0 := by
  refine R8 rfl ?_
  rw [S8_eq]
  have e : ∀ k : V → H → Option (V × H), mkK 6 72 [(V.int .i64 0), (V.int .i64 0), (V.int .i64 0), (V.str ⟨#[]⟩), (V.str ⟨#[]⟩), (V.str ⟨#[]⟩)] h (.int .i64 l.length) (.int .i64 l.length) k =
      k (.sl 6 h.next 0 l.length) (h.new ((List.replicate l.length [(V.int .i64 0), (V.int .i64 0), (V.int .i64 0), (V.str ⟨#[]⟩), (V.str ⟨#[]⟩), (V.str ⟨#[]⟩)]).flatten)) := fun k => by
    simp only [mkK]
    rw [if_pos ⟨trivial, by omega, by omega, by omega, rfl⟩, Int.toNat_natCast]
  simp only [lenL_sl, Option.bind_some, e]
  refine (l8 l hn z id off h.next l.length 0 (by omega) _ _ _ (hk.new _) ?_ ?_ hk.2 hk.pos (by simp) (by rw [blk_new, if_pos rfl]; rfl) ?_).mono ?_
  · exact s.fr0 ((Fr.refl [] h).new _)
  · have := s.lt hk; omega
  · rw [List.length_flatten]; simp
  · rintro r h' ⟨F, rfl, s'⟩
    exact ⟨Fr.trans ((Fr.refl [] h).new _) F (by simp), h.next, Nat.le_refl _, rfl, s'⟩
end Go.Proofs.Ythoabddfionmoaa.AH
namespace Go.Proofs.Ythoabddfionmoaa.AH
open Go Go.RowKit
/-- Equal behind a beginning that was found equal. -/
theorem drop_eq_step {α : Type} (l m : List α) (i : Nat) (hl : i < l.length) (hm : i < m.length) : (l.drop i = m.drop i) ↔ (l[i] = m[i] ∧ l.drop (i + 1) = m.drop (i + 1)) := by
  rw [List.drop_eq_getElem_cons hl, List.drop_eq_getElem_cons hm, List.cons.injEq]
theorem l10 (l m : List Int) (hlm : l.length = m.length) (hn : l.length ≤ 4611686018427387904) (z id off z' id' off' : Nat) (h : H) (s : Sl l h z id off) (s' : Sl m h z' id' off') : ∀ (n i : Nat), i + n = l.length →
    S10_l4 R (.sl z id off l.length) (.sl z' id' off' m.length) (.int .i64 i) h = some (.bool (decide (l.drop i = m.drop i)), h)
  | 0, i, hi => by
    rw [S10_l4_eq]
    have : i = l.length := by omega
    subst this
    have : m.drop l.length = [] := List.drop_of_length_le (by omega)
    simp [this]
  | n + 1, i, hi => by
    rw [S10_l4_eq]
    have hil : i < l.length := by omega
    have him : i < m.length := by omega
    have g := s.get hil
    have g' := s'.get him
    have eg : bload (h.blk id) (off + i * 1) 1 = some [V.int .i64 l[i]] := g
    have eg' : bload (h.blk id') (off' + i * 1) 1 = some [V.int .i64 m[i]] := g'
    simp only [lenL_sl, Option.bind_some, bin_lss, Int.ofNat_lt, hil, decide_true, onB_bool, if_true, iA_sl hil, iA_sl him, ld1_ptr, eg, eg', List.head?_cons, bin_neq, bin_add]
    rw [inc64 (by omega), l10 l m hlm hn z id off z' id' off' h s s' n (i + 1) (by omega)]
    by_cases e : l[i] = m[i]
    · simp [e, drop_eq_step l m i hil him]
    · simp [e, drop_eq_step l m i hil him]
theorem c10 (l m : List Int) (hn : l.length ≤ 4611686018427387904) (hm : m.length ≤ 4611686018427387904) (z id off z' id' off' : Nat) (h : H) (s : Sl l h z id off) (s' : Sl m h z' id' off') :
    R 10 [.sl z id off l.length, .sl z' id' off' m.length] h = some (.bool (decide (l = m)), h) := by
  refine ret_of (R10 rfl ?_)
  rw [S10_eq]
  refine wp_of (v := _) (h := h) ?_ ⟨rfl, rfl⟩
  by_cases e : l.length = m.length
  · have := l10 l m e hn z id off z' id' off' h s s' l.length 0 (by omega)
    simp only [Int.ofNat_zero] at this
    simp [e, this]
    simpa [e] using this
  · have : ¬ l = m := by rintro rfl; exact e rfl
    have e' : ¬ (l.length : Int) = m.length := by omega
    simp [e', this]
theorem c36 (c d : Cmd) (h : H) (hk : Hok h) : Wp (R 36 [.agg c.en, .agg d.en] h) fun r h' => r = .bool (decide (c = d)) ∧ Fr [] h h' := by
  refine R36 rfl ?_
  have h0 := hk.pos
  rw [S36_eq]
  obtain ⟨a1, a2, a3, a4, a5, a6⟩ := c
  obtain ⟨b1, b2, b3, b4, b5, b6⟩ := d
  simp [h0, Cmd.en]
  repeat' split
  all_goals exact ⟨_, _, rfl, by simp_all, ((Fr.refl _ _).new _).new _⟩
theorem l11 (l m : List Cmd) (hlm : l.length = m.length) (hn : l.length ≤ 4611686018427387904) (z id off z' id' off' : Nat) : ∀ (n i : Nat), i + n = l.length → ∀ (h : H), Hok h → Sl l h z id off → Sl m h z' id' off' →
    Wp (S11_l4 R (.sl z id off l.length) (.sl z' id' off' m.length) (.int .i64 i) h) fun r h' => r = .bool (decide (l.drop i = m.drop i)) ∧ Fr [] h h'
  | 0, i, hi, h, hk, s, s' => by
    rw [S11_l4_eq]
    have : i = l.length := by omega
    subst this
    have : m.drop l.length = [] := List.drop_of_length_le (by omega)
    simp [this]
    exact ⟨_, _, rfl, rfl, Fr.refl _ _⟩
  | n + 1, i, hi, h, hk, s, s' => by
    rw [S11_l4_eq]
    have hil : i < l.length := by omega
    have him : i < m.length := by omega
    have eg : bload (h.blk id) (off + i * 6) 6 = some l[i].en := s.get hil
    have eg' : bload (h.blk id') (off' + i * 6) 6 = some m[i].en := s'.get him
    simp only [lenL_sl, Option.bind_some, bin_lss, Int.ofNat_lt, hil, decide_true, onB_bool, if_true, iA_sl hil, iA_sl him, ldn_ptr, eg, eg', Option.map_some]
    refine Wp.bind (c36 _ _ h hk) ?_
    rintro r h' ⟨rfl, F⟩
    simp only [not_bool, Option.bind_some, onB_bool, bin_add]
    rw [inc64 (by omega)]
    by_cases e : l[i] = m[i]
    · simp only [e, decide_true, Bool.not_true, Bool.false_eq_true, if_false]
      refine (l11 l m hlm hn z id off z' id' off' n (i + 1) (by omega) h' (F.ok hk) (s.fr0 F) (s'.fr0 F)).mono ?_
      rintro r h'' ⟨rfl, F'⟩
      exact ⟨by simp [e, drop_eq_step l m i hil him], F.trans0 F'⟩
    · simp [e, drop_eq_step l m i hil him]
      exact ⟨_, _, rfl, rfl, F⟩
theorem c11 (l m : List Cmd) (hn : l.length ≤ 4611686018427387904) (z id off z' id' off' : Nat) (h : H) (hk : Hok h) (s : Sl l h z id off) (s' : Sl m h z' id' off') :
    Wp (R 11 [.sl z id off l.length, .sl z' id' off' m.length] h) fun r h' => r = .bool (decide (l = m)) ∧ Fr [] h h' := by
  refine R11 rfl ?_
  rw [S11_eq]
  by_cases e : l.length = m.length
  · have := l11 l m e hn z id off z' id' off' l.length 0 (by omega) h hk s s'
    simp only [Int.ofNat_zero, List.drop_zero] at this
    simp only [lenL_sl, Option.bind_some, bin_neq, e, decide_true, Bool.not_true, onB_bool, Bool.false_eq_true, if_false]
    rw [e] at this
    exact this
  · have : ¬ l = m := by rintro rfl; exact e rfl
    have e' : ¬ (l.length : Int) = m.length := by omega
    simp [e', this]
    exact ⟨_, _, rfl, rfl, Fr.refl _ _⟩
/-! Marks. -/
theorem l13 (l : List Int) (hn : l.length ≤ 1048576) (z id off : Nat) : ∀ (n i : Nat), i + n = l.length → ∀ (h : H) (m : List Int), m.length = l.length → Hok h → Sl m h z id off → (id = 0 ∨ h.lo ≤ id) → (∀ j (hj : j < m.length), j < i → m[j] = (j : Int) + 1) →
    Wp (S13_l2 R (.sl z id off l.length) (.int .i64 ((i : Int) + 1)) (.int .i64 i) h) fun r h' => r = .int .i64 ((l.length : Int) + 1) ∧ Fr [id] h h' ∧ ∃ m : List Int, m.length = l.length ∧ Sl m h' z id off ∧ ∀ j (hj : j < m.length), m[j] = (j : Int) + 1
  | 0, i, hi, h, m, hm, hk, s, hlo, hv => by
    rw [S13_l2_eq]
    have : i = l.length := by omega
    subst this
    simp
    exact ⟨_, _, rfl, rfl, Fr.refl _ _, m, hm, s, fun j hj => hv j hj (by omega)⟩
  | n + 1, i, hi, h, m, hm, hk, s, hlo, hv => by
    rw [S13_l2_eq]
    have hil : i < l.length := by omega
    have him : i < m.length := by omega
    have p := s.pos him
    have hlo' := hlo.resolve_left p.1
    simp only [lenL_sl, Option.bind_some, bin_lss, Int.ofNat_lt, hil, decide_true, onB_bool, if_true, iA_sl hil]
    refine Wp.stf hk s hlo him ((i : Int) + 1) 0 (v := .int .i64 ((i : Int) + 1)) rfl rfl (Nat.le_refl 1) rfl rfl ?_
    intro g gn gk s2 F
    simp only [bin_add, Option.bind_some]
    rw [inc64 (by omega), wrap64 (by omega) (by omega), show (i : Int) + 1 + 1 = ((i + 1 : Nat) : Int) + 1 by omega]
    refine (l13 l hn z id off n (i + 1) (by omega) g (m.set i ((i : Int) + 1)) (by simp [hm]) gk s2 (.inr (by rw [F.1]; exact hlo')) ?_).mono ?_
    · intro j hj hji
      rw [List.getElem_set]
      split
      · rename_i e; subst e; rfl
      · exact hv j (by simpa using hj) (by omega)
    · rintro r h'' ⟨rfl, F', m', a, b, c⟩
      exact ⟨rfl, Fr.trans F F' (by simp), m', a, b, c⟩
theorem c13 (l : List Int) (hn : l.length ≤ 1048576) (z id off : Nat) (h : H) (hk : Hok h) (s : Sl l h z id off) (own : id = 0 ∨ h.lo ≤ id) :
    Wp (R 13 [.sl z id off l.length, .int .i64 1] h) fun r h' => r = .int .i64 ((l.length : Int) + 1) ∧ Fr [id] h h' ∧ ∃ m : List Int, m.length = l.length ∧ Sl m h' z id off ∧ ∀ j (hj : j < m.length), m[j] = (j : Int) + 1 := by
  refine R13 rfl ?_
  rw [S13_eq]
  exact l13 l hn z id off l.length 0 (by omega) h l rfl hk s own (fun j hj h0 => absurd h0 (by omega))
theorem l14 (l : List Int) (hn : l.length ≤ 1048576) (z id off : Nat) (h : H) (s : Sl l h z id off) (hv : ∀ j (hj : j < l.length), l[j] = (j : Int) + 1) : ∀ (n i : Nat), i + n = l.length →
    S14_l2 R (.sl z id off l.length) (.int .i64 ((i : Int) + 1)) (.int .i64 i) h = some (.int .i64 ((l.length : Int) + 1), h)
  | 0, i, hi => by
    rw [S14_l2_eq]
    have : i = l.length := by omega
    subst this
    simp
  | n + 1, i, hi => by
    rw [S14_l2_eq]
    have hil : i < l.length := by omega
    have eg : bload (h.blk id) (off + i * 1) 1 = some [V.int .i64 l[i]] := s.get hil
    simp only [lenL_sl, Option.bind_some, bin_lss, Int.ofNat_lt, hil, decide_true, onB_bool, if_true, iA_sl hil, ld1_ptr, eg, List.head?_cons, bin_neq, bin_add, hv, Bool.not_true, Bool.false_eq_true, if_false]
    rw [inc64 (by omega), wrap64 (by omega) (by omega), show (i : Int) + 1 + 1 = ((i + 1 : Nat) : Int) + 1 by omega]
    exact l14 l hn z id off h s hv n (i + 1) (by omega)
theorem c14 (l : List Int) (hn : l.length ≤ 1048576) (z id off : Nat) (h : H) (s : Sl l h z id off) (hv : ∀ j (hj : j < l.length), l[j] = (j : Int) + 1) :
    R 14 [.sl z id off l.length, .int .i64 1] h = some (.int .i64 ((l.length : Int) + 1), h) := by
  refine ret_of (R14 rfl ?_)
  rw [S14_eq]
  exact wp_of (l14 l hn z id off h s hv l.length 0 (by omega)) ⟨rfl, rfl⟩
/-! A text that bears a number. -/
theorem l37 : ∀ (n x : Nat), x ≤ n → x ≤ 1099511627776 → ∀ (s : ByteArray) (h : H), Hok h → s.size + x ≤ 1099511627776 →
    Wp (S37_l4 R (.int .i64 x) (.str s) h) fun r h' => (∃ t, r = .str t) ∧ Fr [] h h'
  | n, 0, hx, hx2, s, h, hk, hs => by
    rw [S37_l4_eq]
    have : binV Try.prog .add 9 (.str ⟨#[109]⟩) (.str s) = some (.str (⟨#[109]⟩ ++ s)) := str_add _ _ _ _ (by show 1 + s.size < _; omega)
    simp [this]
    exact ⟨_, _, rfl, ⟨_, rfl⟩, Fr.refl _ _⟩
  | 0, x + 1, hx, hx2, s, h, hk, hs => absurd hx (by omega)
  | n + 1, x + 1, hx, hx2, s, h, hk, hs => by
    rw [S37_l4_eq]
    have hpos : (0 : Int) < ((x + 1 : Nat) : Int) := by omega
    have e1 : ((x + 1 : Nat) : Int).tmod 10 = (((x + 1) % 10 : Nat) : Int) := rfl
    have e2 : ((x + 1 : Nat) : Int).tdiv 10 = (((x + 1) / 10 : Nat) : Int) := rfl
    have hd : (x + 1) / 10 ≤ x := by omega
    have hw : IntKind.i64.wrap (48 + (((x + 1) % 10 : Nat) : Int)) = ((48 + (x + 1) % 10 : Nat) : Int) := by rw [wrap64 (by omega) (by omega)]; omega
    have hw2 : IntKind.i64.wrap (((x + 1) / 10 : Nat) : Int) = (((x + 1) / 10 : Nat) : Int) := wrap64 (by omega) (by omega)
    simp only [bin_gtr, hpos, decide_true, onB_bool, if_true, Option.bind_some, bin_rem _ _ _ _ _ (show (10 : Int) ≠ 0 by decide), bin_quo _ _ _ _ _ (show (10 : Int) ≠ 0 by decide), bin_add, e1, e2, hw, hw2]
    have h0 := hk.pos
    simp only [cvI, Option.bind_some, bsK_eq, bld_cons, bld_nil, cells_int, List.length_cons, List.length_nil, Nat.zero_add, if_true, splice_eq, Nat.reduceLeDiff]
    have hc : ∀ k : Int, cvB (h.new [V.int .u8 k]) (.sl 1 h.next 0 1) = some (.str ⟨#[UInt8.ofNat k.toNat]⟩) := fun k => by
      simp [cvB, h0, bytesOf, byteOfV]
    simp only [List.take_zero, List.nil_append, List.drop_succ_cons, List.drop_nil, List.append_nil, Option.bind_some, hc]
    rw [str_add _ _ _ _ (by show 1 + s.size < _; omega)]
    refine (l37 n ((x + 1) / 10) (by omega) (by omega) _ _ (hk.new _) ?_).mono ?_
    · show (_ ++ s).size + _ ≤ _
      rw [ByteArray.size_append]
      show 1 + s.size + _ ≤ _
      omega
    · rintro r h' ⟨t, F⟩
      exact ⟨t, ((Fr.refl _ _).new _).trans0 F⟩
theorem c37 (x : Nat) (hx : x ≤ 1099511627776) (h : H) (hk : Hok h) : Wp (R 37 [.int .i64 x] h) fun r h' => (∃ t, r = .str t) ∧ Fr [] h h' := by
  refine R37 rfl ?_
  rw [S37_eq]
  simp only [bin_leq, Option.bind_some, onB_bool, decide_eq_true_eq]
  split
  · simp; exact ⟨_, _, rfl, ⟨_, rfl⟩, Fr.refl _ _⟩
  · exact l37 x x (Nat.le_refl _) hx _ h hk (by show 0 + x ≤ _; omega)
theorem l12 (n0 : Nat) (hn : n0 ≤ 1048576) (z id off : Nat) : ∀ (n i k : Nat), i + n = n0 → k ≤ 1 + 6 * i → ∀ (h : H) (l : List Cmd), l.length = n0 → Hok h → Sl l h z id off → (id = 0 ∨ h.lo ≤ id) →
    Wp (S12_l2 R (.sl z id off n0) (.int .i64 k) (.int .i64 i) h) fun r h' => (∃ k : Nat, r = .int .i64 k) ∧ Fr [id] h h'
  | 0, i, k, hi, hkk, h, l, hl, hk, s, own => by
    rw [S12_l2_eq]
    have : i = n0 := by omega
    subst this
    simp
    exact ⟨_, _, rfl, ⟨_, rfl⟩, Fr.refl _ _⟩
  | n + 1, i, k, hi, hkk, h, l, hl, hk, s, own => by
    rw [S12_l2_eq]
    have hil : i < n0 := by omega
    have him : i < l.length := by omega
    have p := s.pos him
    have hlo := own.resolve_left p.1
    simp only [lenL_sl, Option.bind_some, bin_lss, Int.ofNat_lt, hil, decide_true, onB_bool, if_true, iA_sl hil, fA_ptr p.1, bin_add]
    have st : ∀ (f : Nat) (mk : Cmd → Cmd) (v : V) (h : H) (l : List Cmd), l.length = n0 → Hok h → Sl l h z id off → h.lo ≤ id → cellsV v = some [v] → f + 1 ≤ 6 → (∀ c : Cmd, (mk c).en = c.en.take f ++ [v] ++ c.en.drop (f + 1)) → ∀ (F : H → Option (V × H)) (Q : V → H → Prop),
        (∀ g, Hok g → h.lo ≤ id → (∃ l : List Cmd, l.length = n0 ∧ Sl l g z id off) → Fr [id] h g → Wp (F g) Q) → Wp (stN 1 h (.ptr id (off + i * 6 + f)) v F) Q := by
      intro f mk v h l hl hk s hlo hv hf he F Q c
      have him : i < l.length := by omega
      refine Wp.stf hk s (.inr hlo) him (mk l[i]) f hv rfl hf rfl (he _) ?_
      intro g gn gk s' F'
      exact c g gk hlo ⟨_, by rw [List.length_set]; exact hl, s'⟩ F'
    refine st 0 (fun c => ⟨(k : Int), c.n, c.o, c.k, c.v, c.d⟩) _ h l hl hk s hlo rfl (by decide) (fun _ => rfl) _ _ ?_
    rintro g1 k1 hlo1 ⟨l1, hl1, s1⟩ F1
    have hlo1 : g1.lo ≤ id := by rw [F1.1]; exact hlo
    rw [inc64 (by omega)]
    refine st 1 (fun c => ⟨c.s, ((k + 1 : Nat) : Int), c.o, c.k, c.v, c.d⟩) _ g1 l1 hl1 k1 s1 hlo1 rfl (by decide) (fun _ => rfl) _ _ ?_
    rintro g2 k2 - ⟨l2, hl2, s2⟩ F2
    have hlo2 : g2.lo ≤ id := by rw [F2.1]; exact hlo1
    rw [inc64 (by omega)]
    refine st 2 (fun c => ⟨c.s, c.n, ((k + 1 + 1 : Nat) : Int), c.k, c.v, c.d⟩) _ g2 l2 hl2 k2 s2 hlo2 rfl (by decide) (fun _ => rfl) _ _ ?_
    rintro g3 k3 - ⟨l3, hl3, s3⟩ F3
    have hlo3 : g3.lo ≤ id := by rw [F3.1]; exact hlo2
    rw [inc64 (by omega)]
    refine Wp.bind (c37 (k + 1 + 1 + 1) (by omega) g3 k3) ?_
    rintro r g4 ⟨⟨t, rfl⟩, F4⟩
    have k4 := F4.ok k3
    have s4 := s3.fr0 F4
    have hlo4 : g4.lo ≤ id := by rw [F4.1]; exact hlo3
    refine st 3 (fun c => ⟨c.s, c.n, c.o, t, c.v, c.d⟩) _ g4 l3 hl3 k4 s4 hlo4 rfl (by decide) (fun _ => rfl) _ _ ?_
    rintro g5 k5 - ⟨l5, hl5, s5⟩ F5
    have hlo5 : g5.lo ≤ id := by rw [F5.1]; exact hlo4
    rw [inc64 (by omega)]
    refine Wp.bind (c37 (k + 1 + 1 + 1 + 1) (by omega) g5 k5) ?_
    rintro r g6 ⟨⟨t6, rfl⟩, F6⟩
    have k6 := F6.ok k5
    have s6 := s5.fr0 F6
    have hlo6 : g6.lo ≤ id := by rw [F6.1]; exact hlo5
    refine st 4 (fun c => ⟨c.s, c.n, c.o, c.k, t6, c.d⟩) _ g6 l5 hl5 k6 s6 hlo6 rfl (by decide) (fun _ => rfl) _ _ ?_
    rintro g7 k7 - ⟨l7, hl7, s7⟩ F7
    have hlo7 : g7.lo ≤ id := by rw [F7.1]; exact hlo6
    rw [inc64 (by omega)]
    refine Wp.bind (c37 (k + 1 + 1 + 1 + 1 + 1) (by omega) g7 k7) ?_
    rintro r g8 ⟨⟨t8, rfl⟩, F8⟩
    have k8 := F8.ok k7
    have s8 := s7.fr0 F8
    have hlo8 : g8.lo ≤ id := by rw [F8.1]; exact hlo7
    refine st 5 (fun c => ⟨c.s, c.n, c.o, c.k, c.v, t8⟩) _ g8 l7 hl7 k8 s8 hlo8 rfl (by decide) (fun _ => rfl) _ _ ?_
    rintro g9 k9 - ⟨l9, hl9, s9⟩ F9
    have hlo9 : g9.lo ≤ id := by rw [F9.1]; exact hlo8
    rw [inc64 (by omega), inc64 (by omega)]
    refine (l12 n0 hn z id off n (i + 1) (k + 1 + 1 + 1 + 1 + 1 + 1) (by omega) (by omega) g9 l9 hl9 k9 s9 (.inr hlo9)).mono ?_
    rintro r g ⟨hr, F⟩
    refine ⟨hr, ?_⟩
    have z : ∀ j ∈ [id], ∀ n, j < n → j ∈ [id] := fun j hj _ _ => hj
    exact (((((((((F1.trans F2 (fun j hj h => hj)).trans F3 (fun j hj h => hj)).trans0 F4).trans F5 (fun j hj h => hj)).trans0 F6).trans F7 (fun j hj h => hj)).trans0 F8).trans F9 (fun j hj h => hj)).trans F (fun j hj h => hj))
theorem c12 (l : List Cmd) (hn : l.length ≤ 1048576) (z id off : Nat) (h : H) (hk : Hok h) (s : Sl l h z id off) (own : id = 0 ∨ h.lo ≤ id) :
    Wp (R 12 [.sl z id off l.length, .int .i64 1] h) fun r h' => (∃ k : Nat, r = .int .i64 k) ∧ Fr [id] h h' := by
  refine R12 rfl ?_
  rw [S12_eq]
  exact l12 l.length hn z id off l.length 0 1 (by omega) (by omega) h l rfl hk s own
end Go.Proofs.Ythoabddfionmoaa.AH
namespace Go.Proofs.Ythoabddfionmoaa.AH
open Go Go.RowKit
/-- The digits of x ahead of s. -/
def mdig : Nat → Nat → ByteArray → ByteArray
  | 0, _, s => s
  | f + 1, x, s => if x = 0 then s else mdig f (x / 10) (⟨#[UInt8.ofNat (48 + x % 10)]⟩ ++ s)
def mt (x : Nat) : ByteArray := ⟨#[109]⟩ ++ mdig x x ⟨#[]⟩
theorem l37' : ∀ (n x : Nat), x ≤ n → x ≤ 1073741824 → ∀ (s : ByteArray) (h : H), Hok h → s.size + x ≤ 1099511627776 →
    Wp (S37_l4 R (.int .i64 x) (.str s) h) fun r h' => r = .str (⟨#[109]⟩ ++ mdig n x s) ∧ Fr [] h h'
  | n, 0, hx, hx2, s, h, hk, hs => by
    rw [S37_l4_eq]
    have : binV Try.prog .add 9 (.str ⟨#[109]⟩) (.str s) = some (.str (⟨#[109]⟩ ++ s)) := str_add _ _ _ _ (by show 1 + s.size < _; omega)
    have e : mdig n 0 s = s := by cases n <;> simp [mdig]
    rw [e]
    simp [this]
    exact ⟨_, _, rfl, rfl, Fr.refl _ _⟩
  | 0, x + 1, hx, hx2, s, h, hk, hs => absurd hx (by omega)
  | n + 1, x + 1, hx, hx2, s, h, hk, hs => by
    rw [S37_l4_eq]
    have hpos : (0 : Int) < ((x + 1 : Nat) : Int) := by omega
    have e1 : ((x + 1 : Nat) : Int).tmod 10 = (((x + 1) % 10 : Nat) : Int) := rfl
    have e2 : ((x + 1 : Nat) : Int).tdiv 10 = (((x + 1) / 10 : Nat) : Int) := rfl
    have hd : (x + 1) / 10 ≤ x := by omega
    have hu : IntKind.u8.wrap (((x + 1) % 10 : Nat) : Int) = (((x + 1) % 10 : Nat) : Int) := by
      have : (x + 1) % 10 < 10 := Nat.mod_lt _ (by decide)
      unfold IntKind.wrap
      simp [IntKind.bits, IntKind.signed]
      omega
    have hw : IntKind.i64.wrap (48 + (((x + 1) % 10 : Nat) : Int)) = ((48 + (x + 1) % 10 : Nat) : Int) := by rw [wrap64 (by omega) (by omega)]; omega
    have hw2 : IntKind.i64.wrap (((x + 1) / 10 : Nat) : Int) = (((x + 1) / 10 : Nat) : Int) := wrap64 (by omega) (by omega)
    simp only [bin_gtr, hpos, decide_true, onB_bool, if_true, Option.bind_some, bin_rem _ _ _ _ _ (show (10 : Int) ≠ 0 by decide), bin_quo _ _ _ _ _ (show (10 : Int) ≠ 0 by decide), bin_add, e1, e2, hw, hw2]
    have h0 := hk.pos
    simp only [cvI, Option.bind_some, bsK_eq, bld_cons, bld_nil, cells_int, List.length_cons, List.length_nil, Nat.zero_add, if_true, splice_eq, Nat.reduceLeDiff]
    have hc : ∀ k : Int, cvB (h.new [V.int .u8 k]) (.sl 1 h.next 0 1) = some (.str ⟨#[UInt8.ofNat k.toNat]⟩) := fun k => by
      simp [cvB, h0, bytesOf, byteOfV]
    simp only [List.take_zero, List.nil_append, List.drop_succ_cons, List.drop_nil, List.append_nil, Option.bind_some, hc]
    rw [str_add _ _ _ _ (by show 1 + s.size < _; omega)]
    have hu2 : (IntKind.u8.wrap ((48 + (x + 1) % 10 : Nat) : Int)).toNat = 48 + (x + 1) % 10 := by
      have : (x + 1) % 10 < 10 := Nat.mod_lt _ (by decide)
      unfold IntKind.wrap
      simp [IntKind.bits, IntKind.signed]
      omega
    rw [hu2]
    refine (l37' n ((x + 1) / 10) (by omega) (by omega) _ _ (hk.new _) ?_).mono ?_
    · show (_ ++ s).size + _ ≤ _
      rw [ByteArray.size_append]
      show 1 + s.size + _ ≤ _
      omega
    · rintro r h' ⟨t, F⟩
      refine ⟨?_, ((Fr.refl _ _).new _).trans0 F⟩
      rw [t]
      conv => rhs; unfold mdig
      rw [if_neg (by omega)]
theorem mText (x : Nat) (h1 : 1 ≤ x) (hx : x ≤ 1073741824) (h : H) (hk : Hok h) : Wp (R 37 [.int .i64 x] h) fun r h' => r = .str (mt x) ∧ Fr [] h h' := by
  refine R37 rfl ?_
  rw [S37_eq]
  simp only [bin_leq, Option.bind_some, onB_bool, decide_eq_true_eq]
  rw [if_neg (by omega)]
  exact l37' x x (Nat.le_refl _) hx _ h hk (by show 0 + x ≤ _; omega)
theorem ePair (c d : Pr) (h : H) (hk : Hok h) : Wp (R 76 [.agg c.en, .agg d.en] h) fun r h' => r = .bool (decide (c = d)) ∧ Fr [] h h' := by
  refine R76 rfl ?_
  have h0 := hk.pos
  rw [S76_eq]
  obtain ⟨a1, a2⟩ := c
  obtain ⟨b1, b2⟩ := d
  simp [h0, Pr.en]
  repeat' split
  all_goals exact ⟨_, _, rfl, by simp_all, ((Fr.refl _ _).new _).new _⟩
theorem eReply (c d : Rp) (h : H) (hk : Hok h) : Wp (R 53 [.agg c.en, .agg d.en] h) fun r h' => r = .bool (decide (c = d)) ∧ Fr [] h h' := by
  refine R53 rfl ?_
  have h0 := hk.pos
  rw [S53_eq]
  obtain ⟨a1, a2⟩ := c
  obtain ⟨b1, b2⟩ := d
  simp [h0, Rp.en]
  repeat' split
  all_goals exact ⟨_, _, rfl, by simp_all, ((Fr.refl _ _).new _).new _⟩
theorem eSession (c d : Se) (h : H) (hk : Hok h) : Wp (R 77 [.agg c.en, .agg d.en] h) fun r h' => r = .bool (decide (c = d)) ∧ Fr [] h h' := by
  refine R77 rfl ?_
  rw [S77_eq]
  have s := Mm.base hk
  refine Wp.box s rfl fun p g1 p0 F1 s => ?_
  refine Wp.box s rfl fun q g2 q0 F2 s => ?_
  have F := F1.trans0 F2
  refine Wp.b (fA_p p0) (Wp.b (s.ld1 1 rfl p0 0 rfl) (Wp.b (fA_p q0) (Wp.b (s.ld1 0 rfl q0 0 rfl) (Wp.b (bin_neq _ _ _ _ _) (Wp.on (fun hc => ?_) (fun hc => ?_))))))
  · have : c ≠ d := by rintro rfl; simp at hc
    exact Wp.r1 rfl rfl ⟨by simp [this], F⟩
  refine Wp.b (fA_p p0) (Wp.b (s.ld1 1 rfl p0 1 rfl) (Wp.b (fA_p q0) (Wp.b (s.ld1 0 rfl q0 1 rfl) (Wp.b (bin_neq _ _ _ _ _) (Wp.on (fun hc2 => ?_) (fun hc2 => ?_))))))
  · have : c ≠ d := by rintro rfl; simp at hc2
    exact Wp.r1 rfl rfl ⟨by simp [this], F⟩
  refine Wp.b (fA_p p0) (Wp.b (s.ldn 1 rfl p0 2 2 (Nat.le_refl 4) rfl) (Wp.b (fA_p q0) (Wp.b (s.ldn 0 rfl q0 2 2 (Nat.le_refl 4) rfl) ?_)))
  refine Wp.bind (eReply c.r d.r g2 s.k) ?_
  rintro _ g3 ⟨rfl, F3⟩
  have h1 : c.i = d.i := by simpa using hc
  have h2 : c.l = d.l := by simpa using hc2
  obtain ⟨a1, a2, a3⟩ := c
  obtain ⟨b1, b2, b3⟩ := d
  simp only at h1 h2
  subst h1 h2
  refine Wp.b (not_bool _) (Wp.on (fun hc3 => ?_) (fun hc3 => ?_))
  · exact Wp.r1 rfl rfl ⟨by simp at hc3; simp [hc3], F.trans0 F3⟩
  · exact Wp.r1 rfl rfl ⟨by simp at hc3; simp [hc3], F.trans0 F3⟩
theorem eCommand (c d : Cmd) (h : H) (hk : Hok h) : Wp (R 36 [.agg c.en, .agg d.en] h) fun r h' => r = .bool (decide (c = d)) ∧ Fr [] h h' := c36 c d h hk
end Go.Proofs.Ythoabddfionmoaa.AH
namespace Go.Proofs.Ythoabddfionmoaa.AH
open Go Go.RowKit
/-- The marks of one. -/
def mkPair (k : Nat) : Pr := ⟨mt k, mt (k + 1)⟩
/-- The marks of n of them. -/
def mkLPair : Nat → Nat → List Pr
  | _, 0 => []
  | k, n + 1 => mkPair k :: mkLPair (k + 2) n
theorem mkLPair_len : ∀ (k n : Nat), (mkLPair k n).length = n
  | _, 0 => rfl
  | k, n + 1 => by simp [mkLPair, mkLPair_len]
/-- The marks of one. -/
def mkReply (k : Nat) : Rp := ⟨((k : Nat) : Int), mt (k + 1)⟩
/-- The marks of n of them. -/
def mkLReply : Nat → Nat → List Rp
  | _, 0 => []
  | k, n + 1 => mkReply k :: mkLReply (k + 2) n
theorem mkLReply_len : ∀ (k n : Nat), (mkLReply k n).length = n
  | _, 0 => rfl
  | k, n + 1 => by simp [mkLReply, mkLReply_len]
/-- The marks of one. -/
def mkSession (k : Nat) : Se := ⟨((k : Nat) : Int), (((k + 1) : Nat) : Int), ⟨(((k + 2) : Nat) : Int), mt (k + 3)⟩⟩
/-- The marks of n of them. -/
def mkLSession : Nat → Nat → List Se
  | _, 0 => []
  | k, n + 1 => mkSession k :: mkLSession (k + 4) n
theorem mkLSession_len : ∀ (k n : Nat), (mkLSession k n).length = n
  | _, 0 => rfl
  | k, n + 1 => by simp [mkLSession, mkLSession_len]
theorem ePairS_l (v w : V) : ∀ (B B' A A' : List Pr), A.length = A'.length → B.length = B'.length → A.length + B.length ≤ 4611686018427387904 → ∀ h, Hok h → RV h v (A ++ B) → RV h w (A' ++ B') →
    Wp (S51_l4 R v w (.int .i64 A.length) h) fun r h' => r = .bool (decide (B = B')) ∧ Fr [] h h'
  | [], [], A, A', ha, hb, hn, h, hk, r, r' => by
    rw [S51_l4_eq]
    refine Wp.b r.len (Wp.b (bin_lss _ _ _ _ _) (Wp.onF (by simp) (Wp.r1 rfl rfl ⟨by simp, Fr.refl _ _⟩)))
  | x :: B, y :: B', A, A', ha, hb, hn, h, hk, r, r' => by
    rw [S51_l4_eq]
    obtain ⟨b, o, b0, bl, e1, e2⟩ := r.mid
    obtain ⟨c, p, c0, cl, f1, f2⟩ := r'.mid
    rw [← ha] at f1
    simp only [List.length_cons] at hn hb
    refine Wp.b r.len (Wp.b (bin_lss _ _ _ _ _) (Wp.onT (by simp; omega) ?_))
    have g1 := bload_ldn e2 0 2 (Nat.le_refl _)
    have g2 := bload_ldn f2 0 2 (Nat.le_refl _)
    refine Wp.b e1 (Wp.b g1 (Wp.b f1 (Wp.b g2 ?_)))
    refine Wp.bind (ePair x y h hk) ?_
    rintro _ h1 ⟨rfl, F1⟩
    refine Wp.b (not_bool _) (Wp.on (fun hc => ?_) (fun hc => ?_))
    · have : x ≠ y := by simpa using hc
      exact Wp.r1 rfl rfl ⟨by simp [this], F1⟩
    · have : x = y := by simpa using hc
      subst this
      refine Wp.b (bin_add _ _ _ _ _) ?_
      rw [inc64 (by omega)]
      have i1 := ePairS_l v w B B' (A ++ [x]) (A' ++ [x]) (by simp [ha]) (by omega) (by simp; omega) h1 (F1.ok hk) (by simpa using r.fr F1) (by simpa using r'.fr F1)
      rw [List.length_append, List.length_singleton] at i1
      exact i1.mono fun r h'' ⟨q, F'⟩ => ⟨by rw [q]; simp, F1.trans0 F'⟩
  | [], y :: B', A, A', ha, hb, hn, h, hk, r, r' => by simp at hb
  | x :: B, [], A, A', ha, hb, hn, h, hk, r, r' => by simp at hb
theorem ePairS (l m : List Pr) (hn : l.length ≤ 4611686018427387904) (hm : m.length ≤ 4611686018427387904) (v w : V) (h : H) (hk : Hok h) (r : RV h v l) (r' : RV h w m) :
    Wp (R 51 [v, w] h) fun r h' => r = .bool (decide (l = m)) ∧ Fr [] h h' := by
  refine R51 rfl ?_
  rw [S51_eq]
  refine Wp.b r.len (Wp.b r'.len (Wp.b (bin_neq _ _ _ _ _) (Wp.on (fun hc => ?_) (fun hc => ?_))))
  · have : l ≠ m := by rintro rfl; simp at hc
    exact Wp.r1 rfl rfl ⟨by simp [this], Fr.refl _ _⟩
  · have hl : l.length = m.length := by simp at hc; omega
    have := ePairS_l v w l m [] [] rfl hl (by simpa using hn) h hk (by simpa using r) (by simpa using r')
    simpa using this
theorem eReplyS_l (v w : V) : ∀ (B B' A A' : List Rp), A.length = A'.length → B.length = B'.length → A.length + B.length ≤ 4611686018427387904 → ∀ h, Hok h → RV h v (A ++ B) → RV h w (A' ++ B') →
    Wp (S25_l4 R v w (.int .i64 A.length) h) fun r h' => r = .bool (decide (B = B')) ∧ Fr [] h h'
  | [], [], A, A', ha, hb, hn, h, hk, r, r' => by
    rw [S25_l4_eq]
    refine Wp.b r.len (Wp.b (bin_lss _ _ _ _ _) (Wp.onF (by simp) (Wp.r1 rfl rfl ⟨by simp, Fr.refl _ _⟩)))
  | x :: B, y :: B', A, A', ha, hb, hn, h, hk, r, r' => by
    rw [S25_l4_eq]
    obtain ⟨b, o, b0, bl, e1, e2⟩ := r.mid
    obtain ⟨c, p, c0, cl, f1, f2⟩ := r'.mid
    rw [← ha] at f1
    simp only [List.length_cons] at hn hb
    refine Wp.b r.len (Wp.b (bin_lss _ _ _ _ _) (Wp.onT (by simp; omega) ?_))
    have g1 := bload_ldn e2 0 2 (Nat.le_refl _)
    have g2 := bload_ldn f2 0 2 (Nat.le_refl _)
    refine Wp.b e1 (Wp.b g1 (Wp.b f1 (Wp.b g2 ?_)))
    refine Wp.bind (eReply x y h hk) ?_
    rintro _ h1 ⟨rfl, F1⟩
    refine Wp.b (not_bool _) (Wp.on (fun hc => ?_) (fun hc => ?_))
    · have : x ≠ y := by simpa using hc
      exact Wp.r1 rfl rfl ⟨by simp [this], F1⟩
    · have : x = y := by simpa using hc
      subst this
      refine Wp.b (bin_add _ _ _ _ _) ?_
      rw [inc64 (by omega)]
      have i1 := eReplyS_l v w B B' (A ++ [x]) (A' ++ [x]) (by simp [ha]) (by omega) (by simp; omega) h1 (F1.ok hk) (by simpa using r.fr F1) (by simpa using r'.fr F1)
      rw [List.length_append, List.length_singleton] at i1
      exact i1.mono fun r h'' ⟨q, F'⟩ => ⟨by rw [q]; simp, F1.trans0 F'⟩
  | [], y :: B', A, A', ha, hb, hn, h, hk, r, r' => by simp at hb
  | x :: B, [], A, A', ha, hb, hn, h, hk, r, r' => by simp at hb
theorem eReplyS (l m : List Rp) (hn : l.length ≤ 4611686018427387904) (hm : m.length ≤ 4611686018427387904) (v w : V) (h : H) (hk : Hok h) (r : RV h v l) (r' : RV h w m) :
    Wp (R 25 [v, w] h) fun r h' => r = .bool (decide (l = m)) ∧ Fr [] h h' := by
  refine R25 rfl ?_
  rw [S25_eq]
  refine Wp.b r.len (Wp.b r'.len (Wp.b (bin_neq _ _ _ _ _) (Wp.on (fun hc => ?_) (fun hc => ?_))))
  · have : l ≠ m := by rintro rfl; simp at hc
    exact Wp.r1 rfl rfl ⟨by simp [this], Fr.refl _ _⟩
  · have hl : l.length = m.length := by simp at hc; omega
    have := eReplyS_l v w l m [] [] rfl hl (by simpa using hn) h hk (by simpa using r) (by simpa using r')
    simpa using this
theorem eSessionS_l (v w : V) : ∀ (B B' A A' : List Se), A.length = A'.length → B.length = B'.length → A.length + B.length ≤ 4611686018427387904 → ∀ h, Hok h → RV h v (A ++ B) → RV h w (A' ++ B') →
    Wp (S52_l4 R v w (.int .i64 A.length) h) fun r h' => r = .bool (decide (B = B')) ∧ Fr [] h h'
  | [], [], A, A', ha, hb, hn, h, hk, r, r' => by
    rw [S52_l4_eq]
    refine Wp.b r.len (Wp.b (bin_lss _ _ _ _ _) (Wp.onF (by simp) (Wp.r1 rfl rfl ⟨by simp, Fr.refl _ _⟩)))
  | x :: B, y :: B', A, A', ha, hb, hn, h, hk, r, r' => by
    rw [S52_l4_eq]
    obtain ⟨b, o, b0, bl, e1, e2⟩ := r.mid
    obtain ⟨c, p, c0, cl, f1, f2⟩ := r'.mid
    rw [← ha] at f1
    simp only [List.length_cons] at hn hb
    refine Wp.b r.len (Wp.b (bin_lss _ _ _ _ _) (Wp.onT (by simp; omega) ?_))
    have g1 := bload_ldn e2 0 4 (Nat.le_refl _)
    have g2 := bload_ldn f2 0 4 (Nat.le_refl _)
    refine Wp.b e1 (Wp.b g1 (Wp.b f1 (Wp.b g2 ?_)))
    refine Wp.bind (eSession x y h hk) ?_
    rintro _ h1 ⟨rfl, F1⟩
    refine Wp.b (not_bool _) (Wp.on (fun hc => ?_) (fun hc => ?_))
    · have : x ≠ y := by simpa using hc
      exact Wp.r1 rfl rfl ⟨by simp [this], F1⟩
    · have : x = y := by simpa using hc
      subst this
      refine Wp.b (bin_add _ _ _ _ _) ?_
      rw [inc64 (by omega)]
      have i1 := eSessionS_l v w B B' (A ++ [x]) (A' ++ [x]) (by simp [ha]) (by omega) (by simp; omega) h1 (F1.ok hk) (by simpa using r.fr F1) (by simpa using r'.fr F1)
      rw [List.length_append, List.length_singleton] at i1
      exact i1.mono fun r h'' ⟨q, F'⟩ => ⟨by rw [q]; simp, F1.trans0 F'⟩
  | [], y :: B', A, A', ha, hb, hn, h, hk, r, r' => by simp at hb
  | x :: B, [], A, A', ha, hb, hn, h, hk, r, r' => by simp at hb
theorem eSessionS (l m : List Se) (hn : l.length ≤ 4611686018427387904) (hm : m.length ≤ 4611686018427387904) (v w : V) (h : H) (hk : Hok h) (r : RV h v l) (r' : RV h w m) :
    Wp (R 52 [v, w] h) fun r h' => r = .bool (decide (l = m)) ∧ Fr [] h h' := by
  refine R52 rfl ?_
  rw [S52_eq]
  refine Wp.b r.len (Wp.b r'.len (Wp.b (bin_neq _ _ _ _ _) (Wp.on (fun hc => ?_) (fun hc => ?_))))
  · have : l ≠ m := by rintro rfl; simp at hc
    exact Wp.r1 rfl rfl ⟨by simp [this], Fr.refl _ _⟩
  · have hl : l.length = m.length := by simp at hc; omega
    have := eSessionS_l v w l m [] [] rfl hl (by simpa using hn) h hk (by simpa using r) (by simpa using r')
    simpa using this
theorem mPairS_l {h0 : H} (v : V) (ix : Nat) : ∀ (B A : List Pr) (k : Nat) (g : H) (M : List (Nat × List V)) (id : Nat), 1 ≤ k → k + 2 * B.length ≤ 1073741824 → A.length + B.length ≤ 1073741824 → Mm h0 g M → OV v (A ++ B) id → M[ix]? = some (id, flat (A ++ B)) →
    Wp (S54_l2 R v (.int .i64 k) (.int .i64 A.length) g) fun r g' => r = .int .i64 ((k + 2 * B.length : Nat) : Int) ∧ Mm h0 g' (M.set ix (id, flat (A ++ mkLPair k B.length))) ∧ OV v (A ++ mkLPair k B.length) id
  | [], A, k, g, M, id, hk1, hk, hn, s, ov, hx => by
    rw [S54_l2_eq]
    have e : M.set ix (id, flat A) = M := by
      obtain ⟨h1, h2⟩ := List.getElem?_eq_some_iff.1 hx
      rw [List.append_nil] at h2
      rw [← h2]; exact List.set_getElem_self h1
    refine Wp.b ov.len (Wp.b (bin_lss _ _ _ _ _) (Wp.onF (by simp) (Wp.r1 rfl rfl ⟨by simp, ?_, ?_⟩)))
    · simp only [List.length_nil, mkLPair, List.append_nil, e]; exact s
    · simpa only [List.length_nil, mkLPair] using ov
  | x :: B, A, k, g, M, id, hk1, hk, hn, s, ov, hx => by
    rw [S54_l2_eq]
    simp only [List.length_cons] at hk hn
    have p := ov.mid
    refine Wp.b ov.len (Wp.b (bin_lss _ _ _ _ _) (Wp.onT (by simp; omega) ?_))
    refine Wp.bind (mText k (by omega) (by omega) _ s.k) ?_
    rintro _ g0_ ⟨rfl, F0_⟩
    replace s := s.fr0 F0_
    refine Wp.b p.2 ?_
    refine Wp.b (fA_o p.1) ?_
    refine Wp.elm (n := 1) s ix ov hx ({ x with k := mt k } : Pr) 0 rfl rfl (by decide) (by first | rfl | omega) rfl ?_
    intro g0 F0 ov s
    have hx := (List.getElem?_set_self (a := (id, flat (A ++ ({ x with k := mt k } : Pr) :: B))) (List.getElem?_eq_some_iff.1 hx).1)
    refine Wp.b (bin_add _ _ _ _ _) ?_
    rw [inc64 (by omega)]
    refine Wp.bind (mText (k + 1) (by omega) (by omega) _ s.k) ?_
    rintro _ g1_ ⟨rfl, F1_⟩
    replace s := s.fr0 F1_
    refine Wp.b p.2 ?_
    refine Wp.b (fA_o p.1) ?_
    refine Wp.elm (n := 1) s ix ov hx ({ ({ x with k := mt k } : Pr) with v := mt (k + 1) } : Pr) 1 rfl rfl (by decide) (by first | rfl | omega) rfl ?_
    intro g1 F1 ov s
    have hx := (List.getElem?_set_self (a := (id, flat (A ++ ({ ({ x with k := mt k } : Pr) with v := mt (k + 1) } : Pr) :: B))) (List.getElem?_eq_some_iff.1 hx).1)
    refine Wp.b (bin_add _ _ _ _ _) ?_
    rw [inc64 (by omega)]
    refine Wp.b (bin_add _ _ _ _ _) ?_
    rw [inc64 (by omega)]
    simp only [List.set_set] at s hx
    have i1 := mPairS_l v ix B (A ++ [mkPair k]) (k + 2) _ _ id (by omega) (by omega) (by simp; omega) s (by simpa [mkPair] using ov) (by simpa [mkPair] using hx)
    rw [List.length_append, List.length_singleton] at i1
    simp only [List.set_set, List.append_assoc, List.singleton_append] at i1
    have e1 : k + 2 + 2 * B.length = k + 2 * (B.length + 1) := by omega
    rw [e1] at i1
    simp only [List.length_cons, mkLPair]
    exact i1
theorem mPairS {h0 g : H} {M : List (Nat × List V)} (s : Mm h0 g M) (ix : Nat) {v : V} {l : List Pr} {id : Nat} (ov : OV v l id) (hx : M[ix]? = some (id, flat l)) (k : Nat) (hk1 : 1 ≤ k) (hk : k + 2 * l.length ≤ 1073741824) :
    Wp (R 54 [v, .int .i64 k] g) fun r g' => r = .int .i64 ((k + 2 * l.length : Nat) : Int) ∧ Mm h0 g' (M.set ix (id, flat (mkLPair k l.length))) ∧ OV v (mkLPair k l.length) id := by
  refine R54 rfl ?_
  rw [S54_eq]
  exact mPairS_l v ix l [] k g M id hk1 hk (by simp; omega) s ov hx
theorem mReplyS_l {h0 : H} (v : V) (ix : Nat) : ∀ (B A : List Rp) (k : Nat) (g : H) (M : List (Nat × List V)) (id : Nat), 1 ≤ k → k + 2 * B.length ≤ 1073741824 → A.length + B.length ≤ 1073741824 → Mm h0 g M → OV v (A ++ B) id → M[ix]? = some (id, flat (A ++ B)) →
    Wp (S27_l2 R v (.int .i64 k) (.int .i64 A.length) g) fun r g' => r = .int .i64 ((k + 2 * B.length : Nat) : Int) ∧ Mm h0 g' (M.set ix (id, flat (A ++ mkLReply k B.length))) ∧ OV v (A ++ mkLReply k B.length) id
  | [], A, k, g, M, id, hk1, hk, hn, s, ov, hx => by
    rw [S27_l2_eq]
    have e : M.set ix (id, flat A) = M := by
      obtain ⟨h1, h2⟩ := List.getElem?_eq_some_iff.1 hx
      rw [List.append_nil] at h2
      rw [← h2]; exact List.set_getElem_self h1
    refine Wp.b ov.len (Wp.b (bin_lss _ _ _ _ _) (Wp.onF (by simp) (Wp.r1 rfl rfl ⟨by simp, ?_, ?_⟩)))
    · simp only [List.length_nil, mkLReply, List.append_nil, e]; exact s
    · simpa only [List.length_nil, mkLReply] using ov
  | x :: B, A, k, g, M, id, hk1, hk, hn, s, ov, hx => by
    rw [S27_l2_eq]
    simp only [List.length_cons] at hk hn
    have p := ov.mid
    refine Wp.b ov.len (Wp.b (bin_lss _ _ _ _ _) (Wp.onT (by simp; omega) ?_))
    refine Wp.b p.2 ?_
    refine Wp.b (fA_o p.1) ?_
    refine Wp.elm (n := 1) s ix ov hx ({ x with c := ((k : Nat) : Int) } : Rp) 0 rfl rfl (by decide) (by first | rfl | omega) rfl ?_
    intro g0 F0 ov s
    have hx := (List.getElem?_set_self (a := (id, flat (A ++ ({ x with c := ((k : Nat) : Int) } : Rp) :: B))) (List.getElem?_eq_some_iff.1 hx).1)
    refine Wp.b (bin_add _ _ _ _ _) ?_
    rw [inc64 (by omega)]
    refine Wp.bind (mText (k + 1) (by omega) (by omega) _ s.k) ?_
    rintro _ g1_ ⟨rfl, F1_⟩
    replace s := s.fr0 F1_
    refine Wp.b p.2 ?_
    refine Wp.b (fA_o p.1) ?_
    refine Wp.elm (n := 1) s ix ov hx ({ ({ x with c := ((k : Nat) : Int) } : Rp) with v := mt (k + 1) } : Rp) 1 rfl rfl (by decide) (by first | rfl | omega) rfl ?_
    intro g1 F1 ov s
    have hx := (List.getElem?_set_self (a := (id, flat (A ++ ({ ({ x with c := ((k : Nat) : Int) } : Rp) with v := mt (k + 1) } : Rp) :: B))) (List.getElem?_eq_some_iff.1 hx).1)
    refine Wp.b (bin_add _ _ _ _ _) ?_
    rw [inc64 (by omega)]
    refine Wp.b (bin_add _ _ _ _ _) ?_
    rw [inc64 (by omega)]
    simp only [List.set_set] at s hx
    have i1 := mReplyS_l v ix B (A ++ [mkReply k]) (k + 2) _ _ id (by omega) (by omega) (by simp; omega) s (by simpa [mkReply] using ov) (by simpa [mkReply] using hx)
    rw [List.length_append, List.length_singleton] at i1
    simp only [List.set_set, List.append_assoc, List.singleton_append] at i1
    have e1 : k + 2 + 2 * B.length = k + 2 * (B.length + 1) := by omega
    rw [e1] at i1
    simp only [List.length_cons, mkLReply]
    exact i1
theorem mReplyS {h0 g : H} {M : List (Nat × List V)} (s : Mm h0 g M) (ix : Nat) {v : V} {l : List Rp} {id : Nat} (ov : OV v l id) (hx : M[ix]? = some (id, flat l)) (k : Nat) (hk1 : 1 ≤ k) (hk : k + 2 * l.length ≤ 1073741824) :
    Wp (R 27 [v, .int .i64 k] g) fun r g' => r = .int .i64 ((k + 2 * l.length : Nat) : Int) ∧ Mm h0 g' (M.set ix (id, flat (mkLReply k l.length))) ∧ OV v (mkLReply k l.length) id := by
  refine R27 rfl ?_
  rw [S27_eq]
  exact mReplyS_l v ix l [] k g M id hk1 hk (by simp; omega) s ov hx
theorem mSessionS_l {h0 : H} (v : V) (ix : Nat) : ∀ (B A : List Se) (k : Nat) (g : H) (M : List (Nat × List V)) (id : Nat), 1 ≤ k → k + 4 * B.length ≤ 1073741824 → A.length + B.length ≤ 1073741824 → Mm h0 g M → OV v (A ++ B) id → M[ix]? = some (id, flat (A ++ B)) →
    Wp (S55_l2 R v (.int .i64 k) (.int .i64 A.length) g) fun r g' => r = .int .i64 ((k + 4 * B.length : Nat) : Int) ∧ Mm h0 g' (M.set ix (id, flat (A ++ mkLSession k B.length))) ∧ OV v (A ++ mkLSession k B.length) id
  | [], A, k, g, M, id, hk1, hk, hn, s, ov, hx => by
    rw [S55_l2_eq]
    have e : M.set ix (id, flat A) = M := by
      obtain ⟨h1, h2⟩ := List.getElem?_eq_some_iff.1 hx
      rw [List.append_nil] at h2
      rw [← h2]; exact List.set_getElem_self h1
    refine Wp.b ov.len (Wp.b (bin_lss _ _ _ _ _) (Wp.onF (by simp) (Wp.r1 rfl rfl ⟨by simp, ?_, ?_⟩)))
    · simp only [List.length_nil, mkLSession, List.append_nil, e]; exact s
    · simpa only [List.length_nil, mkLSession] using ov
  | x :: B, A, k, g, M, id, hk1, hk, hn, s, ov, hx => by
    rw [S55_l2_eq]
    simp only [List.length_cons] at hk hn
    have p := ov.mid
    refine Wp.b ov.len (Wp.b (bin_lss _ _ _ _ _) (Wp.onT (by simp; omega) ?_))
    refine Wp.b p.2 ?_
    refine Wp.b (fA_o p.1) ?_
    refine Wp.elm (n := 1) s ix ov hx ({ x with i := ((k : Nat) : Int) } : Se) 0 rfl rfl (by decide) (by first | rfl | omega) rfl ?_
    intro g0 F0 ov s
    have hx := (List.getElem?_set_self (a := (id, flat (A ++ ({ x with i := ((k : Nat) : Int) } : Se) :: B))) (List.getElem?_eq_some_iff.1 hx).1)
    refine Wp.b (bin_add _ _ _ _ _) ?_
    rw [inc64 (by omega)]
    refine Wp.b p.2 ?_
    refine Wp.b (fA_o p.1) ?_
    refine Wp.elm (n := 1) s ix ov hx ({ ({ x with i := ((k : Nat) : Int) } : Se) with l := (((k + 1) : Nat) : Int) } : Se) 1 rfl rfl (by decide) (by first | rfl | omega) rfl ?_
    intro g1 F1 ov s
    have hx := (List.getElem?_set_self (a := (id, flat (A ++ ({ ({ x with i := ((k : Nat) : Int) } : Se) with l := (((k + 1) : Nat) : Int) } : Se) :: B))) (List.getElem?_eq_some_iff.1 hx).1)
    refine Wp.b (bin_add _ _ _ _ _) ?_
    rw [inc64 (by omega)]
    refine Wp.b p.2 ?_
    refine Wp.b (fA_o p.1) ?_
    refine Wp.b (fA_o p.1) ?_
    refine Wp.elm (n := 1) s ix ov hx ({ ({ ({ x with i := ((k : Nat) : Int) } : Se) with l := (((k + 1) : Nat) : Int) } : Se) with r := { ({ ({ x with i := ((k : Nat) : Int) } : Se) with l := (((k + 1) : Nat) : Int) } : Se).r with c := (((k + 2) : Nat) : Int) } } : Se) 2 rfl rfl (by decide) (by first | rfl | omega) rfl ?_
    intro g2 F2 ov s
    have hx := (List.getElem?_set_self (a := (id, flat (A ++ ({ ({ ({ x with i := ((k : Nat) : Int) } : Se) with l := (((k + 1) : Nat) : Int) } : Se) with r := { ({ ({ x with i := ((k : Nat) : Int) } : Se) with l := (((k + 1) : Nat) : Int) } : Se).r with c := (((k + 2) : Nat) : Int) } } : Se) :: B))) (List.getElem?_eq_some_iff.1 hx).1)
    refine Wp.b (bin_add _ _ _ _ _) ?_
    rw [inc64 (by omega)]
    refine Wp.bind (mText (k + 3) (by omega) (by omega) _ s.k) ?_
    rintro _ g3_ ⟨rfl, F3_⟩
    replace s := s.fr0 F3_
    refine Wp.b p.2 ?_
    refine Wp.b (fA_o p.1) ?_
    refine Wp.b (fA_o p.1) ?_
    refine Wp.elm (n := 1) s ix ov hx ({ ({ ({ ({ x with i := ((k : Nat) : Int) } : Se) with l := (((k + 1) : Nat) : Int) } : Se) with r := { ({ ({ x with i := ((k : Nat) : Int) } : Se) with l := (((k + 1) : Nat) : Int) } : Se).r with c := (((k + 2) : Nat) : Int) } } : Se) with r := { ({ ({ ({ x with i := ((k : Nat) : Int) } : Se) with l := (((k + 1) : Nat) : Int) } : Se) with r := { ({ ({ x with i := ((k : Nat) : Int) } : Se) with l := (((k + 1) : Nat) : Int) } : Se).r with c := (((k + 2) : Nat) : Int) } } : Se).r with v := mt (k + 3) } } : Se) 3 rfl rfl (by decide) (by first | rfl | omega) rfl ?_
    intro g3 F3 ov s
    have hx := (List.getElem?_set_self (a := (id, flat (A ++ ({ ({ ({ ({ x with i := ((k : Nat) : Int) } : Se) with l := (((k + 1) : Nat) : Int) } : Se) with r := { ({ ({ x with i := ((k : Nat) : Int) } : Se) with l := (((k + 1) : Nat) : Int) } : Se).r with c := (((k + 2) : Nat) : Int) } } : Se) with r := { ({ ({ ({ x with i := ((k : Nat) : Int) } : Se) with l := (((k + 1) : Nat) : Int) } : Se) with r := { ({ ({ x with i := ((k : Nat) : Int) } : Se) with l := (((k + 1) : Nat) : Int) } : Se).r with c := (((k + 2) : Nat) : Int) } } : Se).r with v := mt (k + 3) } } : Se) :: B))) (List.getElem?_eq_some_iff.1 hx).1)
    refine Wp.b (bin_add _ _ _ _ _) ?_
    rw [inc64 (by omega)]
    refine Wp.b (bin_add _ _ _ _ _) ?_
    rw [inc64 (by omega)]
    simp only [List.set_set] at s hx
    have i1 := mSessionS_l v ix B (A ++ [mkSession k]) (k + 4) _ _ id (by omega) (by omega) (by simp; omega) s (by simpa [mkSession] using ov) (by simpa [mkSession] using hx)
    rw [List.length_append, List.length_singleton] at i1
    simp only [List.set_set, List.append_assoc, List.singleton_append] at i1
    have e1 : k + 4 + 4 * B.length = k + 4 * (B.length + 1) := by omega
    rw [e1] at i1
    simp only [List.length_cons, mkLSession]
    exact i1
theorem mSessionS {h0 g : H} {M : List (Nat × List V)} (s : Mm h0 g M) (ix : Nat) {v : V} {l : List Se} {id : Nat} (ov : OV v l id) (hx : M[ix]? = some (id, flat l)) (k : Nat) (hk1 : 1 ≤ k) (hk : k + 4 * l.length ≤ 1073741824) :
    Wp (R 55 [v, .int .i64 k] g) fun r g' => r = .int .i64 ((k + 4 * l.length : Nat) : Int) ∧ Mm h0 g' (M.set ix (id, flat (mkLSession k l.length))) ∧ OV v (mkLSession k l.length) id := by
  refine R55 rfl ?_
  rw [S55_eq]
  exact mSessionS_l v ix l [] k g M id hk1 hk (by simp; omega) s ov hx
theorem hPairS_l (v : V) : ∀ (n k : Nat) (A : List Pr) (g : H), 1 ≤ k → k + 2 * n ≤ 1073741824 → A.length + n ≤ 1073741824 → Hok g → RV g v (A ++ mkLPair k n) →
    Wp (S56_l2 R v (.int .i64 k) (.int .i64 A.length) g) fun r g' => r = .int .i64 ((k + 2 * n : Nat) : Int) ∧ Fr [] g g'
  | 0, k, A, g, hk1, hk, hn, ok, r => by
    rw [S56_l2_eq]
    refine Wp.b r.len (Wp.b (bin_lss _ _ _ _ _) (Wp.onF (by simp [mkLPair]) (Wp.r1 rfl rfl ⟨by simp, Fr.refl _ _⟩)))
  | n + 1, k, A, g, hk1, hk, hn, ok, r => by
    rw [S56_l2_eq]
    simp only [mkLPair] at r
    refine Wp.b r.len (Wp.b (bin_lss _ _ _ _ _) (Wp.onT (by simp; omega) ?_))
    have F := Fr.refl [] g
    obtain ⟨b, o, b0, bl, e1, e2⟩ := r.mid
    refine Wp.b e1 ?_
    refine Wp.b (fA_o b0) ?_
    have g1 : ld1 _ (.ptr b (o + 0)) = some (.str (mt k)) := bload_ld1 e2 0 rfl
    refine Wp.b g1 ?_
    refine Wp.bind (mText k (by omega) (by omega) _ ok) ?_
    rintro _ g' ⟨rfl, F'⟩
    refine Wp.pd F' b0 bl ?_
    replace F := F.trans0 F'
    replace ok := F'.ok ok
    replace r := r.fr F'
    refine Wp.b (str_neq _ _ _ _) (Wp.onF (by simp <;> omega) (Wp.b (bin_add _ _ _ _ _) ?_))
    rw [inc64 (by omega)]
    clear F' 
    clear g1 e2 e1 bl b0 b o
    obtain ⟨b, o, b0, bl, e1, e2⟩ := r.mid
    refine Wp.b e1 ?_
    refine Wp.b (fA_o b0) ?_
    have g1 : ld1 _ (.ptr b (o + 1)) = some (.str (mt (k + 1))) := bload_ld1 e2 1 rfl
    refine Wp.b g1 ?_
    refine Wp.bind (mText (k + 1) (by omega) (by omega) _ ok) ?_
    rintro _ g' ⟨rfl, F'⟩
    refine Wp.pd F' b0 bl ?_
    replace F := F.trans0 F'
    replace ok := F'.ok ok
    replace r := r.fr F'
    refine Wp.b (str_neq _ _ _ _) (Wp.onF (by simp <;> omega) (Wp.b (bin_add _ _ _ _ _) ?_))
    rw [inc64 (by omega)]
    clear F' 
    clear g1 e2 e1 bl b0 b o
    refine Wp.b (bin_add _ _ _ _ _) ?_
    rw [inc64 (by omega)]
    have i1 := hPairS_l v n (k + 2) (A ++ [mkPair k]) _ (by omega) (by omega) (by simp; omega) ok (by simpa using r)
    rw [List.length_append, List.length_singleton] at i1
    have e1 : k + 2 + 2 * n = k + 2 * (n + 1) := by omega
    rw [e1] at i1
    exact i1.mono fun r h'' ⟨q, F'⟩ => ⟨q, F.trans0 F'⟩
theorem hPairS (n k : Nat) (hk1 : 1 ≤ k) (hk : k + 2 * n ≤ 1073741824) (v : V) (g : H) (ok : Hok g) (r : RV g v (mkLPair k n)) :
    Wp (R 56 [v, .int .i64 k] g) fun r g' => r = .int .i64 ((k + 2 * n : Nat) : Int) ∧ Fr [] g g' := by
  refine R56 rfl ?_
  rw [S56_eq]
  exact hPairS_l v n k [] g hk1 hk (by simp; omega) ok r
theorem hReplyS_l (v : V) : ∀ (n k : Nat) (A : List Rp) (g : H), 1 ≤ k → k + 2 * n ≤ 1073741824 → A.length + n ≤ 1073741824 → Hok g → RV g v (A ++ mkLReply k n) →
    Wp (S29_l2 R v (.int .i64 k) (.int .i64 A.length) g) fun r g' => r = .int .i64 ((k + 2 * n : Nat) : Int) ∧ Fr [] g g'
  | 0, k, A, g, hk1, hk, hn, ok, r => by
    rw [S29_l2_eq]
    refine Wp.b r.len (Wp.b (bin_lss _ _ _ _ _) (Wp.onF (by simp [mkLReply]) (Wp.r1 rfl rfl ⟨by simp, Fr.refl _ _⟩)))
  | n + 1, k, A, g, hk1, hk, hn, ok, r => by
    rw [S29_l2_eq]
    simp only [mkLReply] at r
    refine Wp.b r.len (Wp.b (bin_lss _ _ _ _ _) (Wp.onT (by simp; omega) ?_))
    have F := Fr.refl [] g
    obtain ⟨b, o, b0, bl, e1, e2⟩ := r.mid
    refine Wp.b e1 ?_
    refine Wp.b (fA_o b0) ?_
    have g1 : ld1 _ (.ptr b (o + 0)) = some (.int .i64 ((k : Nat) : Int)) := bload_ld1 e2 0 rfl
    refine Wp.b g1 ?_
    refine Wp.b (bin_neq _ _ _ _ _) (Wp.onF (by simp <;> omega) (Wp.b (bin_add _ _ _ _ _) ?_))
    rw [inc64 (by omega)]
    clear g1 e2 e1 bl b0 b o
    obtain ⟨b, o, b0, bl, e1, e2⟩ := r.mid
    refine Wp.b e1 ?_
    refine Wp.b (fA_o b0) ?_
    have g1 : ld1 _ (.ptr b (o + 1)) = some (.str (mt (k + 1))) := bload_ld1 e2 1 rfl
    refine Wp.b g1 ?_
    refine Wp.bind (mText (k + 1) (by omega) (by omega) _ ok) ?_
    rintro _ g' ⟨rfl, F'⟩
    refine Wp.pd F' b0 bl ?_
    replace F := F.trans0 F'
    replace ok := F'.ok ok
    replace r := r.fr F'
    refine Wp.b (str_neq _ _ _ _) (Wp.onF (by simp <;> omega) (Wp.b (bin_add _ _ _ _ _) ?_))
    rw [inc64 (by omega)]
    clear F' 
    clear g1 e2 e1 bl b0 b o
    refine Wp.b (bin_add _ _ _ _ _) ?_
    rw [inc64 (by omega)]
    have i1 := hReplyS_l v n (k + 2) (A ++ [mkReply k]) _ (by omega) (by omega) (by simp; omega) ok (by simpa using r)
    rw [List.length_append, List.length_singleton] at i1
    have e1 : k + 2 + 2 * n = k + 2 * (n + 1) := by omega
    rw [e1] at i1
    exact i1.mono fun r h'' ⟨q, F'⟩ => ⟨q, F.trans0 F'⟩
theorem hReplyS (n k : Nat) (hk1 : 1 ≤ k) (hk : k + 2 * n ≤ 1073741824) (v : V) (g : H) (ok : Hok g) (r : RV g v (mkLReply k n)) :
    Wp (R 29 [v, .int .i64 k] g) fun r g' => r = .int .i64 ((k + 2 * n : Nat) : Int) ∧ Fr [] g g' := by
  refine R29 rfl ?_
  rw [S29_eq]
  exact hReplyS_l v n k [] g hk1 hk (by simp; omega) ok r
theorem hSessionS_l (v : V) : ∀ (n k : Nat) (A : List Se) (g : H), 1 ≤ k → k + 4 * n ≤ 1073741824 → A.length + n ≤ 1073741824 → Hok g → RV g v (A ++ mkLSession k n) →
    Wp (S57_l2 R v (.int .i64 k) (.int .i64 A.length) g) fun r g' => r = .int .i64 ((k + 4 * n : Nat) : Int) ∧ Fr [] g g'
  | 0, k, A, g, hk1, hk, hn, ok, r => by
    rw [S57_l2_eq]
    refine Wp.b r.len (Wp.b (bin_lss _ _ _ _ _) (Wp.onF (by simp [mkLSession]) (Wp.r1 rfl rfl ⟨by simp, Fr.refl _ _⟩)))
  | n + 1, k, A, g, hk1, hk, hn, ok, r => by
    rw [S57_l2_eq]
    simp only [mkLSession] at r
    refine Wp.b r.len (Wp.b (bin_lss _ _ _ _ _) (Wp.onT (by simp; omega) ?_))
    have F := Fr.refl [] g
    obtain ⟨b, o, b0, bl, e1, e2⟩ := r.mid
    refine Wp.b e1 ?_
    refine Wp.b (fA_o b0) ?_
    have g1 : ld1 _ (.ptr b (o + 0)) = some (.int .i64 ((k : Nat) : Int)) := bload_ld1 e2 0 rfl
    refine Wp.b g1 ?_
    refine Wp.b (bin_neq _ _ _ _ _) (Wp.onF (by simp <;> omega) (Wp.b (bin_add _ _ _ _ _) ?_))
    rw [inc64 (by omega)]
    clear g1 e2 e1 bl b0 b o
    obtain ⟨b, o, b0, bl, e1, e2⟩ := r.mid
    refine Wp.b e1 ?_
    refine Wp.b (fA_o b0) ?_
    have g1 : ld1 _ (.ptr b (o + 1)) = some (.int .i64 (((k + 1) : Nat) : Int)) := bload_ld1 e2 1 rfl
    refine Wp.b g1 ?_
    refine Wp.b (bin_neq _ _ _ _ _) (Wp.onF (by simp <;> omega) (Wp.b (bin_add _ _ _ _ _) ?_))
    rw [inc64 (by omega)]
    clear g1 e2 e1 bl b0 b o
    obtain ⟨b, o, b0, bl, e1, e2⟩ := r.mid
    refine Wp.b e1 ?_
    refine Wp.b (fA_o b0) ?_
    refine Wp.b (fA_o b0) ?_
    have g1 : ld1 _ (.ptr b (o + 2 + 0)) = some (.int .i64 (((k + 2) : Nat) : Int)) := bload_ld1 e2 2 rfl
    refine Wp.b g1 ?_
    refine Wp.b (bin_neq _ _ _ _ _) (Wp.onF (by simp <;> omega) (Wp.b (bin_add _ _ _ _ _) ?_))
    rw [inc64 (by omega)]
    clear g1 e2 e1 bl b0 b o
    obtain ⟨b, o, b0, bl, e1, e2⟩ := r.mid
    refine Wp.b e1 ?_
    refine Wp.b (fA_o b0) ?_
    refine Wp.b (fA_o b0) ?_
    have g1 : ld1 _ (.ptr b (o + 2 + 1)) = some (.str (mt (k + 3))) := bload_ld1 e2 3 rfl
    refine Wp.b g1 ?_
    refine Wp.bind (mText (k + 3) (by omega) (by omega) _ ok) ?_
    rintro _ g' ⟨rfl, F'⟩
    refine Wp.pd F' b0 bl ?_
    replace F := F.trans0 F'
    replace ok := F'.ok ok
    replace r := r.fr F'
    refine Wp.b (str_neq _ _ _ _) (Wp.onF (by simp <;> omega) (Wp.b (bin_add _ _ _ _ _) ?_))
    rw [inc64 (by omega)]
    clear F' 
    clear g1 e2 e1 bl b0 b o
    refine Wp.b (bin_add _ _ _ _ _) ?_
    rw [inc64 (by omega)]
    have i1 := hSessionS_l v n (k + 4) (A ++ [mkSession k]) _ (by omega) (by omega) (by simp; omega) ok (by simpa using r)
    rw [List.length_append, List.length_singleton] at i1
    have e1 : k + 4 + 4 * n = k + 4 * (n + 1) := by omega
    rw [e1] at i1
    exact i1.mono fun r h'' ⟨q, F'⟩ => ⟨q, F.trans0 F'⟩
theorem hSessionS (n k : Nat) (hk1 : 1 ≤ k) (hk : k + 4 * n ≤ 1073741824) (v : V) (g : H) (ok : Hok g) (r : RV g v (mkLSession k n)) :
    Wp (R 57 [v, .int .i64 k] g) fun r g' => r = .int .i64 ((k + 4 * n : Nat) : Int) ∧ Fr [] g g' := by
  refine R57 rfl ?_
  rw [S57_eq]
  exact hSessionS_l v n k [] g hk1 hk (by simp; omega) ok r
end Go.Proofs.Ythoabddfionmoaa.AH
namespace Go.Proofs.Ythoabddfionmoaa.AH
open Go Go.RowKit
/-! The pure map. -/
def kSe (l : List Se) (id : Int) : Nat := (l.takeWhile fun x => decide (x.i < id)).length
def hasSe (l : List Se) (id : Int) : Bool := match l[kSe l id]? with | some x => decide (x.i = id) | none => false
def kPr (l : List Pr) (key : ByteArray) : Nat := (l.takeWhile fun x => sLt x.k key).length
def hasPr (l : List Pr) (key : ByteArray) : Bool := match l[kPr l key]? with | some x => decide (x.k = key) | none => false
def putPr (l : List Pr) (x : Pr) : List Pr := l.take (kPr l x.k) ++ [x] ++ l.drop (if hasPr l x.k then kPr l x.k + 1 else kPr l x.k)
def valPr (l : List Pr) (key : ByteArray) : ByteArray := match l[kPr l key]? with | some x => x.v | none => emp
def doPr (l : List Pr) (c : Cmd) : List Pr × Rp :=
  if c.o = 2 then (if hasPr l c.k = false ∧ l.length = 40 then (l, ⟨4, emp⟩) else (putPr l ⟨c.k, c.v⟩, ⟨0, emp⟩)) else
  if hasPr l c.k = false then (l, ⟨1, emp⟩) else
  if c.o = 1 then (l, ⟨0, valPr l c.k⟩) else
  if c.o = 3 then (l.take (kPr l c.k) ++ l.drop (kPr l c.k + 1), ⟨0, valPr l c.k⟩) else
  if valPr l c.k ≠ c.d then (l, ⟨3, valPr l c.k⟩) else (putPr l ⟨c.k, c.v⟩, ⟨0, emp⟩)
structure Kv where
  cells : List Pr
  sess : List Se
  deriving DecidableEq
def seAt (l : List Se) (id : Int) : Se := match l[kSe l id]? with | some x => x | none => ⟨0, 0, ⟨0, emp⟩⟩
def applySt (s : Kv) (c : Cmd) : Kv × Rp :=
  if okC c = false ∨ hasSe s.sess c.s = false ∧ s.sess.length = 12 then (s, ⟨4, emp⟩) else
  if hasSe s.sess c.s = true ∧ (seAt s.sess c.s).l = c.n then (s, (seAt s.sess c.s).r) else
  if hasSe s.sess c.s = true ∧ c.n < (seAt s.sess c.s).l then (s, ⟨2, emp⟩) else
  let d := doPr s.cells c
  (⟨d.1, s.sess.take (kSe s.sess c.s) ++ [⟨c.s, c.n, d.2⟩] ++ s.sess.drop (if hasSe s.sess c.s then kSe s.sess c.s + 1 else kSe s.sess c.s)⟩, d.2)
theorem tw_le {α : Type} (p : α → Bool) (l : List α) : (l.takeWhile p).length ≤ l.length := by
  induction l with
  | nil => simp
  | cons a l ih => rw [List.takeWhile_cons]; split <;> simp <;> omega
/-- The first place at which a beginning ends. -/
theorem tw_at {α : Type} (p : α → Bool) (l : List α) (i : Nat) (h : ∀ j (hj : j < l.length), j < i → p l[j] = true) (hi : i ≤ l.length) (he : ∀ (hi : i < l.length), p l[i] = false) : (l.takeWhile p).length = i := by
  induction l generalizing i with
  | nil => simp at hi; simp [hi]
  | cons a l ih =>
    rw [List.takeWhile_cons]
    cases i with
    | zero =>
      have := he (by simp)
      simp only [List.getElem_cons_zero] at this
      simp [this]
    | succ i =>
      have h0 := h 0 (by simp) (by omega)
      simp only [List.getElem_cons_zero] at h0
      simp only [h0, if_true, List.length_cons]
      rw [ih i (fun j hj hji => by have := h (j + 1) (by simpa using hj) (by omega); simpa using this) (by simpa using hi) (fun hi => by have := he (by simpa using hi); simpa using this)]
theorem kSe_le (l : List Se) (id : Int) : kSe l id ≤ l.length := tw_le _ _
theorem kPr_le (l : List Pr) (key : ByteArray) : kPr l key ≤ l.length := tw_le _ _
theorem l58 (l : List Se) (hn : l.length ≤ 1048576) (x : Int) (z id off : Nat) (h : H) (s : Sl l h z id off) : ∀ (n i : Nat), i + n = l.length → (∀ j (hj : j < l.length), j < i → l[j].i < x) →
    S58_l2 R (.sl z id off l.length) (.int .i64 x) (.int .i64 i) h = some (.tup [.int .i64 (kSe l x), .bool (hasSe l x)], h)
  | 0, i, hi, hv => by
    rw [S58_l2_eq]
    have : i = l.length := by omega
    subst this
    have e : kSe l x = l.length := tw_at _ _ _ (fun j hj hji => by simpa using hv j hj hji) (Nat.le_refl _) (fun hi => by omega)
    have e2 : hasSe l x = false := by unfold hasSe; rw [e]; simp
    simp [e, e2]
  | n + 1, i, hi, hv => by
    rw [S58_l2_eq]
    have hil : i < l.length := by omega
    have p := s.pos hil
    have eg : bload (h.blk id) (off + i * 4 + 0) 1 = some [V.int .i64 l[i].i] := bload_sub (s.get hil) 0 1 (by decide)
    simp only [lenL_sl, Option.bind_some, bin_lss, Int.ofNat_lt, hil, decide_true, spB_bool, if_true, iA_sl hil, fA_ptr p.1, ld1_ptr, eg, List.head?_cons, onB_bool, bin_add, decide_eq_true_eq, bin_eql]
    split
    · rename_i hlt
      rw [inc64 (by omega)]
      exact l58 l hn x z id off h s n (i + 1) (by omega) (fun j hj hji => by
        by_cases e : j = i
        · subst e; exact hlt
        · exact hv j hj (by omega))
    · rename_i hlt
      have e : kSe l x = i := tw_at _ _ _ (fun j hj hji => by simpa using hv j hj hji) (by omega) (fun hi => by simpa using hlt)
      have e2 : hasSe l x = decide (l[i].i = x) := by unfold hasSe; rw [e, List.getElem?_eq_getElem hil]
      simp [e, e2]
theorem c58 (l : List Se) (hn : l.length ≤ 1048576) (x : Int) (z id off : Nat) (h : H) (s : Sl l h z id off) :
    R 58 [.sl z id off l.length, .int .i64 x] h = some (.tup [.int .i64 (kSe l x), .bool (hasSe l x)], h) := by
  refine ret_of (R58 rfl ?_)
  rw [S58_eq]
  exact wp_of (l58 l hn x z id off h s l.length 0 (by omega) (fun j hj h0 => absurd h0 (by omega))) ⟨rfl, rfl⟩
theorem l78 (l : List Pr) (hn : l.length ≤ 1048576) (x : ByteArray) (z id off : Nat) (h : H) (s : Sl l h z id off) : ∀ (n i : Nat), i + n = l.length → (∀ j (hj : j < l.length), j < i → sLt l[j].k x = true) →
    S78_l2 R (.sl z id off l.length) (.str x) (.int .i64 i) h = some (.tup [.int .i64 (kPr l x), .bool (hasPr l x)], h)
  | 0, i, hi, hv => by
    rw [S78_l2_eq]
    have : i = l.length := by omega
    subst this
    have e : kPr l x = l.length := tw_at _ _ _ (fun j hj hji => by simpa using hv j hj hji) (Nat.le_refl _) (fun hi => by omega)
    have e2 : hasPr l x = false := by unfold hasPr; rw [e]; simp
    simp [e, e2]
  | n + 1, i, hi, hv => by
    rw [S78_l2_eq]
    have hil : i < l.length := by omega
    have p := s.pos hil
    have eg : bload (h.blk id) (off + i * 2 + 0) 1 = some [V.str l[i].k] := bload_sub (s.get hil) 0 1 (by decide)
    simp only [lenL_sl, Option.bind_some, bin_lss, Int.ofNat_lt, hil, decide_true, spB_bool, if_true, iA_sl hil, fA_ptr p.1, ld1_ptr, eg, List.head?_cons, onB_bool, bin_add, decide_eq_true_eq, str_eql, str_lss]
    split
    · rename_i hlt
      rw [inc64 (by omega)]
      exact l78 l hn x z id off h s n (i + 1) (by omega) (fun j hj hji => by
        by_cases e : j = i
        · subst e; exact hlt
        · exact hv j hj (by omega))
    · rename_i hlt
      have e : kPr l x = i := tw_at _ _ _ (fun j hj hji => by simpa using hv j hj hji) (by omega) (fun hi => by simpa using hlt)
      have e2 : hasPr l x = decide (l[i].k = x) := by unfold hasPr; rw [e, List.getElem?_eq_getElem hil]
      simp [e, e2]
theorem c78 (l : List Pr) (hn : l.length ≤ 1048576) (x : ByteArray) (z id off : Nat) (h : H) (s : Sl l h z id off) :
    R 78 [.sl z id off l.length, .str x] h = some (.tup [.int .i64 (kPr l x), .bool (hasPr l x)], h) := by
  refine ret_of (R78 rfl ?_)
  rw [S78_eq]
  exact wp_of (l78 l hn x z id off h s l.length 0 (by omega) (fun j hj h0 => absurd h0 (by omega))) ⟨rfl, rfl⟩
theorem hasPr_lt {l : List Pr} {x : ByteArray} (e : hasPr l x = true) : kPr l x < l.length := by
  unfold hasPr at e
  by_cases h : kPr l x < l.length
  · exact h
  · rw [List.getElem?_eq_none (by omega)] at e; cases e
theorem hasSe_lt {l : List Se} {x : Int} (e : hasSe l x = true) : kSe l x < l.length := by
  unfold hasSe at e
  by_cases h : kSe l x < l.length
  · exact h
  · rw [List.getElem?_eq_none (by omega)] at e; cases e
/-! GoodCommand of the reference. -/
theorem j42 (c : Cmd) (h : H) (id : Nat) (h0 : id ≠ 0) (e : ∃ n, h.blk id = ⟨c.en, n, true⟩) :
    S42_j3 R (.ptr id 0) h = some (.bool ((decide (c.v = emp) || decide (c.o = 2) || decide (c.o = 4)) && (decide (c.d = emp) || decide (c.o = 4))), h) := by
  obtain ⟨n, e⟩ := e
  rw [S42_j3_eq]
  simp only [fA_ptr h0, Option.bind_some, ld1_ptr, e, bload_mk, Cmd.en, Nat.zero_add, List.length_cons, List.length_nil, Nat.reduceAdd, Nat.reduceLeDiff, List.drop_succ_cons, List.drop_zero, List.take_succ_cons, List.take_zero, List.head?_cons, str_eql, bin_eql, spB_bool]
  by_cases h1 : c.v = emp <;> by_cases h2 : c.d = emp <;> by_cases h3 : c.o = 2 <;> by_cases h4 : c.o = 4 <;> simp_all [emp]
theorem c42 (c : Cmd) (h : H) (hk : Hok h) : R 42 [.agg c.en] h = some (.bool (okC c), h.new c.en) := by
  refine ret_of (R42 rfl ?_)
  have h0 := hk.pos
  have hj := j42 c (h.new c.en) h.next h0 ⟨_, by rw [blk_new, if_pos rfl]⟩
  rw [S42_eq]
  refine wp_of (v := _) (h := _) ?_ ⟨rfl, rfl⟩
  simp only [Cmd.en] at hj
  simp [h0, c67, c68, Cmd.en, hj]
  by_cases q1 : c.s < 0 ∨ 99 < c.s
  · simp only [if_pos q1, okC]; simp; intros; omega
  by_cases q2 : c.n < 1 ∨ 1000000 < c.n
  · simp only [if_neg q1, if_pos q2, okC]; simp; intros; omega
  by_cases q3 : c.o < 1 ∨ 4 < c.o
  · simp only [if_neg q1, if_neg q2, if_pos q3, okC]; simp; intros; omega
  have q1' : 0 ≤ c.s ∧ c.s ≤ 99 := by omega
  have q2' : 1 ≤ c.n ∧ c.n ≤ 1000000 := by omega
  have q3' : 1 ≤ c.o ∧ c.o ≤ 4 := by omega
  simp only [if_neg q1, if_neg q2, if_neg q3, okC, q1', q2', q3', valOk]
  cases keyOk c.k
  · simp
  by_cases h1 : (40 : Int) < c.v.size
  · have : ¬ (c.v.size : Int) ≤ 40 := by omega
    simp [h1, this]
  by_cases h2 : (40 : Int) < c.d.size
  · have h2' : ¬ (c.d.size : Int) ≤ 40 := by omega
    simp [h1, h2, h2']
  have h1' : (c.v.size : Int) ≤ 40 := by omega
  have h2' : (c.d.size : Int) ≤ 40 := by omega
  simp [h1, h2, h1', h2']
end Go.Proofs.Ythoabddfionmoaa.AH
