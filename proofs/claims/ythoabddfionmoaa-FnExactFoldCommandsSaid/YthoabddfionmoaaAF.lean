/- The abstract heap's laws for simplification; frames; slices that read a list; contracts' words. No condition. -/
import Derived.Test.YthoabddfionmoaaAE
import Derived.Lib.Strings
set_option linter.unusedVariables false
set_option linter.unusedSimpArgs false
namespace Go.Proofs.Ythoabddfionmoaa.AH
open Go Go.RowKit

/-! ### The heap -/
def bload (b : Blk) (off n : Nat) : Option (List V) := if b.alive = true ∧ off + n ≤ b.cells.length then some ((b.cells.drop off).take n) else none
theorem load_eq (h : H) (id off n : Nat) : h.load id off n = bload (h.blk id) off n := rfl
@[simp] theorem next_upd (h : H) (i : Nat) (b : Blk) : (h.upd i b).next = h.next := rfl
@[simp] theorem lo_upd (h : H) (i : Nat) (b : Blk) : (h.upd i b).lo = h.lo := rfl
@[simp] theorem next_new (h : H) (cs : List V) : (h.new cs).next = h.next + 1 := rfl
@[simp] theorem lo_new (h : H) (cs : List V) : (h.new cs).lo = h.lo := rfl
@[simp] theorem next_kill (h : H) (i : Nat) : (h.kill i).next = h.next := rfl
@[simp] theorem lo_kill (h : H) (i : Nat) : (h.kill i).lo = h.lo := rfl
theorem blk_upd (h : H) (i : Nat) (b : Blk) (j : Nat) : (h.upd i b).blk j = if j = i then b else h.blk j := rfl
theorem blk_new (h : H) (cs : List V) (j : Nat) : (h.new cs).blk j = if j = h.next then ⟨cs, (h.blk h.next).ver, true⟩ else h.blk j := rfl
theorem blk_kill (h : H) (i j : Nat) : (h.kill i).blk j = if j = i then ⟨(h.blk i).cells, (h.blk i).ver + 1, false⟩ else h.blk j := rfl
theorem store_eq (h : H) (id off : Nat) (vs : List V) : h.store id off vs =
  if (h.blk id).alive = true ∧ h.lo ≤ id ∧ off + vs.length ≤ (h.blk id).cells.length then
    some (h.upd id ⟨(h.blk id).cells.take off ++ vs ++ (h.blk id).cells.drop (off + vs.length), (h.blk id).ver + 1, true⟩) else none := rfl
theorem bload_mk (cs : List V) (ver off n : Nat) (k : off + n ≤ cs.length) : bload ⟨cs, ver, true⟩ off n = some ((cs.drop off).take n) := if_pos ⟨rfl, k⟩
theorem bload_alive {b : Blk} {off n : Nat} {l : List V} (e : bload b off n = some l) : b.alive = true ∧ off + n ≤ b.cells.length ∧ l = (b.cells.drop off).take n := by
  unfold bload at e
  split at e
  · rename_i h; cases e; exact ⟨h.1, h.2, rfl⟩
  · cases e
theorem bload_sub {b : Blk} {off n : Nat} {l : List V} (e : bload b off n = some l) (j m : Nat) (k : j + m ≤ n) : bload b (off + j) m = some ((l.drop j).take m) := by
  obtain ⟨h1, h2, rfl⟩ := bload_alive e
  unfold bload
  rw [if_pos ⟨h1, by omega⟩, List.drop_take, List.take_take, List.drop_drop]
  congr 2
  omega
theorem bload_len {b : Blk} {off n : Nat} {l : List V} (e : bload b off n = some l) : l.length = n := by
  obtain ⟨h1, h2, rfl⟩ := bload_alive e
  simp only [List.length_take, List.length_drop]; omega

/-! ### Frames -/
def Hok (h : H) : Prop := 0 < h.lo ∧ h.lo ≤ h.next
def Fr (S : List Nat) (h h' : H) : Prop := h'.lo = h.lo ∧ h.next ≤ h'.next ∧ ∀ j, j ≠ 0 → j < h.next → j ∉ S → h'.blk j = h.blk j
theorem Fr.refl (S : List Nat) (h : H) : Fr S h h := ⟨rfl, Nat.le_refl _, fun _ _ _ _ => rfl⟩
theorem Fr.trans {S T : List Nat} {a b c : H} (x : Fr S a b) (y : Fr T b c) (hS : ∀ j ∈ T, j < a.next → j ∈ S) : Fr S a c :=
  ⟨y.1.trans x.1, Nat.le_trans x.2.1 y.2.1, fun j h0 h1 h2 => (y.2.2 j h0 (Nat.lt_of_lt_of_le h1 x.2.1) (fun hj => h2 (hS j hj h1))).trans (x.2.2 j h0 h1 h2)⟩
theorem Fr.trans0 {S : List Nat} {a b c : H} (x : Fr S a b) (y : Fr [] b c) : Fr S a c := x.trans y (fun j hj => by cases hj)
theorem Fr.mono {S T : List Nat} {a b : H} (x : Fr S a b) (k : ∀ j ∈ S, j ∈ T) : Fr T a b := ⟨x.1, x.2.1, fun j h0 h1 h2 => x.2.2 j h0 h1 fun hj => h2 (k j hj)⟩
theorem Fr.new {S : List Nat} {a b : H} (x : Fr S a b) (cs : List V) : Fr S a (b.new cs) :=
  ⟨x.1, Nat.le_succ_of_le x.2.1, fun j h0 h1 h2 => by
    rw [blk_new, if_neg (by have := x.2.1; omega)]; exact x.2.2 j h0 h1 h2⟩
theorem Fr.upd {S : List Nat} {a b : H} (x : Fr S a b) {i : Nat} (c : Blk) (k : i ∈ S ∨ a.next ≤ i ∨ i = 0) : Fr S a (b.upd i c) :=
  ⟨x.1, x.2.1, fun j h0 h1 h2 => by
    have : j ≠ i := by rintro rfl; rcases k with k | k | k <;> first | exact h2 k | omega
    rw [blk_upd, if_neg this]; exact x.2.2 j h0 h1 h2⟩
theorem Fr.kill {S : List Nat} {a b : H} (x : Fr S a b) {i : Nat} (k : i ∈ S ∨ a.next ≤ i ∨ i = 0) : Fr S a (b.kill i) := x.upd _ k
theorem Fr.blk {S : List Nat} {a b : H} (x : Fr S a b) {j : Nat} (h0 : j ≠ 0) (h1 : j < a.next) (h2 : j ∉ S) : b.blk j = a.blk j := x.2.2 j h0 h1 h2
theorem Fr.blk0 {a b : H} (x : Fr [] a b) {j : Nat} (h0 : j ≠ 0) (h1 : j < a.next) : b.blk j = a.blk j := x.2.2 j h0 h1 (by simp)
theorem Fr.blk1 {i : Nat} {a b : H} (x : Fr [i] a b) {j : Nat} (h0 : j ≠ 0) (h1 : j < a.next) (h2 : j ≠ i) : b.blk j = a.blk j := x.2.2 j h0 h1 (by simpa using h2)
theorem Fr.ok {S : List Nat} {a b : H} (x : Fr S a b) (k : Hok a) : Hok b := ⟨x.1 ▸ k.1, x.1 ▸ Nat.le_trans k.2 x.2.1⟩
theorem Hok.new {h : H} (k : Hok h) (cs : List V) : Hok (h.new cs) := ⟨k.1, Nat.le_succ_of_le k.2⟩
theorem Hok.upd {h : H} (k : Hok h) (i : Nat) (b : Blk) : Hok (h.upd i b) := k
theorem Hok.kill {h : H} (k : Hok h) (i : Nat) : Hok (h.kill i) := k

/-! ### Contracts -/
def Wp (m : Option (V × H)) (Q : V → H → Prop) : Prop := ∃ r h', m = some (r, h') ∧ Q r h'
theorem Wp.ret {Q : V → H → Prop} {r : V} {h : H} (q : Q r h) : Wp (some (r, h)) Q := ⟨r, h, rfl, q⟩
theorem Wp.bind {m : Option (V × H)} {Q1 Q : V → H → Prop} {f : V × H → Option (V × H)} (c : Wp m Q1) (k : ∀ r h', Q1 r h' → Wp (f (r, h')) Q) : Wp (m.bind f) Q := by
  obtain ⟨r, h', e, q⟩ := c
  rw [e]; exact k r h' q
theorem Wp.mono {m : Option (V × H)} {Q Q' : V → H → Prop} (c : Wp m Q) (k : ∀ r h', Q r h' → Q' r h') : Wp m Q' := by
  obtain ⟨r, h', e, q⟩ := c
  exact ⟨r, h', e, k r h' q⟩
theorem Wp.run {P : Program} {prims : Prims} {ann : Nat → Nat → List Nat} {f : Nat} {fn : Func} {c : Code} (hp : prims f = none) (hf : P.funcs[f]? = some fn) (hb : fn.body = some c) (hname : (fn.name == "runtime.NumGoroutine") = false) {args : List V} (hlen : args.length ≤ fn.ntmps) {h : H} {Q : V → H → Prop}
    (w : Wp (bodyK P (AH.run P prims ann) (ann f) fn c args h) Q) : Wp (AH.run P prims ann f args h) Q := by
  obtain ⟨r, h', e, q⟩ := w
  exact ⟨r, h', run_bodyK hp hf hb hname hlen e, q⟩
theorem Wp.prim {P : Program} {prims : Prims} {ann : Nat → Nat → List Nat} {f : Nat} {p : List V → H → Option (V × H)} (hp : prims f = Option.some p) {args : List V} {h : H} {Q : V → H → Prop}
    (w : Wp (p args h) Q) : Wp (AH.run P prims ann f args h) Q := by
  obtain ⟨r, h', e, q⟩ := w
  exact ⟨r, h', run_prim hp e, q⟩

/-! ### Words on whole numbers, letters -/
theorem beq_dec {α : Type} [DecidableEq α] (a b : α) : (a == b) = decide (a = b) := by
  by_cases h : a = b
  · subst h; simp
  · simp [h]
section
variable (P : Program) (t : TypeId) (k : IntKind) (a b : Int) (s u : ByteArray)
@[simp] theorem bin_lss : binV P .lss t (.int k a) (.int k b) = some (.bool (decide (a < b))) := by simp [binV, intOp]
@[simp] theorem bin_leq : binV P .leq t (.int k a) (.int k b) = some (.bool (decide (a ≤ b))) := by simp [binV, intOp]
@[simp] theorem bin_gtr : binV P .gtr t (.int k a) (.int k b) = some (.bool (decide (b < a))) := by simp [binV, intOp]
@[simp] theorem bin_geq : binV P .geq t (.int k a) (.int k b) = some (.bool (decide (b ≤ a))) := by simp [binV, intOp]
@[simp] theorem bin_eql : binV P .eql t (.int k a) (.int k b) = some (.bool (decide (a = b))) := by simp [binV, intOp, beq_dec]
@[simp] theorem bin_neq : binV P .neq t (.int k a) (.int k b) = some (.bool (!decide (a = b))) := by simp [binV, intOp, bne, beq_dec]
@[simp] theorem bin_add : binV P .add t (.int k a) (.int k b) = some (.int k (k.wrap (a + b))) := by simp [binV, intOp]
@[simp] theorem bin_sub : binV P .sub t (.int k a) (.int k b) = some (.int k (k.wrap (a - b))) := by simp [binV, intOp]
@[simp] theorem bin_mul : binV P .mul t (.int k a) (.int k b) = some (.int k (k.wrap (a * b))) := by simp [binV, intOp]
theorem bin_quo (hb : b ≠ 0) : binV P .quo t (.int k a) (.int k b) = some (.int k (k.wrap (a.tdiv b))) := by simp [binV, intOp, hb]
theorem bin_rem (hb : b ≠ 0) : binV P .rem t (.int k a) (.int k b) = some (.int k (a.tmod b)) := by simp [binV, intOp, hb]
theorem bytes_eqb (s u : ByteArray) : (s.toList == u.toList) = decide (s = u) := by
  rw [ByteArray.toList_eq, ByteArray.toList_eq, Bool.eq_iff_iff, beq_iff_eq, decide_eq_true_eq]
  constructor
  · intro h
    cases s; cases u
    simp only [ByteArray.mk.injEq]
    exact Array.ext' h
  · rintro rfl; rfl
@[simp] theorem str_eql : binV P .eql t (.str s) (.str u) = some (.bool (decide (s = u))) := by simp only [binV, strOp, bytes_eqb]
@[simp] theorem str_neq : binV P .neq t (.str s) (.str u) = some (.bool (!decide (s = u))) := by simp only [binV, strOp, bytes_eqb]
def sLt (s u : ByteArray) : Bool := Op.bytesLess s.toList u.toList
@[simp] theorem str_lss : binV P .lss t (.str s) (.str u) = some (.bool (sLt s u)) := rfl
@[simp] theorem str_gtr : binV P .gtr t (.str s) (.str u) = some (.bool (!(sLt s u || decide (s = u)))) := by simp only [binV, strOp, bytes_eqb]; rfl
@[simp] theorem str_geq : binV P .geq t (.str s) (.str u) = some (.bool (!(sLt s u))) := rfl
@[simp] theorem str_leq : binV P .leq t (.str s) (.str u) = some (.bool (sLt s u || decide (s = u))) := by simp only [binV, strOp, bytes_eqb]; rfl
theorem str_add (hk : s.size + u.size < 9223372036854775808) : binV P .add t (.str s) (.str u) = some (.str (s ++ u)) := by
  have : ¬ (((s.size + u.size : Nat) : Int) > IntKind.i64.max) := by
    have : IntKind.i64.max = 9223372036854775807 := by rfl
    omega
  simp only [binV, strOp]; rw [if_neg this]
@[simp] theorem not_bool (b : Bool) : unV .not (.bool b) = some (.bool !b) := rfl
theorem wrap64 {x : Int} (h1 : -9223372036854775808 ≤ x) (h2 : x < 9223372036854775808) : IntKind.i64.wrap x = x := by
  have e : IntKind.i64.wrap x = (if x % 18446744073709551616 ≥ 9223372036854775808 then x % 18446744073709551616 - 18446744073709551616 else x % 18446744073709551616) := by
    unfold IntKind.wrap
    have h64 : (2 : Int) ^ 64 = 18446744073709551616 := by decide
    have h63 : (2 : Int) ^ (64 - 1) = 9223372036854775808 := by decide
    simp only [IntKind.bits, IntKind.signed, h64, h63, Bool.true_and, decide_eq_true_eq]
  rw [e]
  split <;> omega
@[simp] theorem neq_bool (x y : Bool) (e : P.underlying t = some .bool) : binV P .neq t (.bool x) (.bool y) = some (.bool (x != y)) := by
  have : eqV P Op.maxDepth t (.bool x) (.bool y) = some (x == y) := by
    show eqV P (_ + 1) t _ _ = _
    unfold eqV; rw [e]
  simp only [binV, this]; cases x <;> cases y <;> rfl
end
@[simp] theorem onB_bool {R : Type} (c : Bool) (a b : Option R) : onB (.bool c) a b = if c = true then a else b := by cases c <;> rfl
@[simp] theorem spB_bool {R : Type} (c : Bool) (a b : Option R) : spB (.bool c) a b = if c = true then a else b := by cases c <;> rfl
@[simp] theorem ext_tup (vs : List V) (i : Nat) : extV (.tup vs) i = vs[i]? := rfl
@[simp] theorem lenL_sl (z id off n : Nat) : lenL (.sl z id off n) = some (.int .i64 n) := rfl
@[simp] theorem lenS_str (s : ByteArray) : lenS (.str s) = some (.int .i64 s.size) := rfl
theorem iA_sl {z id off len s : Nat} {n : Nat} (k : n < len) : iA s (.sl z id off len) (.int .i64 n) = some (.ptr id (off + n * s)) := by
  show (if (0 : Int) ≤ (n : Int) ∧ (n : Int) < (len : Int) then _ else _) = _
  rw [if_pos ⟨by omega, by omega⟩]; simp
theorem fA_ptr {o id off : Nat} (k : id ≠ 0) : fA o (.ptr id off) = some (.ptr id (off + o)) := if_neg k
theorem nilC_ptr {id off : Nat} (k : id ≠ 0) : nilC (.ptr id off) = some (.ptr id off) := if_neg k
@[simp] theorem ld1_ptr (h : H) (id off : Nat) : ld1 h (.ptr id off) = (bload (h.blk id) off 1).bind List.head? := rfl
@[simp] theorem ldn_ptr (n : Nat) (h : H) (id off : Nat) : ldn n h (.ptr id off) = (bload (h.blk id) off n).map V.agg := rfl
@[simp] theorem ress_nil : ress [] = some [] := rfl
@[simp] theorem ress_cons (r : Option V) (l : List (Option V)) : ress (r :: l) = r.bind fun v => (ntup v).bind fun v => (ress l).map (v :: ·) := rfl
@[simp] theorem ntup_int (k : IntKind) (n : Int) : ntup (.int k n) = some (.int k n) := rfl
@[simp] theorem ntup_bool (b : Bool) : ntup (.bool b) = some (.bool b) := rfl
@[simp] theorem ntup_str (s : ByteArray) : ntup (.str s) = some (.str s) := rfl
@[simp] theorem ntup_ptr (a b : Nat) : ntup (.ptr a b) = some (.ptr a b) := rfl
@[simp] theorem ntup_sl (a b c d : Nat) : ntup (.sl a b c d) = some (.sl a b c d) := rfl
@[simp] theorem ntup_agg (l : List V) : ntup (.agg l) = some (.agg l) := rfl
@[simp] theorem tupOf_one (v : V) : tupOf [v] = v := rfl
@[simp] theorem tupOf_two (v u : V) (l : List V) : tupOf (v :: u :: l) = .tup (v :: u :: l) := rfl
@[simp] theorem tupOf_nil : tupOf [] = .tup [] := rfl
@[simp] theorem cells_int (k : IntKind) (n : Int) : cellsV (.int k n) = some [.int k n] := rfl
@[simp] theorem cells_bool (b : Bool) : cellsV (.bool b) = some [.bool b] := rfl
@[simp] theorem cells_str (s : ByteArray) : cellsV (.str s) = some [.str s] := rfl
@[simp] theorem cells_ptr (a b : Nat) : cellsV (.ptr a b) = some [.ptr a b] := rfl
@[simp] theorem cells_sl (a b c d : Nat) : cellsV (.sl a b c d) = some [.sl a b c d] := rfl
@[simp] theorem cells_fn (a : Nat) (l : List (Nat × Nat)) : cellsV (.fn a l) = some [.fn a l] := rfl
@[simp] theorem cells_agg (l : List V) : cellsV (.agg l) = some l := rfl
attribute [simp] blk_new blk_upd blk_kill fA_ptr nilC_ptr load_eq store_eq
theorem bload_mk' (cs : List V) (ver off n : Nat) (k : off + n ≤ cs.length) : bload { cells := cs, ver := ver, alive := true } off n = some ((cs.drop off).take n) := bload_mk cs ver off n k
attribute [simp] bload_mk
@[simp] theorem stN_ptr {R : Type} (n : Nat) (h : H) (id off : Nat) (v : V) (k : H → Option R) : stN n h (.ptr id off) v k = (cellsV v).bind fun vs => if vs.length = n then (h.store id off vs).bind k else none := rfl
@[simp] theorem bxK_eq {R : Type} (h : H) (v : V) (k : V → H → Option R) : bxK h v k = (cellsV v).bind fun cs => k (.ptr h.next 0) (h.new cs) := rfl
@[simp] theorem alK_eq {R : Type} (z : List V) (h : H) (k : V → H → Option R) : alK z h k = k (.ptr h.next 0) (h.new z) := rfl
@[simp] theorem bld_nil (z : List V) : bld z [] = some z := rfl
@[simp] theorem bld_cons (z : List V) (o n : Nat) (v : V) (r : List (Nat × Nat × V)) : bld z ((o, n, v) :: r) = (cellsV v).bind fun vs => if vs.length = n then (splice z o vs).bind fun cs => bld cs r else none := rfl
@[simp] theorem bldV_eq (z : List V) (ps : List (Nat × Nat × V)) : bldV z ps = (bld z ps).bind fun cs => some (.agg cs) := rfl
@[simp] theorem bsK_eq {R : Type} (sz n : Nat) (h : H) (z : List V) (ps : List (Nat × Nat × V)) (k : V → H → Option R) : bsK sz n h z ps k = (bld z ps).bind fun cs => k (.sl sz h.next 0 n) (h.new cs) := rfl
@[simp] theorem splice_eq (cells : List V) (off : Nat) (vs : List V) : splice cells off vs = if off + vs.length ≤ cells.length then some (cells.take off ++ vs ++ cells.drop (off + vs.length)) else none := rfl
@[simp] theorem pdV_ptr {R : Type} (h' h : H) (id off : Nat) (k : Option R) : pdV h' (.ptr id off) h k = if (h'.blk id).ver = (h.blk id).ver then k else none := rfl
@[simp] theorem ne_up2 (n : Nat) : (n = n + 1 + 1) = False := by simp only [eq_iff_iff, iff_false]; omega
@[simp] theorem ne_dn2 (n : Nat) : (n + 1 + 1 = n) = False := by simp only [eq_iff_iff, iff_false]; omega
@[simp] theorem ne_up3 (n : Nat) : (n = n + 1 + 1 + 1) = False := by simp only [eq_iff_iff, iff_false]; omega
@[simp] theorem ne_dn3 (n : Nat) : (n + 1 + 1 + 1 = n) = False := by simp only [eq_iff_iff, iff_false]; omega
@[simp] theorem ne_up4 (n : Nat) : (n = n + 1 + 1 + 1 + 1) = False := by simp only [eq_iff_iff, iff_false]; omega
@[simp] theorem ne_dn4 (n : Nat) : (n + 1 + 1 + 1 + 1 = n) = False := by simp only [eq_iff_iff, iff_false]; omega
@[simp] theorem ne_up5 (n : Nat) : (n = n + 1 + 1 + 1 + 1 + 1) = False := by simp only [eq_iff_iff, iff_false]; omega
@[simp] theorem ne_dn5 (n : Nat) : (n + 1 + 1 + 1 + 1 + 1 = n) = False := by simp only [eq_iff_iff, iff_false]; omega
@[simp] theorem ne_up6 (n : Nat) : (n = n + 1 + 1 + 1 + 1 + 1 + 1) = False := by simp only [eq_iff_iff, iff_false]; omega
@[simp] theorem ne_dn6 (n : Nat) : (n + 1 + 1 + 1 + 1 + 1 + 1 = n) = False := by simp only [eq_iff_iff, iff_false]; omega
@[simp] theorem ne_up7 (n : Nat) : (n = n + 1 + 1 + 1 + 1 + 1 + 1 + 1) = False := by simp only [eq_iff_iff, iff_false]; omega
@[simp] theorem ne_dn7 (n : Nat) : (n + 1 + 1 + 1 + 1 + 1 + 1 + 1 = n) = False := by simp only [eq_iff_iff, iff_false]; omega
@[simp] theorem ne_up8 (n : Nat) : (n = n + 1 + 1 + 1 + 1 + 1 + 1 + 1 + 1) = False := by simp only [eq_iff_iff, iff_false]; omega
@[simp] theorem ne_dn8 (n : Nat) : (n + 1 + 1 + 1 + 1 + 1 + 1 + 1 + 1 = n) = False := by simp only [eq_iff_iff, iff_false]; omega
theorem Hok.pos {h : H} (k : Hok h) : h.next ≠ 0 := by have := k.1; have := k.2; omega
@[simp] theorem capsV_nil : mkF.capsV [] = some [] := rfl

/-! ### Lists in memory -/
class Enc (α : Type) where
  sz : Nat
  pos : 0 < sz
  enc : α → List V
  len : ∀ a, (enc a).length = sz
def flat {α : Type} [Enc α] (l : List α) : List V := l.flatMap Enc.enc
variable {α : Type} [Enc α]
theorem flat_len (l : List α) : (flat l).length = l.length * Enc.sz α := by
  induction l with
  | nil => simp [flat]
  | cons a l ih => simp only [flat, List.flatMap_cons, List.length_append, Enc.len, List.length_cons, Nat.add_mul] at *; omega
theorem flat_append (l m : List α) : flat (l ++ m) = flat l ++ flat m := by simp [flat]
theorem flat_cons (a : α) (l : List α) : flat (a :: l) = Enc.enc a ++ flat l := by simp [flat]
theorem flat_nil : flat ([] : List α) = [] := rfl
theorem flat_one (a : α) : flat [a] = Enc.enc a := by simp [flat]
theorem flat_drop (l : List α) (k : Nat) : (flat l).drop (k * Enc.sz α) = flat (l.drop k) := by
  induction l generalizing k with
  | nil => simp [flat]
  | cons a l ih =>
    cases k with
    | zero => simp
    | succ k =>
      rw [flat_cons, List.drop_succ_cons, ← ih k, Nat.add_mul, Nat.one_mul, Nat.add_comm]
      rw [← List.drop_drop, List.drop_append_of_le_length (Nat.le_of_eq (Enc.len a).symm)]
      rw [List.drop_eq_nil_of_le (Nat.le_of_eq (Enc.len a)), List.nil_append]
theorem flat_take (l : List α) (k : Nat) : (flat l).take (k * Enc.sz α) = flat (l.take k) := by
  induction l generalizing k with
  | nil => simp [flat]
  | cons a l ih =>
    cases k with
    | zero => simp [flat]
    | succ k =>
      rw [flat_cons, List.take_succ_cons, flat_cons, ← ih k, Nat.add_mul, Nat.one_mul, Nat.add_comm]
      rw [List.take_append, Enc.len]
      congr 1
      · exact List.take_of_length_le (by have := Enc.len a; omega)
      · congr 1; omega
theorem flat_get (l : List α) (k : Nat) (hk : k < l.length) : ((flat l).drop (k * Enc.sz α)).take (Enc.sz α) = Enc.enc l[k] := by
  rw [flat_drop, List.drop_eq_getElem_cons hk, flat_cons, List.take_append_of_le_length (Nat.le_of_eq (Enc.len _).symm)]
  exact List.take_of_length_le (Nat.le_of_eq (Enc.len _))
/-- The slice (z, id, off, l.length) reads l. -/
def Sl (l : List α) (h : H) (z id off : Nat) : Prop :=
  (id = 0 ∧ l = []) ∨ (id ≠ 0 ∧ z = Enc.sz α ∧ id < h.next ∧ bload (h.blk id) off (l.length * Enc.sz α) = some (flat l))
theorem Sl.nil (h : H) (z off : Nat) : Sl ([] : List α) h z 0 off := .inl ⟨rfl, rfl⟩
theorem Sl.pos {l : List α} {h : H} {z id off : Nat} (s : Sl l h z id off) {k : Nat} (hk : k < l.length) : id ≠ 0 ∧ z = Enc.sz α ∧ id < h.next := by
  rcases s with ⟨_, rfl⟩ | s
  · simp at hk
  · exact ⟨s.1, s.2.1, s.2.2.1⟩
theorem Sl.get {l : List α} {h : H} {z id off : Nat} (s : Sl l h z id off) {k : Nat} (hk : k < l.length) : bload (h.blk id) (off + k * Enc.sz α) (Enc.sz α) = some (Enc.enc l[k]) := by
  rcases s with ⟨_, rfl⟩ | s
  · simp at hk
  · rw [bload_sub s.2.2.2 (k * Enc.sz α) (Enc.sz α) (by have := Nat.mul_le_mul_right (Enc.sz α) hk; rw [Nat.succ_mul] at this; exact this), flat_get]
theorem Sl.blk {l : List α} {h h' : H} {z id off : Nat} (s : Sl l h z id off) (e : id ≠ 0 → h'.blk id = h.blk id) (n : h.next ≤ h'.next) : Sl l h' z id off := by
  rcases s with s | s
  · exact .inl s
  · exact .inr ⟨s.1, s.2.1, by omega, by rw [e s.1]; exact s.2.2.2⟩
theorem Sl.fr {S : List Nat} {l : List α} {h h' : H} {z id off : Nat} (s : Sl l h z id off) (F : Fr S h h') (k : id ∉ S) : Sl l h' z id off := by
  rcases s with s | s
  · exact .inl s
  · exact .inr ⟨s.1, s.2.1, Nat.lt_of_lt_of_le s.2.2.1 F.2.1, by rw [F.blk s.1 s.2.2.1 k]; exact s.2.2.2⟩
theorem Sl.fr0 {l : List α} {h h' : H} {z id off : Nat} (s : Sl l h z id off) (F : Fr [] h h') : Sl l h' z id off := s.fr F (by simp)
theorem Sl.lt {l : List α} {h : H} {z id off : Nat} (s : Sl l h z id off) (k : Hok h) : id < h.next := by
  rcases s with s | s
  · rw [s.1]; exact Nat.lt_of_lt_of_le k.1 k.2
  · exact s.2.2.1
theorem Sl.sub {l : List α} {h : H} {z id off : Nat} (s : Sl l h z id off) (a b : Nat) (hab : a + b ≤ l.length) : Sl ((l.drop a).take b) h z id (off + a * Enc.sz α) := by
  rcases s with ⟨h0, rfl⟩ | s
  · exact .inl ⟨h0, by simp⟩
  · refine .inr ⟨s.1, s.2.1, s.2.2.1, ?_⟩
    have hl : ((l.drop a).take b).length = b := by simp only [List.length_take, List.length_drop]; omega
    rw [hl, bload_sub s.2.2.2 (a * Enc.sz α) (b * Enc.sz α) (by rw [← Nat.add_mul]; exact Nat.mul_le_mul_right _ hab), flat_drop, flat_take]
theorem slL_some {z id off len sz a b : Nat} (hz : sz = z ∨ id = 0) (ha : a ≤ b) (hb : b ≤ len) :
    slL sz (.sl z id off len) (some (.int .i64 a)) (some (.int .i64 b)) none = some (.sl z id (off + a * sz) (b - a)) := by
  have h1 : (0 : Int) ≤ (b : Int) ∧ (b : Int) ≤ (len : Int) := ⟨by omega, by omega⟩
  have h2 : (0 : Int) ≤ (a : Int) ∧ (a : Int) ≤ (b : Int) := ⟨by omega, by omega⟩
  simp only [slL, if_pos hz, bnd, Option.bind_some, Option.isSome_none, Bool.false_and, Bool.false_eq_true, if_false, if_pos h1, Int.toNat_natCast, if_pos h2]
theorem slL_hi {z id off len sz b : Nat} (hz : sz = z ∨ id = 0) (hb : b ≤ len) :
    slL sz (.sl z id off len) none (some (.int .i64 b)) none = some (.sl z id off b) := by
  have h1 : (0 : Int) ≤ (b : Int) ∧ (b : Int) ≤ (len : Int) := ⟨by omega, by omega⟩
  simp only [slL, if_pos hz, bnd, Option.bind_some, Option.isSome_none, Bool.false_and, Bool.false_eq_true, if_false, if_pos h1, Int.toNat_natCast, Nat.zero_mul, Nat.add_zero, Nat.sub_zero]
theorem slL_lo {z id off len sz a : Nat} (hz : sz = z ∨ id = 0) (ha : a ≤ len) :
    slL sz (.sl z id off len) (some (.int .i64 a)) none none = some (.sl z id (off + a * sz) (len - a)) := by
  have h2 : (0 : Int) ≤ (a : Int) ∧ (a : Int) ≤ (len : Int) := ⟨by omega, by omega⟩
  simp only [slL, if_pos hz, bnd, Option.bind_some, Option.isSome_none, Bool.false_and, Bool.false_eq_true, if_false, Int.toNat_natCast, if_pos h2]
theorem Sl.zor {l : List α} {h : H} {z id off : Nat} (s : Sl l h z id off) : Enc.sz α = z ∨ id = 0 := by
  rcases s with s | s
  · exact .inr s.1
  · exact .inl s.2.1.symm
/-- Append: a new block; the old one is dead. -/
theorem apL_sl {l m : List α} {h : H} {z id off z' id' off' bytes : Nat} (hk : Hok h) (s : Sl l h z id off) (own : id = 0 ∨ h.lo ≤ id) (s' : Sl m h z' id' off')
    (hb : (l.length + m.length) * bytes ≤ 140737488355328) (hn : l.length + m.length ≤ 4611686018427387904) :
    ∃ z2 id2 off2 h', apL (Enc.sz α) bytes h (.sl z id off l.length) (.sl z' id' off' m.length) = some (.sl z2 id2 off2 (l ++ m).length, h') ∧ Fr [id] h h' ∧ Sl (l ++ m) h' z2 id2 off2 ∧ (id2 = 0 ∨ h.lo ≤ id2) ∧ (m = [] ∧ id2 = id ∧ h' = h ∨ h.next ≤ id2) := by
  by_cases hm : m = []
  · subst hm
    refine ⟨z, id, off, h, ?_, Fr.refl _ _, by simpa using s, own, .inl ⟨rfl, rfl, rfl⟩⟩
    have : srcL h (Enc.sz α) (.sl z' id' off' ([] : List α).length) = some (0, []) := by
      simp only [srcL, List.length_nil, Nat.zero_mul, if_true]
      split <;> rfl
    simp only [apL, this, Option.bind_some, if_true, List.append_nil]
  · have hml : 0 < m.length := List.length_pos_iff.2 hm
    rcases s' with s' | s'
    · exact absurd s'.2 hm
    have hsz := Enc.pos (α := α)
    have hne : ¬ m.length * Enc.sz α = 0 := Nat.ne_of_gt (Nat.mul_pos hml hsz)
    have e1 : srcL h (Enc.sz α) (.sl z' id' off' m.length) = some (m.length, flat m) := by
      simp only [srcL, if_neg s'.1, if_neg hne]
      rw [load_eq, s'.2.2.2]; rfl
    have hc : (l.length + m.length) * bytes ≤ 140737488355328 ∧ l.length + m.length ≤ 4611686018427387904 ∧ (id = 0 ∧ l.length = 0 ∨ (h.blk id).alive = true ∧ h.lo ≤ id ∧ id ≠ 0 ∧ z = Enc.sz α) ∧ Enc.sz α = Enc.sz α := by
      refine ⟨hb, hn, ?_, rfl⟩
      rcases s with s | s
      · exact .inl ⟨s.1, by rw [s.2]; rfl⟩
      · exact .inr ⟨(bload_alive s.2.2.2).1, own.resolve_left s.1, s.1, s.2.1⟩
    have e2 : (if l.length = 0 then some [] else h.load id off (l.length * Enc.sz α)) = some (flat l) := by
      split
      · rename_i h0; rw [List.length_eq_zero_iff.1 h0]; rfl
      · rename_i h0
        rcases s with s | s
        · rw [s.2] at h0; exact absurd rfl h0
        · rw [load_eq]; exact s.2.2.2
    refine ⟨Enc.sz α, h.next, 0, (h.new (flat l ++ flat m)).kill id, ?_, ?_, ?_, .inr hk.2, .inr (Nat.le_refl _)⟩
    · simp only [apL, e1, Option.bind_some, if_neg (Nat.ne_of_gt hml), e2, List.length_append]; rw [if_pos ⟨hc.1, hc.2.1, hc.2.2.1, trivial⟩]
    · exact (Fr.refl _ _).new _ |>.kill (.inl (by simp))
    · refine .inr ⟨by have := hk.1; have := hk.2; omega, rfl, by simp, ?_⟩
      have hid : h.next ≠ id := by
        rcases s with s | s
        · have := hk.1; have := hk.2; omega
        · have := s.2.2.1; omega
      rw [blk_kill, if_neg hid, blk_new, if_pos rfl, ← flat_append, bload_mk _ _ _ _ (by rw [flat_len]; omega)]
      rw [List.drop_zero, List.take_of_length_le (by rw [flat_len]; exact Nat.le_refl _)]
/-! Stores. -/
theorem bload_split {b : Blk} {off n : Nat} {L : List V} (e : bload b off n = some L) : ∃ pre post, b.cells = pre ++ L ++ post ∧ pre.length = off ∧ L.length = n := by
  obtain ⟨h1, h2, h3⟩ := bload_alive e
  refine ⟨b.cells.take off, b.cells.drop (off + n), ?_, by simp; omega, bload_len e⟩
  rw [h3, List.append_assoc, ← List.drop_drop, List.take_append_drop, List.take_append_drop]
theorem bload_put {b : Blk} {off n : Nat} {L : List V} (e : bload b off n = some L) (j : Nat) (vs : List V) (hj : j + vs.length ≤ n) (ver : Nat) :
    bload ⟨b.cells.take (off + j) ++ vs ++ b.cells.drop (off + j + vs.length), ver, true⟩ off n = some (L.take j ++ vs ++ L.drop (j + vs.length)) := by
  obtain ⟨pre, post, ec, hp, hL⟩ := bload_split e
  have e1 : b.cells.take (off + j) = pre ++ L.take j := by
    rw [ec, List.append_assoc, ← hp, List.take_length_add_append, List.take_append_of_le_length (by omega)]
  have e2 : b.cells.drop (off + j + vs.length) = L.drop (j + vs.length) ++ post := by
    rw [ec, List.append_assoc, ← hp, Nat.add_assoc, List.drop_length_add_append, List.drop_append_of_le_length (by omega)]
  rw [e1, e2, bload_mk _ _ _ _ (by simp; omega)]
  have : pre ++ List.take j L ++ vs ++ (List.drop (j + vs.length) L ++ post) = pre ++ ((L.take j ++ vs ++ L.drop (j + vs.length)) ++ post) := by simp
  rw [this, List.drop_left' hp, List.take_left']
  simp; omega
theorem flat_set (l : List α) (k : Nat) (hk : k < l.length) (a : α) : flat (l.set k a) = (flat l).take (k * Enc.sz α) ++ Enc.enc a ++ (flat l).drop (k * Enc.sz α + Enc.sz α) := by
  have : k * Enc.sz α + Enc.sz α = (k + 1) * Enc.sz α := by rw [Nat.add_mul, Nat.one_mul]
  rw [this, flat_take, flat_drop, List.set_eq_take_append_cons_drop, if_pos hk, flat_append, flat_cons, List.append_assoc]
theorem flat_setf (l : List α) (k : Nat) (hk : k < l.length) (a : α) (f : Nat) (vs : List V) (hf : f + vs.length ≤ Enc.sz α) (ha : Enc.enc a = (Enc.enc l[k]).take f ++ vs ++ (Enc.enc l[k]).drop (f + vs.length)) :
    flat (l.set k a) = (flat l).take (k * Enc.sz α + f) ++ vs ++ (flat l).drop (k * Enc.sz α + f + vs.length) := by
  have hl := Enc.len l[k]
  have e : flat l = flat (l.take k) ++ (Enc.enc l[k] ++ flat (l.drop (k + 1))) := by
    rw [← flat_cons, ← List.drop_eq_getElem_cons hk, ← flat_append, List.take_append_drop]
  have ht : (flat (l.take k)).length = k * Enc.sz α := by rw [flat_len, List.length_take, Nat.min_eq_left (by omega)]
  rw [List.set_eq_take_append_cons_drop, if_pos hk, flat_append, flat_cons, ha, e, ← ht]
  rw [List.take_length_add_append, Nat.add_assoc, List.drop_length_add_append, List.take_append_of_le_length (by omega), List.drop_append_of_le_length (by omega)]
  simp
/-- A store into a slice's element: at its field f. -/
theorem Sl.putf {l : List α} {h g : H} {z id off : Nat} (s : Sl l h z id off) {k : Nat} (hk : k < l.length) (a : α) (f : Nat) (vs : List V) (hf : f + vs.length ≤ Enc.sz α)
    (ha : Enc.enc a = (Enc.enc l[k]).take f ++ vs ++ (Enc.enc l[k]).drop (f + vs.length)) (gn : h.next ≤ g.next) (ver : Nat)
    (gb : g.blk id = ⟨(h.blk id).cells.take (off + (k * Enc.sz α + f)) ++ vs ++ (h.blk id).cells.drop (off + (k * Enc.sz α + f) + vs.length), ver, true⟩) : Sl (l.set k a) g z id off := by
  have p := s.pos hk
  rcases s with s | s
  · exact absurd s.1 p.1
  refine .inr ⟨p.1, p.2.1, by omega, ?_⟩
  have hkk : k * Enc.sz α + Enc.sz α ≤ l.length * Enc.sz α := by have := Nat.mul_le_mul_right (Enc.sz α) hk; rw [Nat.succ_mul] at this; exact this
  rw [gb, List.length_set, bload_put s.2.2.2 (k * Enc.sz α + f) vs (by omega), flat_setf l k hk a f vs hf ha]
theorem Wp.st {n : Nat} {h : H} {id o : Nat} {v : V} {vs : List V} {f : H → Option (V × H)} {Q : V → H → Prop} (hv : cellsV v = some vs) (hn : vs.length = n) (ha : (h.blk id).alive = true) (hlo : h.lo ≤ id) (hb : o + n ≤ (h.blk id).cells.length)
    (k : ∀ g ver, g.next = h.next → g.blk id = ⟨(h.blk id).cells.take o ++ vs ++ (h.blk id).cells.drop (o + vs.length), ver, true⟩ → Fr [id] h g → Wp (f g) Q) : Wp (stN n h (.ptr id o) v f) Q := by
  have e : stN n h (.ptr id o) v f = f (h.upd id ⟨(h.blk id).cells.take o ++ vs ++ (h.blk id).cells.drop (o + vs.length), (h.blk id).ver + 1, true⟩) := by
    simp only [stN_ptr, hv, Option.bind_some, hn, if_true, store_eq]
    rw [if_pos ⟨ha, hlo, hb⟩]; rfl
  rw [e]
  exact k _ _ rfl (by rw [blk_upd, if_pos rfl]) ((Fr.refl _ _).upd _ (.inl (by simp)))
/-- A store into a slice's element, as a step. -/
theorem Wp.stf {l : List α} {h : H} {z id off : Nat} (hk : Hok h) (s : Sl l h z id off) (own : id = 0 ∨ h.lo ≤ id) {k : Nat} (hkl : k < l.length) (a : α) (f : Nat) {n o : Nat} {v : V} {vs : List V} (hv : cellsV v = some vs) (hn : vs.length = n) (hf : f + n ≤ Enc.sz α) (ho : o = off + k * Enc.sz α + f)
    (ha : Enc.enc a = (Enc.enc l[k]).take f ++ vs ++ (Enc.enc l[k]).drop (f + vs.length)) {F : H → Option (V × H)} {Q : V → H → Prop}
    (c : ∀ g, g.next = h.next → Hok g → Sl (l.set k a) g z id off → Fr [id] h g → Wp (F g) Q) : Wp (stN n h (.ptr id o) v F) Q := by
  have p := s.pos hkl
  have hkk : k * Enc.sz α + Enc.sz α ≤ l.length * Enc.sz α := by have := Nat.mul_le_mul_right (Enc.sz α) hkl; rw [Nat.succ_mul] at this; exact this
  have q : (h.blk id).alive = true ∧ off + l.length * Enc.sz α ≤ (h.blk id).cells.length := by
    rcases s with s | s
    · exact absurd s.1 p.1
    · have := bload_alive s.2.2.2; exact ⟨this.1, this.2.1⟩
  refine Wp.st hv hn q.1 (own.resolve_left p.1) (by omega) ?_
  intro g ver gn gb F'
  refine c g gn (F'.ok hk) (s.putf hkl a f vs (by omega) ha (Nat.le_of_eq gn.symm) ver ?_) F'
  rw [gb, ho]
  simp only [Nat.add_assoc]
/-! Steps that make blocks. -/
theorem Fr.tr {S T : List Nat} {a b c : H} (x : Fr S a b) (y : Fr T b c) (hS : ∀ j ∈ T, j = 0 ∨ j ∈ S ∨ a.next ≤ j) : Fr S a c :=
  ⟨y.1.trans x.1, Nat.le_trans x.2.1 y.2.1, fun j h0 h1 h2 => (y.2.2 j h0 (Nat.lt_of_lt_of_le h1 x.2.1) (fun hj => by
    rcases hS j hj with e | e | e
    · exact h0 e
    · exact h2 e
    · omega)).trans (x.2.2 j h0 h1 h2)⟩
theorem Wp.bx {S : List Nat} {h0 h : H} (hk : Hok h) (F : Fr S h0 h) {v : V} {cs : List V} (hv : cellsV v = some cs) {f : V → H → Option (V × H)} {Q : V → H → Prop}
    (c : ∀ b g n, b = h.next → g.next = b + 1 → g.blk b = ⟨cs, n, true⟩ → Hok g → b ≠ 0 → g.lo ≤ b → Fr S h0 g → Fr [] h g → Wp (f (.ptr b 0) g) Q) : Wp (bxK h v f) Q := by
  rw [bxK_eq, hv]
  exact c h.next (h.new cs) _ rfl rfl (by rw [blk_new, if_pos rfl]) (hk.new _) hk.pos hk.2 (F.new _) ((Fr.refl _ _).new _)
theorem Wp.al {S : List Nat} {h0 h : H} (hk : Hok h) (F : Fr S h0 h) {z : List V} {f : V → H → Option (V × H)} {Q : V → H → Prop}
    (c : ∀ b g n, b = h.next → g.next = b + 1 → g.blk b = ⟨z, n, true⟩ → Hok g → b ≠ 0 → g.lo ≤ b → Fr S h0 g → Fr [] h g → Wp (f (.ptr b 0) g) Q) : Wp (alK z h f) Q :=
  c h.next (h.new z) _ rfl rfl (by rw [blk_new, if_pos rfl]) (hk.new _) hk.pos hk.2 (F.new _) ((Fr.refl _ _).new _)
theorem Wp.bs {S : List Nat} {h0 h : H} (hk : Hok h) (F : Fr S h0 h) (l : List α) {z : List V} {ps : List (Nat × Nat × V)} {sz n : Nat} (hv : bld z ps = some (flat l)) (hs : sz = Enc.sz α) (hn : n = l.length) {f : V → H → Option (V × H)} {Q : V → H → Prop}
    (c : ∀ b g, b = h.next → g.next = b + 1 → Sl l g (Enc.sz α) b 0 → Hok g → b ≠ 0 → g.lo ≤ b → Fr S h0 g → Fr [] h g → Wp (f (.sl (Enc.sz α) b 0 l.length) g) Q) : Wp (bsK sz n h z ps f) Q := by
  subst hs; subst hn
  rw [bsK_eq, hv]
  refine c h.next (h.new (flat l)) rfl rfl (.inr ⟨hk.pos, rfl, Nat.lt_succ_self _, ?_⟩) (hk.new _) hk.pos hk.2 (F.new _) ((Fr.refl _ _).new _)
  rw [blk_new, if_pos rfl, bload_mk _ _ _ _ (by rw [flat_len]; omega), List.drop_zero, List.take_of_length_le (by rw [flat_len]; exact Nat.le_refl _)]
/-- Append. -/
theorem Wp.ap {S : List Nat} {h0 h : H} (hk : Hok h) (F : Fr S h0 h) {l m : List α} {z id off n z' id' off' n' bytes sz : Nat} (s : Sl l h z id off) (own : id = 0 ∨ h.lo ≤ id) (hid : id = 0 ∨ id ∈ S ∨ h0.next ≤ id) (s' : Sl m h z' id' off')
    (ln : n = l.length) (lm : n' = m.length) (hs : sz = Enc.sz α) (hb : (l.length + m.length) * bytes ≤ 140737488355328) (hn : l.length + m.length ≤ 4611686018427387904) {f : V × H → Option (V × H)} {Q : V → H → Prop}
    (c : ∀ z2 id2 off2 g, Hok g → Sl (l ++ m) g z2 id2 off2 → (id2 = 0 ∨ g.lo ≤ id2) → (m = [] ∧ id2 = id ∨ h.next ≤ id2) → Fr S h0 g → Fr [id] h g → Wp (f (.sl z2 id2 off2 (l ++ m).length, g)) Q) :
    Wp ((apL sz bytes h (.sl z id off n) (.sl z' id' off' n')).bind f) Q := by
  subst ln; subst lm; subst hs
  obtain ⟨z2, id2, off2, g, e, F', s2, own2, fr⟩ := apL_sl hk s own s' hb hn
  rw [e]
  refine c z2 id2 off2 g (F'.ok hk) s2 (by rw [F'.1]; exact own2) ?_ (F.tr F' (by simpa using hid)) F'
  rcases fr with fr | fr
  · exact .inl ⟨fr.1, fr.2.1⟩
  · exact .inr fr
/-! Steps at the head alone (the kernel is slow where a rewriting goes through a long text). -/
theorem Wp.b {α : Type} {o : Option α} {a : α} {f : α → Option (V × H)} {Q : V → H → Prop} (e : o = some a) (w : Wp (f a) Q) : Wp (o.bind f) Q := by
  subst e; exact w
theorem Wp.on {c : Bool} {a b : Option (V × H)} {Q : V → H → Prop} (t : c = true → Wp a Q) (f : c = false → Wp b Q) : Wp (onB (.bool c) a b) Q := by
  cases c
  · exact f rfl
  · exact t rfl
theorem Wp.sp {c : Bool} {a b : Option (V × H)} {Q : V → H → Prop} (t : c = true → Wp a Q) (f : c = false → Wp b Q) : Wp (spB (.bool c) a b) Q := by
  cases c
  · exact f rfl
  · exact t rfl
theorem Wp.onT {c : Bool} {a b : Option (V × H)} {Q : V → H → Prop} (t : c = true) (w : Wp a Q) : Wp (onB (.bool c) a b) Q := by subst t; exact w
theorem Wp.onF {c : Bool} {a b : Option (V × H)} {Q : V → H → Prop} (t : c = false) (w : Wp b Q) : Wp (onB (.bool c) a b) Q := by subst t; exact w
theorem Wp.spT {c : Bool} {a b : Option (V × H)} {Q : V → H → Prop} (t : c = true) (w : Wp a Q) : Wp (spB (.bool c) a b) Q := by subst t; exact w
theorem Wp.spF {c : Bool} {a b : Option (V × H)} {Q : V → H → Prop} (t : c = false) (w : Wp b Q) : Wp (spB (.bool c) a b) Q := by subst t; exact w
theorem Wp.r1 {o : Option V} {v : V} {h : H} {Q : V → H → Prop} (e : o = some v) (hv : ntup v = some v) (q : Q v h) : Wp ((ress [o]).map fun vs => (tupOf vs, h)) Q :=
  ⟨v, h, by subst e; simp [hv], q⟩
theorem Wp.r2 {o o' : Option V} {v u : V} {h : H} {Q : V → H → Prop} (e : o = some v) (e' : o' = some u) (hv : ntup v = some v) (hu : ntup u = some u) (q : Q (.tup [v, u]) h) : Wp ((ress [o, o']).map fun vs => (tupOf vs, h)) Q :=
  ⟨.tup [v, u], h, by subst e; subst e'; simp [hv, hu], q⟩
theorem Wp.r3 {o o' o2 : Option V} {v u t : V} {h : H} {Q : V → H → Prop} (e : o = some v) (e' : o' = some u) (e2 : o2 = some t) (hv : ntup v = some v) (hu : ntup u = some u) (ht : ntup t = some t) (q : Q (.tup [v, u, t]) h) : Wp ((ress [o, o', o2]).map fun vs => (tupOf vs, h)) Q :=
  ⟨.tup [v, u, t], h, by subst e; subst e'; subst e2; simp [hv, hu, ht], q⟩
theorem Wp.r0 {h : H} {Q : V → H → Prop} (q : Q (.tup []) h) : Wp ((ress []).map fun vs => (tupOf vs, h)) Q := ⟨.tup [], h, rfl, q⟩
instance : Enc Int := ⟨1, by decide, fun n => [.int .i64 n], fun _ => rfl⟩
instance : Enc ByteArray := ⟨1, by decide, fun n => [.str n], fun _ => rfl⟩
instance : Enc UInt8 := ⟨1, by decide, fun n => [.int .u8 n.toNat], fun _ => rfl⟩
end Go.Proofs.Ythoabddfionmoaa.AH
