/- Contracts of seat s, the leaves. No condition. -/
import Derived.Test.YthoabddfionmoaaR
import Derived.Test.YthoabddfionmoaaAO
set_option linter.unusedVariables false
set_option linter.unusedSimpArgs false
set_option maxRecDepth 100000
namespace Go.Proofs.Ythoabddfionmoaa.AH
open Go Go.RowKit
structure Cmd where
  s : Int
  n : Int
  o : Int
  k : ByteArray
  v : ByteArray
  d : ByteArray
  deriving DecidableEq
structure Pr where
  k : ByteArray
  v : ByteArray
  deriving DecidableEq
structure Rp where
  c : Int
  v : ByteArray
  deriving DecidableEq
structure Se where
  i : Int
  l : Int
  r : Rp
  deriving DecidableEq
def Cmd.en (c : Cmd) : List V := [.int .i64 c.s, .int .i64 c.n, .int .i64 c.o, .str c.k, .str c.v, .str c.d]
def Pr.en (c : Pr) : List V := [.str c.k, .str c.v]
def Rp.en (c : Rp) : List V := [.int .i64 c.c, .str c.v]
def Se.en (c : Se) : List V := [.int .i64 c.i, .int .i64 c.l, .int .i64 c.r.c, .str c.r.v]
instance : Enc Cmd := ⟨6, by decide, Cmd.en, fun _ => rfl⟩
instance : Enc Pr := ⟨2, by decide, Pr.en, fun _ => rfl⟩
instance : Enc Rp := ⟨2, by decide, Rp.en, fun _ => rfl⟩
instance : Enc Se := ⟨4, by decide, Se.en, fun _ => rfl⟩
theorem c64 (a x y : Int) (h : H) : R 64 [.int .i64 a, .int .i64 x, .int .i64 y] h = some (.bool (decide (x ≤ a) && decide (a ≤ y)), h) := by
  refine ret_of (R64 rfl ?_)
  rw [S64_eq]
  refine wp_of (v := _) (h := h) ?_ ⟨rfl, rfl⟩
  by_cases hx : x ≤ a <;> simp [hx]
theorem c67 (a x y : Int) (h : H) : R 67 [.int .i64 a, .int .i64 x, .int .i64 y] h = some (.bool (decide (x ≤ a) && decide (a ≤ y)), h) := by
  refine ret_of (R67 rfl ?_)
  rw [S67_eq]
  refine wp_of (v := _) (h := h) ?_ ⟨rfl, rfl⟩
  by_cases hx : x ≤ a <;> simp [hx]
def keyOk (s : ByteArray) : Bool := decide ((1 : Int) ≤ s.size) && decide ((s.size : Int) ≤ 16)
def valOk (s : ByteArray) : Bool := decide ((s.size : Int) ≤ 40)
theorem c65 (s : ByteArray) (h : H) : R 65 [.str s] h = some (.bool (keyOk s), h) := by
  refine ret_of (R65 rfl ?_)
  rw [S65_eq]
  simp only [lenS_str, Option.bind_some, c64]
  exact ⟨_, _, rfl, rfl, rfl⟩
theorem c68 (s : ByteArray) (h : H) : R 68 [.str s] h = some (.bool (keyOk s), h) := by
  refine ret_of (R68 rfl ?_)
  rw [S68_eq]
  simp only [lenS_str, Option.bind_some, c67]
  exact ⟨_, _, rfl, rfl, rfl⟩
theorem c66 (s : ByteArray) (h : H) : R 66 [.str s] h = some (.bool (valOk s), h) := by
  refine ret_of (R66 rfl ?_)
  rw [S66_eq]
  simp only [lenS_str, Option.bind_some, bin_leq]
  exact ⟨_, _, rfl, rfl, rfl⟩
/-! A command in a box of its own. -/
theorem box_new (h : H) (cs : List V) (i n : Nat) (k : i + n ≤ cs.length) : bload ((h.new cs).blk h.next) i n = some ((cs.drop i).take n) := by
  rw [blk_new, if_pos rfl, bload_mk _ _ _ _ k]
def emp : ByteArray := ⟨#[]⟩
def okC (c : Cmd) : Bool :=
  decide (0 ≤ c.s) && decide (c.s ≤ 99) && decide (1 ≤ c.n) && decide (c.n ≤ 1000000) && decide (1 ≤ c.o) && decide (c.o ≤ 4) && keyOk c.k && valOk c.v && valOk c.d &&
  (decide (c.v = emp) || decide (c.o = 2) || decide (c.o = 4)) && (decide (c.d = emp) || decide (c.o = 4))
theorem j39 (c : Cmd) (h : H) (id : Nat) (h0 : id ≠ 0) (e : h.blk id = ⟨c.en, 0, true⟩ ∨ ∃ n, h.blk id = ⟨c.en, n, true⟩) :
    S39_j3 R (.ptr id 0) h = some (.bool ((decide (c.v = emp) || decide (c.o = 2) || decide (c.o = 4)) && (decide (c.d = emp) || decide (c.o = 4))), h) := by
  have e : ∃ n, h.blk id = ⟨c.en, n, true⟩ := by rcases e with e | e; exact ⟨0, e⟩; exact e
  obtain ⟨n, e⟩ := e
  rw [S39_j3_eq]
  simp only [fA_ptr h0, Option.bind_some, ld1_ptr, e, bload_mk, Cmd.en, Nat.zero_add, List.length_cons, List.length_nil, Nat.reduceAdd, Nat.reduceLeDiff, List.drop_succ_cons, List.drop_zero, List.take_succ_cons, List.take_zero, List.head?_cons, str_eql, bin_eql, spB_bool]
  by_cases h1 : c.v = emp <;> by_cases h2 : c.d = emp <;> by_cases h3 : c.o = 2 <;> by_cases h4 : c.o = 4 <;> simp_all [emp]
theorem c39 (c : Cmd) (h : H) (hk : Hok h) : ∃ h', R 39 [.agg c.en] h = some (.bool (okC c), h') ∧ Fr [] h h' := by
  refine ⟨h.new c.en, ret_of (R39 rfl ?_), (Fr.refl [] h).new c.en⟩
  have h0 := hk.pos
  have hj := j39 c (h.new c.en) h.next h0 (.inr ⟨_, by rw [blk_new, if_pos rfl]⟩)
  rw [S39_eq]
  refine wp_of (v := _) (h := _) ?_ ⟨rfl, rfl⟩
  simp only [Cmd.en] at hj
  simp [h0, c64, c65, c66, Cmd.en, hj]
  by_cases q1 : c.s < 0 ∨ 99 < c.s
  · simp only [if_pos q1, okC]; simp; intros; omega
  by_cases q2 : c.n < 1 ∨ 1000000 < c.n
  · simp only [if_neg q1, if_pos q2, okC]; simp; intros; omega
  by_cases q3 : c.o < 1 ∨ 4 < c.o
  · simp only [if_neg q1, if_neg q2, if_pos q3, okC]; simp; intros; omega
  have q1' : 0 ≤ c.s ∧ c.s ≤ 99 := by omega
  have q2' : 1 ≤ c.n ∧ c.n ≤ 1000000 := by omega
  have q3' : 1 ≤ c.o ∧ c.o ≤ 4 := by omega
  simp only [if_neg q1, if_neg q2, if_neg q3, okC, q1', q2', q3']
  cases keyOk c.k <;> cases valOk c.v <;> cases valOk c.d <;> simp
theorem c33 (c : Cmd) (h : H) (hk : Hok h) : ∃ h', R 33 [.agg c.en] h = some (.agg c.en, h') ∧ Fr [] h h' := by
  have : Wp (R 33 [.agg c.en] h) fun r h' => r = .agg c.en ∧ Fr [] h h' := by
    refine R33 rfl ?_
    have h0 := hk.pos
    have h1 := hk.2
    rw [S33_eq]
    have l1 : h.lo ≤ h.next + 1 + 1 := by omega
    have l2 : h.lo ≤ h.next + 1 := by omega
    simp [h0, Cmd.en, l1, l2]
    refine ⟨_, _, rfl, rfl, ?_⟩
    repeat first | exact Fr.refl _ _ | apply Fr.new | refine Fr.upd ?_ _ (.inr (.inl (by omega)))
  obtain ⟨r, h', e, rfl, F⟩ := this
  exact ⟨h', e, F⟩
end Go.Proofs.Ythoabddfionmoaa.AH
