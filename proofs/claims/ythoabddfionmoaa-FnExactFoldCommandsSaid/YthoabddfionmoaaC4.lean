/- Contracts of seat s: the pure map of commands; the reference. No condition. -/
import Derived.Test.YthoabddfionmoaaC3
set_option linter.unusedVariables false
set_option linter.unusedSimpArgs false
set_option maxRecDepth 100000
namespace Go.Proofs.Ythoabddfionmoaa.AH
open Go Go.RowKit
/-! The pure map. -/
def kSe (l : List Se) (id : Int) : Nat := (l.takeWhile fun x => decide (x.i < id)).length
def hasSe (l : List Se) (id : Int) : Bool := match l[kSe l id]? with | some x => decide (x.i = id) | none => false
def kPr (l : List Pr) (key : ByteArray) : Nat := (l.takeWhile fun x => sLt x.k key).length
def hasPr (l : List Pr) (key : ByteArray) : Bool := match l[kPr l key]? with | some x => decide (x.k = key) | none => false
def putPr (l : List Pr) (x : Pr) : List Pr := l.take (kPr l x.k) ++ [x] ++ l.drop (if hasPr l x.k then kPr l x.k + 1 else kPr l x.k)
def valPr (l : List Pr) (key : ByteArray) : ByteArray := match l[kPr l key]? with | some x => x.v | none => emp
def doPr (l : List Pr) (c : Cmd) : List Pr × Rp :=
  if c.o = 2 then (if hasPr l c.k = false ∧ l.length = 40 then (l, ⟨4, emp⟩) else (putPr l ⟨c.k, c.v⟩, ⟨0, emp⟩)) else
  if hasPr l c.k = false then (l, ⟨1, emp⟩) else
  if c.o = 1 then (l, ⟨0, valPr l c.k⟩) else
  if c.o = 3 then (l.take (kPr l c.k) ++ l.drop (kPr l c.k + 1), ⟨0, valPr l c.k⟩) else
  if valPr l c.k ≠ c.d then (l, ⟨3, valPr l c.k⟩) else (putPr l ⟨c.k, c.v⟩, ⟨0, emp⟩)
structure Kv where
  cells : List Pr
  sess : List Se
  deriving DecidableEq
def seAt (l : List Se) (id : Int) : Se := match l[kSe l id]? with | some x => x | none => ⟨0, 0, ⟨0, emp⟩⟩
def applySt (s : Kv) (c : Cmd) : Kv × Rp :=
  if okC c = false ∨ hasSe s.sess c.s = false ∧ s.sess.length = 12 then (s, ⟨4, emp⟩) else
  if hasSe s.sess c.s = true ∧ (seAt s.sess c.s).l = c.n then (s, (seAt s.sess c.s).r) else
  if hasSe s.sess c.s = true ∧ c.n < (seAt s.sess c.s).l then (s, ⟨2, emp⟩) else
  let d := doPr s.cells c
  (⟨d.1, s.sess.take (kSe s.sess c.s) ++ [⟨c.s, c.n, d.2⟩] ++ s.sess.drop (if hasSe s.sess c.s then kSe s.sess c.s + 1 else kSe s.sess c.s)⟩, d.2)
theorem tw_le {α : Type} (p : α → Bool) (l : List α) : (l.takeWhile p).length ≤ l.length := by
  induction l with
  | nil => simp
  | cons a l ih => rw [List.takeWhile_cons]; split <;> simp <;> omega
/-- The first place at which a beginning ends. -/
theorem tw_at {α : Type} (p : α → Bool) (l : List α) (i : Nat) (h : ∀ j (hj : j < l.length), j < i → p l[j] = true) (hi : i ≤ l.length) (he : ∀ (hi : i < l.length), p l[i] = false) : (l.takeWhile p).length = i := by
  induction l generalizing i with
  | nil => simp at hi; simp [hi]
  | cons a l ih =>
    rw [List.takeWhile_cons]
    cases i with
    | zero =>
      have := he (by simp)
      simp only [List.getElem_cons_zero] at this
      simp [this]
    | succ i =>
      have h0 := h 0 (by simp) (by omega)
      simp only [List.getElem_cons_zero] at h0
      simp only [h0, if_true, List.length_cons]
      rw [ih i (fun j hj hji => by have := h (j + 1) (by simpa using hj) (by omega); simpa using this) (by simpa using hi) (fun hi => by have := he (by simpa using hi); simpa using this)]
theorem kSe_le (l : List Se) (id : Int) : kSe l id ≤ l.length := tw_le _ _
theorem kPr_le (l : List Pr) (key : ByteArray) : kPr l key ≤ l.length := tw_le _ _
theorem l58 (l : List Se) (hn : l.length ≤ 1048576) (x : Int) (z id off : Nat) (h : H) (s : Sl l h z id off) : ∀ (n i : Nat), i + n = l.length → (∀ j (hj : j < l.length), j < i → l[j].i < x) →
    S58_l2 R (.sl z id off l.length) (.int .i64 x) (.int .i64 i) h = some (.tup [.int .i64 (kSe l x), .bool (hasSe l x)], h)
  | 0, i, hi, hv => by
    rw [S58_l2_eq]
    have : i = l.length := by omega
    subst this
    have e : kSe l x = l.length := tw_at _ _ _ (fun j hj hji => by simpa using hv j hj hji) (Nat.le_refl _) (fun hi => by omega)
    have e2 : hasSe l x = false := by unfold hasSe; rw [e]; simp
    simp [e, e2]
  | n + 1, i, hi, hv => by
    rw [S58_l2_eq]
    have hil : i < l.length := by omega
    have p := s.pos hil
    have eg : bload (h.blk id) (off + i * 4 + 0) 1 = some [V.int .i64 l[i].i] := bload_sub (s.get hil) 0 1 (by decide)
    simp only [lenL_sl, Option.bind_some, bin_lss, Int.ofNat_lt, hil, decide_true, spB_bool, if_true, iA_sl hil, fA_ptr p.1, ld1_ptr, eg, List.head?_cons, onB_bool, bin_add, decide_eq_true_eq, bin_eql]
    split
    · rename_i hlt
      rw [inc64 (by omega)]
      exact l58 l hn x z id off h s n (i + 1) (by omega) (fun j hj hji => by
        by_cases e : j = i
        · subst e; exact hlt
        · exact hv j hj (by omega))
    · rename_i hlt
      have e : kSe l x = i := tw_at _ _ _ (fun j hj hji => by simpa using hv j hj hji) (by omega) (fun hi => by simpa using hlt)
      have e2 : hasSe l x = decide (l[i].i = x) := by unfold hasSe; rw [e, List.getElem?_eq_getElem hil]
      simp [e, e2]
theorem c58 (l : List Se) (hn : l.length ≤ 1048576) (x : Int) (z id off : Nat) (h : H) (s : Sl l h z id off) :
    R 58 [.sl z id off l.length, .int .i64 x] h = some (.tup [.int .i64 (kSe l x), .bool (hasSe l x)], h) := by
  refine ret_of (R58 rfl ?_)
  rw [S58_eq]
  exact wp_of (l58 l hn x z id off h s l.length 0 (by omega) (fun j hj h0 => absurd h0 (by omega))) ⟨rfl, rfl⟩
theorem l78 (l : List Pr) (hn : l.length ≤ 1048576) (x : ByteArray) (z id off : Nat) (h : H) (s : Sl l h z id off) : ∀ (n i : Nat), i + n = l.length → (∀ j (hj : j < l.length), j < i → sLt l[j].k x = true) →
    S78_l2 R (.sl z id off l.length) (.str x) (.int .i64 i) h = some (.tup [.int .i64 (kPr l x), .bool (hasPr l x)], h)
  | 0, i, hi, hv => by
    rw [S78_l2_eq]
    have : i = l.length := by omega
    subst this
    have e : kPr l x = l.length := tw_at _ _ _ (fun j hj hji => by simpa using hv j hj hji) (Nat.le_refl _) (fun hi => by omega)
    have e2 : hasPr l x = false := by unfold hasPr; rw [e]; simp
    simp [e, e2]
  | n + 1, i, hi, hv => by
    rw [S78_l2_eq]
    have hil : i < l.length := by omega
    have p := s.pos hil
    have eg : bload (h.blk id) (off + i * 2 + 0) 1 = some [V.str l[i].k] := bload_sub (s.get hil) 0 1 (by decide)
    simp only [lenL_sl, Option.bind_some, bin_lss, Int.ofNat_lt, hil, decide_true, spB_bool, if_true, iA_sl hil, fA_ptr p.1, ld1_ptr, eg, List.head?_cons, onB_bool, bin_add, decide_eq_true_eq, str_eql, str_lss]
    split
    · rename_i hlt
      rw [inc64 (by omega)]
      exact l78 l hn x z id off h s n (i + 1) (by omega) (fun j hj hji => by
        by_cases e : j = i
        · subst e; exact hlt
        · exact hv j hj (by omega))
    · rename_i hlt
      have e : kPr l x = i := tw_at _ _ _ (fun j hj hji => by simpa using hv j hj hji) (by omega) (fun hi => by simpa using hlt)
      have e2 : hasPr l x = decide (l[i].k = x) := by unfold hasPr; rw [e, List.getElem?_eq_getElem hil]
      simp [e, e2]
theorem c78 (l : List Pr) (hn : l.length ≤ 1048576) (x : ByteArray) (z id off : Nat) (h : H) (s : Sl l h z id off) :
    R 78 [.sl z id off l.length, .str x] h = some (.tup [.int .i64 (kPr l x), .bool (hasPr l x)], h) := by
  refine ret_of (R78 rfl ?_)
  rw [S78_eq]
  exact wp_of (l78 l hn x z id off h s l.length 0 (by omega) (fun j hj h0 => absurd h0 (by omega))) ⟨rfl, rfl⟩
theorem hasPr_lt {l : List Pr} {x : ByteArray} (e : hasPr l x = true) : kPr l x < l.length := by
  unfold hasPr at e
  by_cases h : kPr l x < l.length
  · exact h
  · rw [List.getElem?_eq_none (by omega)] at e; cases e
theorem hasSe_lt {l : List Se} {x : Int} (e : hasSe l x = true) : kSe l x < l.length := by
  unfold hasSe at e
  by_cases h : kSe l x < l.length
  · exact h
  · rw [List.getElem?_eq_none (by omega)] at e; cases e
/-! GoodCommand of the reference. -/
theorem j42 (c : Cmd) (h : H) (id : Nat) (h0 : id ≠ 0) (e : ∃ n, h.blk id = ⟨c.en, n, true⟩) :
    S42_j3 R (.ptr id 0) h = some (.bool ((decide (c.v = emp) || decide (c.o = 2) || decide (c.o = 4)) && (decide (c.d = emp) || decide (c.o = 4))), h) := by
  obtain ⟨n, e⟩ := e
  rw [S42_j3_eq]
  simp only [fA_ptr h0, Option.bind_some, ld1_ptr, e, bload_mk, Cmd.en, Nat.zero_add, List.length_cons, List.length_nil, Nat.reduceAdd, Nat.reduceLeDiff, List.drop_succ_cons, List.drop_zero, List.take_succ_cons, List.take_zero, List.head?_cons, str_eql, bin_eql, spB_bool]
  by_cases h1 : c.v = emp <;> by_cases h2 : c.d = emp <;> by_cases h3 : c.o = 2 <;> by_cases h4 : c.o = 4 <;> simp_all [emp]
theorem c42 (c : Cmd) (h : H) (hk : Hok h) : R 42 [.agg c.en] h = some (.bool (okC c), h.new c.en) := by
  refine ret_of (R42 rfl ?_)
  have h0 := hk.pos
  have hj := j42 c (h.new c.en) h.next h0 ⟨_, by rw [blk_new, if_pos rfl]⟩
  rw [S42_eq]
  refine wp_of (v := _) (h := _) ?_ ⟨rfl, rfl⟩
  simp only [Cmd.en] at hj
  simp [h0, c67, c68, Cmd.en, hj]
  by_cases q1 : c.s < 0 ∨ 99 < c.s
  · simp only [if_pos q1, okC]; simp; intros; omega
  by_cases q2 : c.n < 1 ∨ 1000000 < c.n
  · simp only [if_neg q1, if_pos q2, okC]; simp; intros; omega
  by_cases q3 : c.o < 1 ∨ 4 < c.o
  · simp only [if_neg q1, if_neg q2, if_pos q3, okC]; simp; intros; omega
  have q1' : 0 ≤ c.s ∧ c.s ≤ 99 := by omega
  have q2' : 1 ≤ c.n ∧ c.n ≤ 1000000 := by omega
  have q3' : 1 ≤ c.o ∧ c.o ≤ 4 := by omega
  simp only [if_neg q1, if_neg q2, if_neg q3, okC, q1', q2', q3', valOk]
  cases keyOk c.k
  · simp
  by_cases h1 : (40 : Int) < c.v.size
  · have : ¬ (c.v.size : Int) ≤ 40 := by omega
    simp [h1, this]
  by_cases h2 : (40 : Int) < c.d.size
  · have h2' : ¬ (c.d.size : Int) ≤ 40 := by omega
    simp [h1, h2, h2']
  have h1' : (c.v.size : Int) ≤ 40 := by omega
  have h2' : (c.d.size : Int) ≤ 40 := by omega
  simp [h1, h2, h1', h2']
end Go.Proofs.Ythoabddfionmoaa.AH
