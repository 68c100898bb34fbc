/- Contracts of seat s: the library's binary search at both kinds. No condition. -/
import Derived.Test.YthoabddfionmoaaC8
set_option linter.unusedVariables false
set_option linter.unusedSimpArgs false
set_option maxRecDepth 100000
namespace Go.Proofs.Ythoabddfionmoaa.AH
open Go Go.RowKit
theorem c95 (a : Int) (h : H) : R 95 [.int .i64 a] h = some (.bool false, h) := by
  refine ret_of (R95 rfl ?_)
  rw [S95_eq]
  refine wp_of (v := _) (h := h) ?_ ⟨rfl, rfl⟩
  simp
theorem c94 (a : ByteArray) (h : H) : R 94 [.str a] h = some (.bool false, h) := by
  refine ret_of (R94 rfl ?_)
  rw [S94_eq]
  refine wp_of (v := _) (h := h) ?_ ⟨rfl, rfl⟩
  simp
theorem c89 (a b : Int) (h : H) : R 89 [.int .i64 a, .int .i64 b] h = some (.int .i64 (if a < b then -1 else if b < a then 1 else 0), h) := by
  refine ret_of (R89 rfl ?_)
  rw [S89_eq]
  refine wp_of (v := _) (h := h) ?_ ⟨rfl, rfl⟩
  simp [c95]
  by_cases h1 : a < b
  · simp [h1]
  · by_cases h2 : b < a <;> simp [h1, h2]
theorem c82 (a b : ByteArray) (h : H) : R 82 [.str a, .str b] h = some (.int .i64 (if sLt a b then -1 else if a = b then 0 else 1), h) := by
  refine ret_of (R82 rfl ?_)
  rw [S82_eq]
  refine wp_of (v := _) (h := h) ?_ ⟨rfl, rfl⟩
  simp [c94]
  cases h1 : sLt a b
  · by_cases h2 : a = b
    · simp [h2] at h1 ⊢
    · simp [h1, h2]
  · simp [h1]
theorem c88 (e : Se) (x : Int) (h : H) (hk : Hok h) : Wp (R 88 [.agg e.en, .int .i64 x] h) fun r h' => r = .int .i64 (if e.i < x then -1 else if x < e.i then 1 else 0) ∧ Fr [] h h' := by
  refine R88 rfl ?_
  rw [S88_eq]
  refine Wp.bxB hk (Fr.refl [] h) rfl ?_
  intro b g hb gn B k F F'
  have x1 : ld1 g (.ptr b (0 + 0)) = some (.int .i64 e.i) := B.ld1 (o := 0) (by simp [Se.en])
  exact Wp.b (fA_ptr B.ne) (Wp.b x1 (Wp.b (c89 _ _ _) (Wp.r1 rfl rfl ⟨rfl, F⟩)))
theorem c81 (e : Pr) (x : ByteArray) (h : H) (hk : Hok h) : Wp (R 81 [.agg e.en, .str x] h) fun r h' => r = .int .i64 (if sLt e.k x then -1 else if e.k = x then 0 else 1) ∧ Fr [] h h' := by
  refine R81 rfl ?_
  rw [S81_eq]
  refine Wp.bxB hk (Fr.refl [] h) rfl ?_
  intro b g hb gn B k F F'
  have x1 : ld1 g (.ptr b (0 + 0)) = some (.str e.k) := B.ld1 (o := 0) (by simp [Pr.en])
  exact Wp.b (fA_ptr B.ne) (Wp.b x1 (Wp.b (c82 _ _ _) (Wp.r1 rfl rfl ⟨rfl, F⟩)))
theorem wrapu (x : Nat) (hx : x < 9223372036854775808) : IntKind.u64.wrap (x : Int) = (x : Int) := by
  have e : IntKind.u64.wrap (x : Int) = (x : Int) % 18446744073709551616 := by
    unfold IntKind.wrap
    have h64 : (2 : Int) ^ 64 = 18446744073709551616 := by decide
    simp only [IntKind.bits, IntKind.signed, h64, Bool.false_and, Bool.false_eq_true, if_false]
  rw [e]; omega
theorem shr1 (P : Program) (t : TypeId) (x : Nat) : binV P .shr t (.int .u64 (x : Int)) (.int .u64 1) = some (.int .u64 ((x / 2 : Nat) : Int)) := by
  have : binV P .shr t (.int .u64 (x : Int)) (.int .u64 1) = some (.int .u64 ((x : Int).fdiv 2)) := rfl
  rw [this]
  congr 2
  rw [Int.fdiv_eq_ediv_of_nonneg _ (by decide)]; omega
theorem dyn0 {call : CallF} {f : Nat} {args : List V} {h : H} {k : V × H → Option (V × H)} : dynK call (.fn f []) args h k = (call f args h).bind k := by
  simp [dynK]
/-- The place is found where the smaller ones are a beginning. -/
theorem l87 (l : List Se) (hn : l.length ≤ 1048576) (x : Int) (hm : ∀ i j (hi : i < j) (hj : j < l.length), l[j].i < x → l[i].i < x) (z id off : Nat) : ∀ (n lo hi : Nat), hi - lo ≤ n → lo ≤ hi → hi ≤ l.length → (∀ j (hj : j < l.length), j < lo → l[j].i < x) → (∀ j (hj : j < l.length), hi ≤ j → ¬ l[j].i < x) → ∀ (h : H), Hok h → Sl l h z id off →
    Wp (S87_l3 R (.sl z id off l.length) (.int .i64 x) (.fn 88 []) (.int .i64 l.length) (.int .i64 lo) (.int .i64 hi) h) fun r h' => r = .tup [.int .i64 (kSe l x), .bool (hasSe l x)] ∧ Fr [] h h' := by
  intro n
  induction n with
  | zero =>
    intro lo hi hd hle hhi h1 h2 h hk s
    have : hi = lo := by omega
    subst this
    rw [S87_l3_eq]
    have ek : kSe l x = hi := tw_at _ _ _ (fun j hj hji => by simpa using h1 j hj hji) hhi (fun hi' => by simpa using h2 hi hi' (Nat.le_refl _))
    refine Wp.b (bin_lss _ _ _ _ _) (Wp.onF (by simp) (Wp.b (bin_lss _ _ _ _ _) (Wp.sp (fun hc => ?_) (fun hc => ?_))))
    · have hlt : hi < l.length := by simp at hc; omega
      have eg : ldn 4 h (.ptr id (off + hi * 4)) = some (.agg l[hi].en) := by
        have : bload (h.blk id) (off + hi * 4) 4 = some l[hi].en := s.get hlt
        rw [ldn_ptr, this]; rfl
      refine Wp.b (iA_sl hlt) (Wp.b eg ?_)
      rw [dyn0]
      refine Wp.bind (c88 l[hi] x h hk) ?_
      rintro r h' ⟨rfl, F⟩
      refine Wp.b (bin_eql _ _ _ _ _) (Wp.r2 rfl rfl rfl rfl ⟨?_, F⟩)
      have nl := h2 hi hlt (Nat.le_refl _)
      have e2 : hasSe l x = decide (l[hi].i = x) := by unfold hasSe; rw [ek, List.getElem?_eq_getElem hlt]
      rw [ek, e2, if_neg nl]
      by_cases e : x < l[hi].i
      · have : ¬ l[hi].i = x := by omega
        simp [e, this]
      · have : l[hi].i = x := by omega
        simp [this]
    · have hge : ¬ hi < l.length := by simp at hc; omega
      have e2 : hasSe l x = false := by unfold hasSe; rw [ek, List.getElem?_eq_none (by omega)]
      exact Wp.r2 rfl rfl rfl rfl ⟨by rw [ek, e2], Fr.refl _ _⟩
  | succ n ih =>
    intro lo hi hd hle hhi h1 h2 h hk s
    by_cases hlt : lo < hi
    · rw [S87_l3_eq]
      have hmid : (lo + hi) / 2 < l.length := by omega
      have eg : ldn 4 h (.ptr id (off + (lo + hi) / 2 * 4)) = some (.agg l[(lo + hi) / 2].en) := by
        have : bload (h.blk id) (off + (lo + hi) / 2 * 4) 4 = some l[(lo + hi) / 2].en := s.get hmid
        rw [ldn_ptr, this]; rfl
      have e1 : binV Try.prog .add 3 (.int .i64 lo) (.int .i64 hi) = some (.int .i64 ((lo + hi : Nat) : Int)) := by
        rw [bin_add, wrap64 (by omega) (by omega)]; rfl
      have e2 : cvI .u64 (.int .i64 ((lo + hi : Nat) : Int)) = some (.int .u64 ((lo + hi : Nat) : Int)) := by
        show some (V.int .u64 (IntKind.u64.wrap _)) = _
        rw [wrapu _ (by omega)]
      have e3 : cvI .i64 (.int .u64 (((lo + hi) / 2 : Nat) : Int)) = some (.int .i64 (((lo + hi) / 2 : Nat) : Int)) := by
        show some (V.int .i64 (IntKind.i64.wrap _)) = _
        rw [wrap64 (by omega) (by omega)]
      refine Wp.b (bin_lss _ _ _ _ _) (Wp.onT (by simp; omega) (Wp.b e1 (Wp.b e2 (Wp.b (shr1 _ _ _) (Wp.b e3 (Wp.b (iA_sl hmid) (Wp.b eg ?_)))))))
      rw [dyn0]
      refine Wp.bind (c88 l[(lo + hi) / 2] x h hk) ?_
      rintro r h' ⟨rfl, F⟩
      refine Wp.b (bin_lss _ _ _ _ _) (Wp.on (fun hc => ?_) (fun hc => ?_))
      · have hc : l[(lo + hi) / 2].i < x := by
          by_cases q : l[(lo + hi) / 2].i < x
          · exact q
          · rw [if_neg q] at hc; split at hc <;> simp at hc
        refine Wp.b (bin_add _ _ _ _ _) ?_
        rw [inc64 (by omega)]
        refine (ih ((lo + hi) / 2 + 1) hi (by omega) (by omega) hhi (fun j hj hji => ?_) h2 h' (F.ok hk) (s.fr0 F)).mono (fun r h'' q => ⟨q.1, F.trans0 q.2⟩)
        by_cases e : j = (lo + hi) / 2
        · subst e; exact hc
        · exact hm j ((lo + hi) / 2) (by omega) hmid hc
      · have hc : ¬ l[(lo + hi) / 2].i < x := by
          intro q; rw [if_pos q] at hc; simp at hc
        refine (ih lo ((lo + hi) / 2) (by omega) (by omega) (by omega) h1 (fun j hj hji => ?_) h' (F.ok hk) (s.fr0 F)).mono (fun r h'' q => ⟨q.1, F.trans0 q.2⟩)
        by_cases e : j = (lo + hi) / 2
        · subst e; exact hc
        · exact fun q => hc (hm ((lo + hi) / 2) j (by omega) hj q)
    · exact ih lo hi (by omega) hle hhi h1 h2 h hk s
theorem c87 (l : List Se) (hn : l.length ≤ 1048576) (x : Int) (hm : ∀ i j (hi : i < j) (hj : j < l.length), l[j].i < x → l[i].i < x) (z id off : Nat) (h : H) (hk : Hok h) (s : Sl l h z id off) :
    Wp (R 87 [.sl z id off l.length, .int .i64 x, .fn 88 []] h) fun r h' => r = .tup [.int .i64 (kSe l x), .bool (hasSe l x)] ∧ Fr [] h h' := by
  refine R87 rfl ?_
  rw [S87_eq]
  exact Wp.b (lenL_sl _ _ _ _) (l87 l hn x hm z id off l.length 0 l.length (by omega) (by omega) (Nat.le_refl _) (fun j hj h0 => absurd h0 (by omega)) (fun j hj h0 => absurd hj (by omega)) h hk s)
/-- The place is found where the smaller ones are a beginning. -/
theorem l80 (l : List Pr) (hn : l.length ≤ 1048576) (x : ByteArray) (hm : ∀ i j (hi : i < j) (hj : j < l.length), sLt l[j].k x = true → sLt l[i].k x = true) (z id off : Nat) : ∀ (n lo hi : Nat), hi - lo ≤ n → lo ≤ hi → hi ≤ l.length → (∀ j (hj : j < l.length), j < lo → sLt l[j].k x = true) → (∀ j (hj : j < l.length), hi ≤ j → ¬ sLt l[j].k x = true) → ∀ (h : H), Hok h → Sl l h z id off →
    Wp (S80_l3 R (.sl z id off l.length) (.str x) (.fn 81 []) (.int .i64 l.length) (.int .i64 lo) (.int .i64 hi) h) fun r h' => r = .tup [.int .i64 (kPr l x), .bool (hasPr l x)] ∧ Fr [] h h' := by
  intro n
  induction n with
  | zero =>
    intro lo hi hd hle hhi h1 h2 h hk s
    have : hi = lo := by omega
    subst this
    rw [S80_l3_eq]
    have ek : kPr l x = hi := tw_at _ _ _ (fun j hj hji => by simpa using h1 j hj hji) hhi (fun hi' => by simpa using h2 hi hi' (Nat.le_refl _))
    refine Wp.b (bin_lss _ _ _ _ _) (Wp.onF (by simp) (Wp.b (bin_lss _ _ _ _ _) (Wp.sp (fun hc => ?_) (fun hc => ?_))))
    · have hlt : hi < l.length := by simp at hc; omega
      have eg : ldn 2 h (.ptr id (off + hi * 2)) = some (.agg l[hi].en) := by
        have : bload (h.blk id) (off + hi * 2) 2 = some l[hi].en := s.get hlt
        rw [ldn_ptr, this]; rfl
      refine Wp.b (iA_sl hlt) (Wp.b eg ?_)
      rw [dyn0]
      refine Wp.bind (c81 l[hi] x h hk) ?_
      rintro r h' ⟨rfl, F⟩
      refine Wp.b (bin_eql _ _ _ _ _) (Wp.r2 rfl rfl rfl rfl ⟨?_, F⟩)
      have nl := h2 hi hlt (Nat.le_refl _)
      have e2 : hasPr l x = decide (l[hi].k = x) := by unfold hasPr; rw [ek, List.getElem?_eq_getElem hlt]
      rw [ek, e2, if_neg nl]
      by_cases e : l[hi].k = x <;> simp [e]
    · have hge : ¬ hi < l.length := by simp at hc; omega
      have e2 : hasPr l x = false := by unfold hasPr; rw [ek, List.getElem?_eq_none (by omega)]
      exact Wp.r2 rfl rfl rfl rfl ⟨by rw [ek, e2], Fr.refl _ _⟩
  | succ n ih =>
    intro lo hi hd hle hhi h1 h2 h hk s
    by_cases hlt : lo < hi
    · rw [S80_l3_eq]
      have hmid : (lo + hi) / 2 < l.length := by omega
      have eg : ldn 2 h (.ptr id (off + (lo + hi) / 2 * 2)) = some (.agg l[(lo + hi) / 2].en) := by
        have : bload (h.blk id) (off + (lo + hi) / 2 * 2) 2 = some l[(lo + hi) / 2].en := s.get hmid
        rw [ldn_ptr, this]; rfl
      have e1 : binV Try.prog .add 3 (.int .i64 lo) (.int .i64 hi) = some (.int .i64 ((lo + hi : Nat) : Int)) := by
        rw [bin_add, wrap64 (by omega) (by omega)]; rfl
      have e2 : cvI .u64 (.int .i64 ((lo + hi : Nat) : Int)) = some (.int .u64 ((lo + hi : Nat) : Int)) := by
        show some (V.int .u64 (IntKind.u64.wrap _)) = _
        rw [wrapu _ (by omega)]
      have e3 : cvI .i64 (.int .u64 (((lo + hi) / 2 : Nat) : Int)) = some (.int .i64 (((lo + hi) / 2 : Nat) : Int)) := by
        show some (V.int .i64 (IntKind.i64.wrap _)) = _
        rw [wrap64 (by omega) (by omega)]
      refine Wp.b (bin_lss _ _ _ _ _) (Wp.onT (by simp; omega) (Wp.b e1 (Wp.b e2 (Wp.b (shr1 _ _ _) (Wp.b e3 (Wp.b (iA_sl hmid) (Wp.b eg ?_)))))))
      rw [dyn0]
      refine Wp.bind (c81 l[(lo + hi) / 2] x h hk) ?_
      rintro r h' ⟨rfl, F⟩
      refine Wp.b (bin_lss _ _ _ _ _) (Wp.on (fun hc => ?_) (fun hc => ?_))
      · have hc : sLt l[(lo + hi) / 2].k x = true := by
          by_cases q : sLt l[(lo + hi) / 2].k x = true
          · exact q
          · rw [if_neg q] at hc; split at hc <;> simp at hc
        refine Wp.b (bin_add _ _ _ _ _) ?_
        rw [inc64 (by omega)]
        refine (ih ((lo + hi) / 2 + 1) hi (by omega) (by omega) hhi (fun j hj hji => ?_) h2 h' (F.ok hk) (s.fr0 F)).mono (fun r h'' q => ⟨q.1, F.trans0 q.2⟩)
        by_cases e : j = (lo + hi) / 2
        · subst e; exact hc
        · exact hm j ((lo + hi) / 2) (by omega) hmid hc
      · have hc : ¬ sLt l[(lo + hi) / 2].k x = true := by
          intro q; rw [if_pos q] at hc; simp at hc
        refine (ih lo ((lo + hi) / 2) (by omega) (by omega) (by omega) h1 (fun j hj hji => ?_) h' (F.ok hk) (s.fr0 F)).mono (fun r h'' q => ⟨q.1, F.trans0 q.2⟩)
        by_cases e : j = (lo + hi) / 2
        · subst e; exact hc
        · exact fun q => hc (hm ((lo + hi) / 2) j (by omega) hj q)
    · exact ih lo hi (by omega) hle hhi h1 h2 h hk s
theorem c80 (l : List Pr) (hn : l.length ≤ 1048576) (x : ByteArray) (hm : ∀ i j (hi : i < j) (hj : j < l.length), sLt l[j].k x = true → sLt l[i].k x = true) (z id off : Nat) (h : H) (hk : Hok h) (s : Sl l h z id off) :
    Wp (R 80 [.sl z id off l.length, .str x, .fn 81 []] h) fun r h' => r = .tup [.int .i64 (kPr l x), .bool (hasPr l x)] ∧ Fr [] h h' := by
  refine R80 rfl ?_
  rw [S80_eq]
  exact Wp.b (lenL_sl _ _ _ _) (l80 l hn x hm z id off l.length 0 l.length (by omega) (by omega) (Nat.le_refl _) (fun j hj h0 => absurd h0 (by omega)) (fun j hj h0 => absurd hj (by omega)) h hk s)
end Go.Proofs.Ythoabddfionmoaa.AH
