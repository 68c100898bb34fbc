/- Contracts of seat s: the law's own functions on commands and numbers. No condition. -/
import Derived.Test.YthoabddfionmoaaC1
set_option linter.unusedVariables false
set_option linter.unusedSimpArgs false
set_option maxRecDepth 100000
namespace Go.Proofs.Ythoabddfionmoaa.AH
open Go Go.RowKit
/-! Sizes. -/
def Cmd.small (c : Cmd) (b : Nat) : Prop := c.k.size ≤ b ∧ c.v.size ≤ b ∧ c.d.size ≤ b
theorem c30 (c : Cmd) (hc : c.small 4611686018427387904) (left : Int) (h1 : 0 ≤ left) (h2 : left ≤ 1048576) (h : H) (hk : Hok h) :
    Wp (R 30 [.agg c.en, .int .i64 left] h) fun r h' => Fr [] h h' ∧ ∃ x : Int, r = .int .i64 x ∧ (x = -1 ∨ (0 ≤ x ∧ x ≤ left ∧ c.small 1048576)) := by
  refine R30 rfl ?_
  obtain ⟨b1, b2, b3⟩ := hc
  have h0 := hk.pos
  rw [S30_eq]
  simp [h0, Cmd.en]
  rw [wrap64 (by omega) (by omega)]
  split
  · exact ⟨_, _, rfl, (Fr.refl _ _).new _, _, rfl, .inl rfl⟩
  rw [wrap64 (by omega) (by omega)]
  split
  · exact ⟨_, _, rfl, (Fr.refl _ _).new _, _, rfl, .inl rfl⟩
  rw [wrap64 (by omega) (by omega)]
  split
  · exact ⟨_, _, rfl, (Fr.refl _ _).new _, _, rfl, .inl rfl⟩
  · refine ⟨_, _, rfl, (Fr.refl _ _).new _, _, rfl, .inr ⟨by omega, by omega, ?_⟩⟩
    refine ⟨?_, ?_, ?_⟩ <;> omega
theorem l6 (l : List Cmd) (hl : ∀ c ∈ l, c.small 4611686018427387904) (hn : l.length ≤ 1048576) (z id off : Nat) : ∀ (n i : Nat), i + n = l.length → ∀ (left : Int) (h : H), Hok h → Sl l h z id off → 0 ≤ left → left ≤ 1048576 →
    Wp (S6_l5 R (.sl z id off l.length) (.int .i64 left) (.int .i64 i) h) fun r h' => Fr [] h h' ∧ ∃ x : Int, r = .int .i64 x ∧ (x = -1 ∨ (0 ≤ x ∧ ∀ c ∈ l.drop i, c.small 1048576))
  | 0, i, hi, left, h, hk, s, h1, h2 => by
    rw [S6_l5_eq]
    have : i = l.length := by omega
    subst this
    simp
    exact ⟨_, _, rfl, Fr.refl _ _, _, rfl, .inr h1⟩
  | n + 1, i, hi, left, h, hk, s, h1, h2 => by
    rw [S6_l5_eq]
    have hil : i < l.length := by omega
    have g := s.get hil
    simp only [lenL_sl, Option.bind_some, bin_lss, Int.ofNat_lt, hil, decide_true, onB_bool, if_true, iA_sl hil, ldn_ptr]
    rw [show (6 : Nat) = Enc.sz Cmd from rfl, g]
    simp only [Option.map_some, Option.bind_some]
    refine Wp.bind (c30 l[i] (hl _ (List.getElem_mem _)) left h1 h2 h hk) ?_
    rintro r h' ⟨F, x, rfl, hx⟩
    simp only [bin_lss, Option.bind_some, onB_bool, decide_eq_true_eq]
    rcases hx with rfl | ⟨x0, x1, xs⟩
    · simp; exact ⟨_, _, rfl, F, _, rfl, .inl rfl⟩
    · rw [if_neg (by omega), bin_add, inc64 (by omega)]
      simp only [Option.bind_some]
      refine (l6 l hl hn z id off n (i + 1) (by omega) x h' (F.ok hk) (s.fr0 F) x0 (by omega)).mono ?_
      rintro r h'' ⟨F', y, rfl, hy⟩
      refine ⟨F.trans0 F', y, rfl, ?_⟩
      rcases hy with hy | ⟨y0, ys⟩
      · exact .inl hy
      · refine .inr ⟨y0, fun c hc => ?_⟩
        rw [List.drop_eq_getElem_cons hil] at hc
        rcases List.mem_cons.1 hc with rfl | hc
        · exact xs
        · exact ys c hc
theorem c6 (l : List Cmd) (hl : ∀ c ∈ l, c.small 4611686018427387904) (hn : l.length ≤ 4611686018427387904) (z id off : Nat) (h : H) (hk : Hok h) (s : Sl l h z id off) :
    Wp (R 6 [.sl z id off l.length, .int .i64 1048576] h) fun r h' => Fr [] h h' ∧ ∃ x : Int, r = .int .i64 x ∧ (x = -1 ∨ (0 ≤ x ∧ l.length ≤ 1048576 ∧ ∀ c ∈ l, c.small 1048576)) := by
  refine R6 rfl ?_
  rw [S6_eq]
  simp
  rw [wrap64 (by omega) (by omega)]
  split
  · exact ⟨_, _, rfl, Fr.refl _ _, _, rfl, .inl rfl⟩
  · refine (l6 l hl (by omega) z id off l.length 0 (by omega) _ h hk s (by omega) (by omega)).mono ?_
    rintro r h' ⟨F, x, rfl, hx⟩
    refine ⟨F, x, rfl, ?_⟩
    rcases hx with hx | ⟨x0, xs⟩
    · exact .inl hx
    · exact .inr ⟨x0, by omega, by simpa using xs⟩
/-! Copies. -/
theorem splice_flat (l : List Cmd) (i : Nat) (hi : i < l.length) (rest : List V) (hr : rest.length = (l.length - i) * 6) :
    (flat (l.take i) ++ rest).take (i * 6) ++ l[i].en ++ (flat (l.take i) ++ rest).drop (i * 6 + 6) = flat (l.take (i + 1)) ++ rest.drop 6 := by
  have e : (flat (l.take i)).length = i * 6 := by
    rw [flat_len, List.length_take]; show min i l.length * 6 = i * 6; rw [Nat.min_eq_left (by omega)]
  rw [List.take_left' e, ← List.drop_drop, List.drop_left' e]
  rw [List.take_succ_eq_append_getElem hi, flat_append, flat_one]; rfl
theorem l8 (l : List Cmd) (hn : l.length ≤ 1048576) (z id off o : Nat) : ∀ (n i : Nat), i + n = l.length → ∀ (h : H) (rest : List V) (ver : Nat), Hok h → Sl l h z id off → o ≠ id → h.lo ≤ o → o ≠ 0 → o < h.next →
    h.blk o = ⟨flat (l.take i) ++ rest, ver, true⟩ → rest.length = (l.length - i) * 6 →
    Wp (S8_l3 R (.sl z id off l.length) (.sl 6 o 0 l.length) (.int .i64 i) h) fun r h' => Fr [o] h h' ∧ r = .sl 6 o 0 l.length ∧ Sl l h' 6 o 0
  | 0, i, hi, h, rest, ver, hk, s, ho, hlo, h0, hon, hb, hr => by
    rw [S8_l3_eq]
    have : i = l.length := by omega
    subst this
    simp
    refine ⟨_, _, rfl, Fr.refl _ _, rfl, .inr ⟨h0, rfl, hon, ?_⟩⟩
    have : rest = [] := List.length_eq_zero_iff.1 (by rw [hr]; simp)
    subst this
    rw [hb, bload_mk _ _ _ _ (by simp [flat_len]), List.drop_zero, List.take_length, List.append_nil, List.take_of_length_le (by rw [flat_len]; exact Nat.le_refl _)]
  | n + 1, i, hi, h, rest, ver, hk, s, ho, hlo, h0, hon, hb, hr => by
    rw [S8_l3_eq]
    have hil : i < l.length := by omega
    have g := s.get hil
    simp only [lenL_sl, Option.bind_some, bin_lss, Int.ofNat_lt, hil, decide_true, onB_bool, if_true, iA_sl hil, ldn_ptr]
    rw [show off + i * 6 = off + i * Enc.sz Cmd from rfl, show bload (h.blk id) (off + i * Enc.sz Cmd) 6 = bload (h.blk id) (off + i * Enc.sz Cmd) (Enc.sz Cmd) from rfl, g]
    simp only [Option.map_some, Option.bind_some]
    obtain ⟨h', e, F⟩ := c33 l[i] h hk
    rw [show Enc.enc l[i] = l[i].en from rfl, e]
    have hb' : h'.blk o = ⟨flat (l.take i) ++ rest, ver, true⟩ := by rw [F.blk0 h0 hon, hb]
    have hlo' : h'.lo ≤ o := by rw [F.1]; exact hlo
    have hlen : (flat (l.take i) ++ rest).length = l.length * 6 := by
      rw [List.length_append, hr, flat_len, List.length_take, Nat.min_eq_left (by omega)]
      show i * 6 + _ = _
      rw [Nat.sub_mul]; omega
    simp only [Option.bind_some, Nat.zero_add, stN_ptr, cells_agg, load_eq, store_eq, hb', hlo', hlen]
    have hen : l[i].en.length = 6 := rfl
    rw [hen, if_pos rfl, if_pos ⟨trivial, trivial, by omega⟩]
    simp only [Option.bind_some, bin_add]
    rw [inc64 (by omega)]
    rw [splice_flat l i hil rest hr]
    refine (l8 l hn z id off o n (i + 1) (by omega) _ (rest.drop 6) (ver + 1) ((F.ok hk).upd _ _) ?_ ho hlo' h0 (Nat.lt_of_lt_of_le hon F.2.1) ?_ ?_).mono ?_
    · exact (s.fr0 F).blk (fun _ => by rw [blk_upd, if_neg (by omega)]) (Nat.le_refl _)
    · rw [blk_upd, if_pos rfl]
    · rw [List.length_drop, hr]; omega
    · rintro r h'' ⟨F', rfl, s'⟩
      refine ⟨Fr.trans ((F.mono (by simp)).upd (S := [o]) _ (.inl (by simp))) F' (by simp), rfl, s'⟩
theorem c8 (l : List Cmd) (hn : l.length ≤ 1048576) (z id off : Nat) (h : H) (hk : Hok h) (s : Sl l h z id off) :
    Wp (R 8 [.sl z id off l.length] h) fun r h' => Fr [] h h' ∧ ∃ o, h.next ≤ o ∧ r = .sl 6 o 0 l.length ∧ Sl l h' 6 o 0 := by
  refine R8 rfl ?_
  rw [S8_eq]
  have e : ∀ k : V → H → Option (V × H), mkK 6 72 [(V.int .i64 0), (V.int .i64 0), (V.int .i64 0), (V.str ⟨#[]⟩), (V.str ⟨#[]⟩), (V.str ⟨#[]⟩)] h (.int .i64 l.length) (.int .i64 l.length) k =
      k (.sl 6 h.next 0 l.length) (h.new ((List.replicate l.length [(V.int .i64 0), (V.int .i64 0), (V.int .i64 0), (V.str ⟨#[]⟩), (V.str ⟨#[]⟩), (V.str ⟨#[]⟩)]).flatten)) := fun k => by
    simp only [mkK]
    rw [if_pos ⟨trivial, by omega, by omega, by omega, rfl⟩, Int.toNat_natCast]
  simp only [lenL_sl, Option.bind_some, e]
  refine (l8 l hn z id off h.next l.length 0 (by omega) _ _ _ (hk.new _) ?_ ?_ hk.2 hk.pos (by simp) (by rw [blk_new, if_pos rfl]; rfl) ?_).mono ?_
  · exact s.fr0 ((Fr.refl [] h).new _)
  · have := s.lt hk; omega
  · rw [List.length_flatten]; simp
  · rintro r h' ⟨F, rfl, s'⟩
    exact ⟨Fr.trans ((Fr.refl [] h).new _) F (by simp), h.next, Nat.le_refl _, rfl, s'⟩
end Go.Proofs.Ythoabddfionmoaa.AH
