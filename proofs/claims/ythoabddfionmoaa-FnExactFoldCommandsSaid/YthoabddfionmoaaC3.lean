/- Contracts of seat s: the law's equalities and marks. No condition. -/
import Derived.Test.YthoabddfionmoaaC2
set_option linter.unusedVariables false
set_option linter.unusedSimpArgs false
set_option maxRecDepth 100000
namespace Go.Proofs.Ythoabddfionmoaa.AH
open Go Go.RowKit
/-- Equal behind a beginning that was found equal. -/
theorem drop_eq_step {α : Type} (l m : List α) (i : Nat) (hl : i < l.length) (hm : i < m.length) : (l.drop i = m.drop i) ↔ (l[i] = m[i] ∧ l.drop (i + 1) = m.drop (i + 1)) := by
  rw [List.drop_eq_getElem_cons hl, List.drop_eq_getElem_cons hm, List.cons.injEq]
theorem l10 (l m : List Int) (hlm : l.length = m.length) (hn : l.length ≤ 4611686018427387904) (z id off z' id' off' : Nat) (h : H) (s : Sl l h z id off) (s' : Sl m h z' id' off') : ∀ (n i : Nat), i + n = l.length →
    S10_l4 R (.sl z id off l.length) (.sl z' id' off' m.length) (.int .i64 i) h = some (.bool (decide (l.drop i = m.drop i)), h)
  | 0, i, hi => by
    rw [S10_l4_eq]
    have : i = l.length := by omega
    subst this
    have : m.drop l.length = [] := List.drop_of_length_le (by omega)
    simp [this]
  | n + 1, i, hi => by
    rw [S10_l4_eq]
    have hil : i < l.length := by omega
    have him : i < m.length := by omega
    have g := s.get hil
    have g' := s'.get him
    have eg : bload (h.blk id) (off + i * 1) 1 = some [V.int .i64 l[i]] := g
    have eg' : bload (h.blk id') (off' + i * 1) 1 = some [V.int .i64 m[i]] := g'
    simp only [lenL_sl, Option.bind_some, bin_lss, Int.ofNat_lt, hil, decide_true, onB_bool, if_true, iA_sl hil, iA_sl him, ld1_ptr, eg, eg', List.head?_cons, bin_neq, bin_add]
    rw [inc64 (by omega), l10 l m hlm hn z id off z' id' off' h s s' n (i + 1) (by omega)]
    by_cases e : l[i] = m[i]
    · simp [e, drop_eq_step l m i hil him]
    · simp [e, drop_eq_step l m i hil him]
theorem c10 (l m : List Int) (hn : l.length ≤ 4611686018427387904) (hm : m.length ≤ 4611686018427387904) (z id off z' id' off' : Nat) (h : H) (s : Sl l h z id off) (s' : Sl m h z' id' off') :
    R 10 [.sl z id off l.length, .sl z' id' off' m.length] h = some (.bool (decide (l = m)), h) := by
  refine ret_of (R10 rfl ?_)
  rw [S10_eq]
  refine wp_of (v := _) (h := h) ?_ ⟨rfl, rfl⟩
  by_cases e : l.length = m.length
  · have := l10 l m e hn z id off z' id' off' h s s' l.length 0 (by omega)
    simp only [Int.ofNat_zero] at this
    simp [e, this]
    simpa [e] using this
  · have : ¬ l = m := by rintro rfl; exact e rfl
    have e' : ¬ (l.length : Int) = m.length := by omega
    simp [e', this]
theorem c36 (c d : Cmd) (h : H) (hk : Hok h) : Wp (R 36 [.agg c.en, .agg d.en] h) fun r h' => r = .bool (decide (c = d)) ∧ Fr [] h h' := by
  refine R36 rfl ?_
  have h0 := hk.pos
  rw [S36_eq]
  obtain ⟨a1, a2, a3, a4, a5, a6⟩ := c
  obtain ⟨b1, b2, b3, b4, b5, b6⟩ := d
  simp [h0, Cmd.en]
  repeat' split
  all_goals exact ⟨_, _, rfl, by simp_all, ((Fr.refl _ _).new _).new _⟩
theorem l11 (l m : List Cmd) (hlm : l.length = m.length) (hn : l.length ≤ 4611686018427387904) (z id off z' id' off' : Nat) : ∀ (n i : Nat), i + n = l.length → ∀ (h : H), Hok h → Sl l h z id off → Sl m h z' id' off' →
    Wp (S11_l4 R (.sl z id off l.length) (.sl z' id' off' m.length) (.int .i64 i) h) fun r h' => r = .bool (decide (l.drop i = m.drop i)) ∧ Fr [] h h'
  | 0, i, hi, h, hk, s, s' => by
    rw [S11_l4_eq]
    have : i = l.length := by omega
    subst this
    have : m.drop l.length = [] := List.drop_of_length_le (by omega)
    simp [this]
    exact ⟨_, _, rfl, rfl, Fr.refl _ _⟩
  | n + 1, i, hi, h, hk, s, s' => by
    rw [S11_l4_eq]
    have hil : i < l.length := by omega
    have him : i < m.length := by omega
    have eg : bload (h.blk id) (off + i * 6) 6 = some l[i].en := s.get hil
    have eg' : bload (h.blk id') (off' + i * 6) 6 = some m[i].en := s'.get him
    simp only [lenL_sl, Option.bind_some, bin_lss, Int.ofNat_lt, hil, decide_true, onB_bool, if_true, iA_sl hil, iA_sl him, ldn_ptr, eg, eg', Option.map_some]
    refine Wp.bind (c36 _ _ h hk) ?_
    rintro r h' ⟨rfl, F⟩
    simp only [not_bool, Option.bind_some, onB_bool, bin_add]
    rw [inc64 (by omega)]
    by_cases e : l[i] = m[i]
    · simp only [e, decide_true, Bool.not_true, Bool.false_eq_true, if_false]
      refine (l11 l m hlm hn z id off z' id' off' n (i + 1) (by omega) h' (F.ok hk) (s.fr0 F) (s'.fr0 F)).mono ?_
      rintro r h'' ⟨rfl, F'⟩
      exact ⟨by simp [e, drop_eq_step l m i hil him], F.trans0 F'⟩
    · simp [e, drop_eq_step l m i hil him]
      exact ⟨_, _, rfl, rfl, F⟩
theorem c11 (l m : List Cmd) (hn : l.length ≤ 4611686018427387904) (z id off z' id' off' : Nat) (h : H) (hk : Hok h) (s : Sl l h z id off) (s' : Sl m h z' id' off') :
    Wp (R 11 [.sl z id off l.length, .sl z' id' off' m.length] h) fun r h' => r = .bool (decide (l = m)) ∧ Fr [] h h' := by
  refine R11 rfl ?_
  rw [S11_eq]
  by_cases e : l.length = m.length
  · have := l11 l m e hn z id off z' id' off' l.length 0 (by omega) h hk s s'
    simp only [Int.ofNat_zero, List.drop_zero] at this
    simp only [lenL_sl, Option.bind_some, bin_neq, e, decide_true, Bool.not_true, onB_bool, Bool.false_eq_true, if_false]
    rw [e] at this
    exact this
  · have : ¬ l = m := by rintro rfl; exact e rfl
    have e' : ¬ (l.length : Int) = m.length := by omega
    simp [e', this]
    exact ⟨_, _, rfl, rfl, Fr.refl _ _⟩
/-! Marks. -/
theorem l13 (l : List Int) (hn : l.length ≤ 1048576) (z id off : Nat) : ∀ (n i : Nat), i + n = l.length → ∀ (h : H) (m : List Int), m.length = l.length → Hok h → Sl m h z id off → (id = 0 ∨ h.lo ≤ id) → (∀ j (hj : j < m.length), j < i → m[j] = (j : Int) + 1) →
    Wp (S13_l2 R (.sl z id off l.length) (.int .i64 ((i : Int) + 1)) (.int .i64 i) h) fun r h' => r = .int .i64 ((l.length : Int) + 1) ∧ Fr [id] h h' ∧ ∃ m : List Int, m.length = l.length ∧ Sl m h' z id off ∧ ∀ j (hj : j < m.length), m[j] = (j : Int) + 1
  | 0, i, hi, h, m, hm, hk, s, hlo, hv => by
    rw [S13_l2_eq]
    have : i = l.length := by omega
    subst this
    simp
    exact ⟨_, _, rfl, rfl, Fr.refl _ _, m, hm, s, fun j hj => hv j hj (by omega)⟩
  | n + 1, i, hi, h, m, hm, hk, s, hlo, hv => by
    rw [S13_l2_eq]
    have hil : i < l.length := by omega
    have him : i < m.length := by omega
    have p := s.pos him
    have hlo' := hlo.resolve_left p.1
    simp only [lenL_sl, Option.bind_some, bin_lss, Int.ofNat_lt, hil, decide_true, onB_bool, if_true, iA_sl hil]
    refine Wp.stf hk s hlo him ((i : Int) + 1) 0 (v := .int .i64 ((i : Int) + 1)) rfl rfl (Nat.le_refl 1) rfl rfl ?_
    intro g gn gk s2 F
    simp only [bin_add, Option.bind_some]
    rw [inc64 (by omega), wrap64 (by omega) (by omega), show (i : Int) + 1 + 1 = ((i + 1 : Nat) : Int) + 1 by omega]
    refine (l13 l hn z id off n (i + 1) (by omega) g (m.set i ((i : Int) + 1)) (by simp [hm]) gk s2 (.inr (by rw [F.1]; exact hlo')) ?_).mono ?_
    · intro j hj hji
      rw [List.getElem_set]
      split
      · rename_i e; subst e; rfl
      · exact hv j (by simpa using hj) (by omega)
    · rintro r h'' ⟨rfl, F', m', a, b, c⟩
      exact ⟨rfl, Fr.trans F F' (by simp), m', a, b, c⟩
theorem c13 (l : List Int) (hn : l.length ≤ 1048576) (z id off : Nat) (h : H) (hk : Hok h) (s : Sl l h z id off) (own : id = 0 ∨ h.lo ≤ id) :
    Wp (R 13 [.sl z id off l.length, .int .i64 1] h) fun r h' => r = .int .i64 ((l.length : Int) + 1) ∧ Fr [id] h h' ∧ ∃ m : List Int, m.length = l.length ∧ Sl m h' z id off ∧ ∀ j (hj : j < m.length), m[j] = (j : Int) + 1 := by
  refine R13 rfl ?_
  rw [S13_eq]
  exact l13 l hn z id off l.length 0 (by omega) h l rfl hk s own (fun j hj h0 => absurd h0 (by omega))
theorem l14 (l : List Int) (hn : l.length ≤ 1048576) (z id off : Nat) (h : H) (s : Sl l h z id off) (hv : ∀ j (hj : j < l.length), l[j] = (j : Int) + 1) : ∀ (n i : Nat), i + n = l.length →
    S14_l2 R (.sl z id off l.length) (.int .i64 ((i : Int) + 1)) (.int .i64 i) h = some (.int .i64 ((l.length : Int) + 1), h)
  | 0, i, hi => by
    rw [S14_l2_eq]
    have : i = l.length := by omega
    subst this
    simp
  | n + 1, i, hi => by
    rw [S14_l2_eq]
    have hil : i < l.length := by omega
    have eg : bload (h.blk id) (off + i * 1) 1 = some [V.int .i64 l[i]] := s.get hil
    simp only [lenL_sl, Option.bind_some, bin_lss, Int.ofNat_lt, hil, decide_true, onB_bool, if_true, iA_sl hil, ld1_ptr, eg, List.head?_cons, bin_neq, bin_add, hv, Bool.not_true, Bool.false_eq_true, if_false]
    rw [inc64 (by omega), wrap64 (by omega) (by omega), show (i : Int) + 1 + 1 = ((i + 1 : Nat) : Int) + 1 by omega]
    exact l14 l hn z id off h s hv n (i + 1) (by omega)
theorem c14 (l : List Int) (hn : l.length ≤ 1048576) (z id off : Nat) (h : H) (s : Sl l h z id off) (hv : ∀ j (hj : j < l.length), l[j] = (j : Int) + 1) :
    R 14 [.sl z id off l.length, .int .i64 1] h = some (.int .i64 ((l.length : Int) + 1), h) := by
  refine ret_of (R14 rfl ?_)
  rw [S14_eq]
  exact wp_of (l14 l hn z id off h s hv l.length 0 (by omega)) ⟨rfl, rfl⟩
/-! A text that bears a number. -/
theorem l37 : ∀ (n x : Nat), x ≤ n → x ≤ 1099511627776 → ∀ (s : ByteArray) (h : H), Hok h → s.size + x ≤ 1099511627776 →
    Wp (S37_l4 R (.int .i64 x) (.str s) h) fun r h' => (∃ t, r = .str t) ∧ Fr [] h h'
  | n, 0, hx, hx2, s, h, hk, hs => by
    rw [S37_l4_eq]
    have : binV Try.prog .add 9 (.str ⟨#[109]⟩) (.str s) = some (.str (⟨#[109]⟩ ++ s)) := str_add _ _ _ _ (by show 1 + s.size < _; omega)
    simp [this]
    exact ⟨_, _, rfl, ⟨_, rfl⟩, Fr.refl _ _⟩
  | 0, x + 1, hx, hx2, s, h, hk, hs => absurd hx (by omega)
  | n + 1, x + 1, hx, hx2, s, h, hk, hs => by
    rw [S37_l4_eq]
    have hpos : (0 : Int) < ((x + 1 : Nat) : Int) := by omega
    have e1 : ((x + 1 : Nat) : Int).tmod 10 = (((x + 1) % 10 : Nat) : Int) := rfl
    have e2 : ((x + 1 : Nat) : Int).tdiv 10 = (((x + 1) / 10 : Nat) : Int) := rfl
    have hd : (x + 1) / 10 ≤ x := by omega
    have hw : IntKind.i64.wrap (48 + (((x + 1) % 10 : Nat) : Int)) = ((48 + (x + 1) % 10 : Nat) : Int) := by rw [wrap64 (by omega) (by omega)]; omega
    have hw2 : IntKind.i64.wrap (((x + 1) / 10 : Nat) : Int) = (((x + 1) / 10 : Nat) : Int) := wrap64 (by omega) (by omega)
    simp only [bin_gtr, hpos, decide_true, onB_bool, if_true, Option.bind_some, bin_rem _ _ _ _ _ (show (10 : Int) ≠ 0 by decide), bin_quo _ _ _ _ _ (show (10 : Int) ≠ 0 by decide), bin_add, e1, e2, hw, hw2]
    have h0 := hk.pos
    simp only [cvI, Option.bind_some, bsK_eq, bld_cons, bld_nil, cells_int, List.length_cons, List.length_nil, Nat.zero_add, if_true, splice_eq, Nat.reduceLeDiff]
    have hc : ∀ k : Int, cvB (h.new [V.int .u8 k]) (.sl 1 h.next 0 1) = some (.str ⟨#[UInt8.ofNat k.toNat]⟩) := fun k => by
      simp [cvB, h0, bytesOf, byteOfV]
    simp only [List.take_zero, List.nil_append, List.drop_succ_cons, List.drop_nil, List.append_nil, Option.bind_some, hc]
    rw [str_add _ _ _ _ (by show 1 + s.size < _; omega)]
    refine (l37 n ((x + 1) / 10) (by omega) (by omega) _ _ (hk.new _) ?_).mono ?_
    · show (_ ++ s).size + _ ≤ _
      rw [ByteArray.size_append]
      show 1 + s.size + _ ≤ _
      omega
    · rintro r h' ⟨t, F⟩
      exact ⟨t, ((Fr.refl _ _).new _).trans0 F⟩
theorem c37 (x : Nat) (hx : x ≤ 1099511627776) (h : H) (hk : Hok h) : Wp (R 37 [.int .i64 x] h) fun r h' => (∃ t, r = .str t) ∧ Fr [] h h' := by
  refine R37 rfl ?_
  rw [S37_eq]
  simp only [bin_leq, Option.bind_some, onB_bool, decide_eq_true_eq]
  split
  · simp; exact ⟨_, _, rfl, ⟨_, rfl⟩, Fr.refl _ _⟩
  · exact l37 x x (Nat.le_refl _) hx _ h hk (by show 0 + x ≤ _; omega)
theorem l12 (n0 : Nat) (hn : n0 ≤ 1048576) (z id off : Nat) : ∀ (n i k : Nat), i + n = n0 → k ≤ 1 + 6 * i → ∀ (h : H) (l : List Cmd), l.length = n0 → Hok h → Sl l h z id off → (id = 0 ∨ h.lo ≤ id) →
    Wp (S12_l2 R (.sl z id off n0) (.int .i64 k) (.int .i64 i) h) fun r h' => (∃ k : Nat, r = .int .i64 k) ∧ Fr [id] h h'
  | 0, i, k, hi, hkk, h, l, hl, hk, s, own => by
    rw [S12_l2_eq]
    have : i = n0 := by omega
    subst this
    simp
    exact ⟨_, _, rfl, ⟨_, rfl⟩, Fr.refl _ _⟩
  | n + 1, i, k, hi, hkk, h, l, hl, hk, s, own => by
    rw [S12_l2_eq]
    have hil : i < n0 := by omega
    have him : i < l.length := by omega
    have p := s.pos him
    have hlo := own.resolve_left p.1
    simp only [lenL_sl, Option.bind_some, bin_lss, Int.ofNat_lt, hil, decide_true, onB_bool, if_true, iA_sl hil, fA_ptr p.1, bin_add]
    have st : ∀ (f : Nat) (mk : Cmd → Cmd) (v : V) (h : H) (l : List Cmd), l.length = n0 → Hok h → Sl l h z id off → h.lo ≤ id → cellsV v = some [v] → f + 1 ≤ 6 → (∀ c : Cmd, (mk c).en = c.en.take f ++ [v] ++ c.en.drop (f + 1)) → ∀ (F : H → Option (V × H)) (Q : V → H → Prop),
        (∀ g, Hok g → h.lo ≤ id → (∃ l : List Cmd, l.length = n0 ∧ Sl l g z id off) → Fr [id] h g → Wp (F g) Q) → Wp (stN 1 h (.ptr id (off + i * 6 + f)) v F) Q := by
      intro f mk v h l hl hk s hlo hv hf he F Q c
      have him : i < l.length := by omega
      refine Wp.stf hk s (.inr hlo) him (mk l[i]) f hv rfl hf rfl (he _) ?_
      intro g gn gk s' F'
      exact c g gk hlo ⟨_, by rw [List.length_set]; exact hl, s'⟩ F'
    refine st 0 (fun c => ⟨(k : Int), c.n, c.o, c.k, c.v, c.d⟩) _ h l hl hk s hlo rfl (by decide) (fun _ => rfl) _ _ ?_
    rintro g1 k1 hlo1 ⟨l1, hl1, s1⟩ F1
    have hlo1 : g1.lo ≤ id := by rw [F1.1]; exact hlo
    rw [inc64 (by omega)]
    refine st 1 (fun c => ⟨c.s, ((k + 1 : Nat) : Int), c.o, c.k, c.v, c.d⟩) _ g1 l1 hl1 k1 s1 hlo1 rfl (by decide) (fun _ => rfl) _ _ ?_
    rintro g2 k2 - ⟨l2, hl2, s2⟩ F2
    have hlo2 : g2.lo ≤ id := by rw [F2.1]; exact hlo1
    rw [inc64 (by omega)]
    refine st 2 (fun c => ⟨c.s, c.n, ((k + 1 + 1 : Nat) : Int), c.k, c.v, c.d⟩) _ g2 l2 hl2 k2 s2 hlo2 rfl (by decide) (fun _ => rfl) _ _ ?_
    rintro g3 k3 - ⟨l3, hl3, s3⟩ F3
    have hlo3 : g3.lo ≤ id := by rw [F3.1]; exact hlo2
    rw [inc64 (by omega)]
    refine Wp.bind (c37 (k + 1 + 1 + 1) (by omega) g3 k3) ?_
    rintro r g4 ⟨⟨t, rfl⟩, F4⟩
    have k4 := F4.ok k3
    have s4 := s3.fr0 F4
    have hlo4 : g4.lo ≤ id := by rw [F4.1]; exact hlo3
    refine st 3 (fun c => ⟨c.s, c.n, c.o, t, c.v, c.d⟩) _ g4 l3 hl3 k4 s4 hlo4 rfl (by decide) (fun _ => rfl) _ _ ?_
    rintro g5 k5 - ⟨l5, hl5, s5⟩ F5
    have hlo5 : g5.lo ≤ id := by rw [F5.1]; exact hlo4
    rw [inc64 (by omega)]
    refine Wp.bind (c37 (k + 1 + 1 + 1 + 1) (by omega) g5 k5) ?_
    rintro r g6 ⟨⟨t6, rfl⟩, F6⟩
    have k6 := F6.ok k5
    have s6 := s5.fr0 F6
    have hlo6 : g6.lo ≤ id := by rw [F6.1]; exact hlo5
    refine st 4 (fun c => ⟨c.s, c.n, c.o, c.k, t6, c.d⟩) _ g6 l5 hl5 k6 s6 hlo6 rfl (by decide) (fun _ => rfl) _ _ ?_
    rintro g7 k7 - ⟨l7, hl7, s7⟩ F7
    have hlo7 : g7.lo ≤ id := by rw [F7.1]; exact hlo6
    rw [inc64 (by omega)]
    refine Wp.bind (c37 (k + 1 + 1 + 1 + 1 + 1) (by omega) g7 k7) ?_
    rintro r g8 ⟨⟨t8, rfl⟩, F8⟩
    have k8 := F8.ok k7
    have s8 := s7.fr0 F8
    have hlo8 : g8.lo ≤ id := by rw [F8.1]; exact hlo7
    refine st 5 (fun c => ⟨c.s, c.n, c.o, c.k, c.v, t8⟩) _ g8 l7 hl7 k8 s8 hlo8 rfl (by decide) (fun _ => rfl) _ _ ?_
    rintro g9 k9 - ⟨l9, hl9, s9⟩ F9
    have hlo9 : g9.lo ≤ id := by rw [F9.1]; exact hlo8
    rw [inc64 (by omega), inc64 (by omega)]
    refine (l12 n0 hn z id off n (i + 1) (k + 1 + 1 + 1 + 1 + 1 + 1) (by omega) (by omega) g9 l9 hl9 k9 s9 (.inr hlo9)).mono ?_
    rintro r g ⟨hr, F⟩
    refine ⟨hr, ?_⟩
    have z : ∀ j ∈ [id], ∀ n, j < n → j ∈ [id] := fun j hj _ _ => hj
    exact (((((((((F1.trans F2 (fun j hj h => hj)).trans F3 (fun j hj h => hj)).trans0 F4).trans F5 (fun j hj h => hj)).trans0 F6).trans F7 (fun j hj h => hj)).trans0 F8).trans F9 (fun j hj h => hj)).trans F (fun j hj h => hj))
theorem c12 (l : List Cmd) (hn : l.length ≤ 1048576) (z id off : Nat) (h : H) (hk : Hok h) (s : Sl l h z id off) (own : id = 0 ∨ h.lo ≤ id) :
    Wp (R 12 [.sl z id off l.length, .int .i64 1] h) fun r h' => (∃ k : Nat, r = .int .i64 k) ∧ Fr [id] h h' := by
  refine R12 rfl ?_
  rw [S12_eq]
  exact l12 l.length hn z id off l.length 0 1 (by omega) (by omega) h l rfl hk s own
end Go.Proofs.Ythoabddfionmoaa.AH
