/- A text that bears a number; equalities of pairs, replies, sessions. No condition. -/
import Derived.Test.YthoabddfionmoaaC3
import Derived.Test.YthoabddfionmoaaAO
set_option linter.unusedVariables false
set_option linter.unusedSimpArgs false
set_option maxRecDepth 100000
namespace Go.Proofs.Ythoabddfionmoaa.AH
open Go Go.RowKit
/-- The digits of x ahead of s. -/
def mdig : Nat → Nat → ByteArray → ByteArray
  | 0, _, s => s
  | f + 1, x, s => if x = 0 then s else mdig f (x / 10) (⟨#[UInt8.ofNat (48 + x % 10)]⟩ ++ s)
def mt (x : Nat) : ByteArray := ⟨#[109]⟩ ++ mdig x x ⟨#[]⟩
theorem l37' : ∀ (n x : Nat), x ≤ n → x ≤ 1073741824 → ∀ (s : ByteArray) (h : H), Hok h → s.size + x ≤ 1099511627776 →
    Wp (S37_l4 R (.int .i64 x) (.str s) h) fun r h' => r = .str (⟨#[109]⟩ ++ mdig n x s) ∧ Fr [] h h'
  | n, 0, hx, hx2, s, h, hk, hs => by
    rw [S37_l4_eq]
    have : binV Try.prog .add 9 (.str ⟨#[109]⟩) (.str s) = some (.str (⟨#[109]⟩ ++ s)) := str_add _ _ _ _ (by show 1 + s.size < _; omega)
    have e : mdig n 0 s = s := by cases n <;> simp [mdig]
    rw [e]
    simp [this]
    exact ⟨_, _, rfl, rfl, Fr.refl _ _⟩
  | 0, x + 1, hx, hx2, s, h, hk, hs => absurd hx (by omega)
  | n + 1, x + 1, hx, hx2, s, h, hk, hs => by
    rw [S37_l4_eq]
    have hpos : (0 : Int) < ((x + 1 : Nat) : Int) := by omega
    have e1 : ((x + 1 : Nat) : Int).tmod 10 = (((x + 1) % 10 : Nat) : Int) := rfl
    have e2 : ((x + 1 : Nat) : Int).tdiv 10 = (((x + 1) / 10 : Nat) : Int) := rfl
    have hd : (x + 1) / 10 ≤ x := by omega
    have hu : IntKind.u8.wrap (((x + 1) % 10 : Nat) : Int) = (((x + 1) % 10 : Nat) : Int) := by
      have : (x + 1) % 10 < 10 := Nat.mod_lt _ (by decide)
      unfold IntKind.wrap
      simp [IntKind.bits, IntKind.signed]
      omega
    have hw : IntKind.i64.wrap (48 + (((x + 1) % 10 : Nat) : Int)) = ((48 + (x + 1) % 10 : Nat) : Int) := by rw [wrap64 (by omega) (by omega)]; omega
    have hw2 : IntKind.i64.wrap (((x + 1) / 10 : Nat) : Int) = (((x + 1) / 10 : Nat) : Int) := wrap64 (by omega) (by omega)
    simp only [bin_gtr, hpos, decide_true, onB_bool, if_true, Option.bind_some, bin_rem _ _ _ _ _ (show (10 : Int) ≠ 0 by decide), bin_quo _ _ _ _ _ (show (10 : Int) ≠ 0 by decide), bin_add, e1, e2, hw, hw2]
    have h0 := hk.pos
    simp only [cvI, Option.bind_some, bsK_eq, bld_cons, bld_nil, cells_int, List.length_cons, List.length_nil, Nat.zero_add, if_true, splice_eq, Nat.reduceLeDiff]
    have hc : ∀ k : Int, cvB (h.new [V.int .u8 k]) (.sl 1 h.next 0 1) = some (.str ⟨#[UInt8.ofNat k.toNat]⟩) := fun k => by
      simp [cvB, h0, bytesOf, byteOfV]
    simp only [List.take_zero, List.nil_append, List.drop_succ_cons, List.drop_nil, List.append_nil, Option.bind_some, hc]
    rw [str_add _ _ _ _ (by show 1 + s.size < _; omega)]
    have hu2 : (IntKind.u8.wrap ((48 + (x + 1) % 10 : Nat) : Int)).toNat = 48 + (x + 1) % 10 := by
      have : (x + 1) % 10 < 10 := Nat.mod_lt _ (by decide)
      unfold IntKind.wrap
      simp [IntKind.bits, IntKind.signed]
      omega
    rw [hu2]
    refine (l37' n ((x + 1) / 10) (by omega) (by omega) _ _ (hk.new _) ?_).mono ?_
    · show (_ ++ s).size + _ ≤ _
      rw [ByteArray.size_append]
      show 1 + s.size + _ ≤ _
      omega
    · rintro r h' ⟨t, F⟩
      refine ⟨?_, ((Fr.refl _ _).new _).trans0 F⟩
      rw [t]
      conv => rhs; unfold mdig
      rw [if_neg (by omega)]
theorem mText (x : Nat) (h1 : 1 ≤ x) (hx : x ≤ 1073741824) (h : H) (hk : Hok h) : Wp (R 37 [.int .i64 x] h) fun r h' => r = .str (mt x) ∧ Fr [] h h' := by
  refine R37 rfl ?_
  rw [S37_eq]
  simp only [bin_leq, Option.bind_some, onB_bool, decide_eq_true_eq]
  rw [if_neg (by omega)]
  exact l37' x x (Nat.le_refl _) hx _ h hk (by show 0 + x ≤ _; omega)
theorem ePair (c d : Pr) (h : H) (hk : Hok h) : Wp (R 76 [.agg c.en, .agg d.en] h) fun r h' => r = .bool (decide (c = d)) ∧ Fr [] h h' := by
  refine R76 rfl ?_
  have h0 := hk.pos
  rw [S76_eq]
  obtain ⟨a1, a2⟩ := c
  obtain ⟨b1, b2⟩ := d
  simp [h0, Pr.en]
  repeat' split
  all_goals exact ⟨_, _, rfl, by simp_all, ((Fr.refl _ _).new _).new _⟩
theorem eReply (c d : Rp) (h : H) (hk : Hok h) : Wp (R 53 [.agg c.en, .agg d.en] h) fun r h' => r = .bool (decide (c = d)) ∧ Fr [] h h' := by
  refine R53 rfl ?_
  have h0 := hk.pos
  rw [S53_eq]
  obtain ⟨a1, a2⟩ := c
  obtain ⟨b1, b2⟩ := d
  simp [h0, Rp.en]
  repeat' split
  all_goals exact ⟨_, _, rfl, by simp_all, ((Fr.refl _ _).new _).new _⟩
theorem eSession (c d : Se) (h : H) (hk : Hok h) : Wp (R 77 [.agg c.en, .agg d.en] h) fun r h' => r = .bool (decide (c = d)) ∧ Fr [] h h' := by
  refine R77 rfl ?_
  rw [S77_eq]
  have s := Mm.base hk
  refine Wp.box s rfl fun p g1 p0 F1 s => ?_
  refine Wp.box s rfl fun q g2 q0 F2 s => ?_
  have F := F1.trans0 F2
  refine Wp.b (fA_p p0) (Wp.b (s.ld1 1 rfl p0 0 rfl) (Wp.b (fA_p q0) (Wp.b (s.ld1 0 rfl q0 0 rfl) (Wp.b (bin_neq _ _ _ _ _) (Wp.on (fun hc => ?_) (fun hc => ?_))))))
  · have : c ≠ d := by rintro rfl; simp at hc
    exact Wp.r1 rfl rfl ⟨by simp [this], F⟩
  refine Wp.b (fA_p p0) (Wp.b (s.ld1 1 rfl p0 1 rfl) (Wp.b (fA_p q0) (Wp.b (s.ld1 0 rfl q0 1 rfl) (Wp.b (bin_neq _ _ _ _ _) (Wp.on (fun hc2 => ?_) (fun hc2 => ?_))))))
  · have : c ≠ d := by rintro rfl; simp at hc2
    exact Wp.r1 rfl rfl ⟨by simp [this], F⟩
  refine Wp.b (fA_p p0) (Wp.b (s.ldn 1 rfl p0 2 2 (Nat.le_refl 4) rfl) (Wp.b (fA_p q0) (Wp.b (s.ldn 0 rfl q0 2 2 (Nat.le_refl 4) rfl) ?_)))
  refine Wp.bind (eReply c.r d.r g2 s.k) ?_
  rintro _ g3 ⟨rfl, F3⟩
  have h1 : c.i = d.i := by simpa using hc
  have h2 : c.l = d.l := by simpa using hc2
  obtain ⟨a1, a2, a3⟩ := c
  obtain ⟨b1, b2, b3⟩ := d
  simp only at h1 h2
  subst h1 h2
  refine Wp.b (not_bool _) (Wp.on (fun hc3 => ?_) (fun hc3 => ?_))
  · exact Wp.r1 rfl rfl ⟨by simp at hc3; simp [hc3], F.trans0 F3⟩
  · exact Wp.r1 rfl rfl ⟨by simp at hc3; simp [hc3], F.trans0 F3⟩
theorem eCommand (c d : Cmd) (h : H) (hk : Hok h) : Wp (R 36 [.agg c.en, .agg d.en] h) fun r h' => r = .bool (decide (c = d)) ∧ Fr [] h h' := c36 c d h hk
end Go.Proofs.Ythoabddfionmoaa.AH
