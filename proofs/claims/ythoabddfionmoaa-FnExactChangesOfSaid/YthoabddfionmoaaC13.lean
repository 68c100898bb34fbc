/- Contracts of seat s: the program's ChangesOf. No condition. -/
import Derived.Test.YthoabddfionmoaaC12
set_option linter.unusedVariables false
set_option linter.unusedSimpArgs false
set_option maxRecDepth 100000
namespace Go.Proofs.Ythoabddfionmoaa.AH
open Go Go.RowKit
theorem nil43 (z id off n : Nat) : binV Try.prog .eql 43 (.sl z id off n) (.sl 0 0 0 0) = some (.bool (decide (id = 0))) := by
  have e : eqV Try.prog Op.maxDepth 43 (.sl z id off n) (.sl 0 0 0 0) = if id = 0 then some ((0 : Nat) == 0) else if (0 : Nat) = 0 then some false else none := by kernel_rfl
  have e2 : binV Try.prog .eql 43 (.sl z id off n) (.sl 0 0 0 0) = (eqV Try.prog Op.maxDepth 43 (.sl z id off n) (.sl 0 0 0 0)).map V.bool := rfl
  rw [e2, e]
  by_cases h : id = 0 <;> simp [h]
theorem c60 (l : List Pr) (hn : l.length ≤ 1000) (z id off : Nat) (h : H) (hk : Hok h) (s : Sl l h z id off) :
    Wp (R 60 [.sl z id off l.length] h) fun r h' => Fr [] h h' ∧ ∃ z2 i2 o2, r = .sl z2 i2 o2 l.length ∧ Sl l h' z2 i2 o2 ∧ (i2 = 0 ∨ h.next ≤ i2) := by
  refine R60 rfl ?_
  rw [S60_eq]
  refine Wp.b (nil43 _ _ _ _) (Wp.on (fun hc => ?_) (fun hc => ?_))
  · have hc : id = 0 := by simpa using hc
    rcases s with s | s
    · refine Wp.r1 rfl rfl ⟨Fr.refl _ _, 0, 0, 0, by rw [s.2]; rfl, .inl ⟨rfl, s.2⟩, .inl rfl⟩
    · exact absurd hc s.1
  · refine Wp.bs hk (Fr.refl [] h) ([] : List Pr) rfl rfl rfl ?_
    intro b g hb gn sb k b0 blo F F'
    refine Wp.ap k F sb (.inr blo) (.inr (.inr (by omega))) (s.fr0 F) rfl rfl rfl (by simp; omega) (by simp; omega) ?_
    intro z2 i2 o2 g2 k2 s2 own2 fr2 F2 F2'
    refine Wp.r1 rfl rfl ⟨F2, z2, i2, o2, by simp, by simpa using s2, .inr ?_⟩
    rcases fr2 with r | r <;> omega
theorem l61 (l m : List Pr) (hlm : l.length = m.length) (hn : l.length ≤ 4611686018427387904) (z id off z' id' off' : Nat) (h : H) (s : Sl l h z id off) (s' : Sl m h z' id' off') : ∀ (n i : Nat), i + n = l.length →
    S61_l4 R (.sl z id off l.length) (.sl z' id' off' m.length) (.int .i64 l.length) (.int .i64 i) h = some (.bool (decide (l.drop i = m.drop i)), h)
  | 0, i, hi => by
    rw [S61_l4_eq]
    have : i = l.length := by omega
    subst this
    have : m.drop l.length = [] := List.drop_of_length_le (by omega)
    simp [this]
  | n + 1, i, hi => by
    rw [S61_l4_eq]
    have hil : i < l.length := by omega
    have him : i < m.length := by omega
    have eg : bload (h.blk id) (off + i * 2) 2 = some l[i].en := s.get hil
    have eg' : bload (h.blk id') (off' + i * 2) 2 = some m[i].en := s'.get him
    simp only [Option.bind_some, bin_lss, Int.ofNat_lt, hil, decide_true, onB_bool, if_true, iA_sl hil, iA_sl him, ldn_ptr, eg, eg', Option.map_some, prNe, bin_add]
    rw [inc64 (by omega), l61 l m hlm hn z id off z' id' off' h s s' n (i + 1) (by omega)]
    by_cases e : l[i] = m[i]
    · simp [e, drop_eq_step l m i hil him]
    · simp [e, drop_eq_step l m i hil him]
theorem c61 (l m : List Pr) (hn : l.length ≤ 4611686018427387904) (hm : m.length ≤ 4611686018427387904) (z id off z' id' off' : Nat) (h : H) (s : Sl l h z id off) (s' : Sl m h z' id' off') :
    R 61 [.sl z id off l.length, .sl z' id' off' m.length] h = some (.bool (decide (l = m)), h) := by
  refine ret_of (R61 rfl ?_)
  rw [S61_eq]
  refine wp_of (v := _) (h := h) ?_ ⟨rfl, rfl⟩
  by_cases e : l.length = m.length
  · have := l61 l m e hn z id off z' id' off' h s s' l.length 0 (by omega)
    simp only [Int.ofNat_zero, List.drop_zero] at this
    simp only [lenL_sl, Option.bind_some, bin_neq, e, decide_true, Bool.not_true, onB_bool, Bool.false_eq_true, if_false]
    rw [e] at this
    exact this
  · have : ¬ l = m := by rintro rfl; exact e rfl
    have e' : ¬ (l.length : Int) = m.length := by omega
    simp [e', this]
/-- The closure appends a number to the list in its box. -/
theorem c35 (i : Nat) (w : List V) (out : List Int) (hn : out.length ≤ 1000) (o : Nat) (h : H) (hk : Hok h) {z id off : Nat} (B : Bx h o [.sl z id off out.length]) (s : Sl out h z id off) (own : h.lo ≤ id) (n1 : id ≠ o) :
    Wp (R 35 [.int .i64 i, .agg w, .ptr o 0] h) fun r h' => Fr [o, id] h h' ∧ ∃ z2 i2 o2, Bx h' o [.sl z2 i2 o2 (out ++ [(i : Int)]).length] ∧ Sl (out ++ [(i : Int)]) h' z2 i2 o2 ∧ h.next ≤ i2 := by
  refine R35 rfl ?_
  rw [S35_eq]
  refine Wp.bxB hk (Fr.refl [] h) rfl ?_
  intro b g1 hb gn1 Bb1 k1 F1 F1'
  have B1 := B.fr0 F1
  have e1 : ld1 g1 (.ptr o 0) = some (.sl z id off out.length) := B1.ld1 (o := 0) (by simp)
  refine Wp.b e1 ?_
  refine Wp.bs k1 F1 [(i : Int)] rfl rfl rfl ?_
  intro b5 g5 hb5 gn5 s5 k5 b50 blo5 F5 F5'
  have F50 : Fr [id] h g5 := F5.mono (by simp)
  refine Wp.ap k5 F50 (s.fr0 F5) (.inr (by rw [F5.1]; exact own)) (.inr (.inl (by simp))) s5 rfl rfl rfl (by simp; omega) (by simp; omega) ?_
  intro z6 i6 o6 g6 k6 s6 own6 fr6 F6 F6'
  have hi6 : g5.next ≤ i6 := by
    rcases fr6 with r | r
    · exact absurd r.1 (by simp)
    · exact r
  have hol := B.lt
  have hn5 := F5.2.1
  have B6 := (B.fr0 F5).fr1 F6' (Ne.symm n1)
  refine B6.st (n := 1) (vs := [.sl z6 i6 o6 (out ++ [(i : Int)]).length]) (ds := [.sl z6 i6 o6 (out ++ [(i : Int)]).length]) rfl rfl (by simp) rfl ?_
  intro g7 gn7 B7 F7'
  refine Wp.r0 ⟨(F6.mono (by simp)).tr F7' (by simp), z6, i6, o6, B7, s6.fr1 F7' (ner (by omega)), by omega⟩
end Go.Proofs.Ythoabddfionmoaa.AH
