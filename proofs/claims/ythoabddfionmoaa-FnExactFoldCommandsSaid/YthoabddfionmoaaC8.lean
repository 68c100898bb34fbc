/- Contracts of seat s: the reference's ChangesOf. No condition. -/
import Derived.Test.YthoabddfionmoaaC7
set_option linter.unusedVariables false
set_option linter.unusedSimpArgs false
set_option maxRecDepth 100000
namespace Go.Proofs.Ythoabddfionmoaa.AH
open Go Go.RowKit
theorem bytes_beq (a b : ByteArray) : (a == b) = decide (a = b) := by
  cases a with | mk a => cases b with | mk b =>
  have e : (ByteArray.mk a == ByteArray.mk b) = (a == b) := rfl
  rw [e, Bool.eq_iff_iff, beq_iff_eq, decide_eq_true_eq, ByteArray.mk.injEq]
theorem Sl.frz {α : Type} [Enc α] {i : Nat} {l : List α} {h h' : H} {z id off : Nat} (s : Sl l h z id off) (F : Fr [i] h h') (k : id ≠ i ∨ id = 0) : Sl l h' z id off := by
  rcases s with s | s
  · exact .inl s
  · exact (Sl.fr1 (.inr s) F (k.resolve_right s.1))
theorem prEq (a b c d : ByteArray) : (eqV Try.prog Op.maxDepth 88 (.agg [.str a, .str b]) (.agg [.str c, .str d])) = if (a == c) = true then (if (b == d) = true then some true else some false) else some false := by kernel_rfl
theorem prGuard : Try.prog.eqGuardType Try.prog.depth 88 = false := by kernel_rfl
theorem prNe (p q : Pr) : binV Try.prog .neq 88 (.agg p.en) (.agg q.en) = some (.bool (!decide (p = q))) := by
  obtain ⟨a, b⟩ := p
  obtain ⟨c, d⟩ := q
  have e : binV Try.prog .neq 88 (.agg (Pr.en ⟨a, b⟩)) (.agg (Pr.en ⟨c, d⟩)) = if Try.prog.eqGuardType Try.prog.depth 88 then none else (eqV Try.prog Op.maxDepth 88 (.agg [.str a, .str b]) (.agg [.str c, .str d])).map fun b => V.bool !b := rfl
  rw [e, prGuard, prEq, bytes_beq, bytes_beq]
  by_cases h1 : a = c <;> by_cases h2 : b = d <;> simp [h1, h2]
theorem l32 (l m : List Pr) (hlm : l.length = m.length) (hn : l.length ≤ 4611686018427387904) (z id off z' id' off' : Nat) (h : H) (s : Sl l h z id off) (s' : Sl m h z' id' off') : ∀ (n i : Nat), i + n = l.length →
    S32_l4 R (.sl z id off l.length) (.sl z' id' off' m.length) (.int .i64 l.length) (.int .i64 i) h = some (.bool (decide (l.drop i = m.drop i)), h)
  | 0, i, hi => by
    rw [S32_l4_eq]
    have : i = l.length := by omega
    subst this
    have : m.drop l.length = [] := List.drop_of_length_le (by omega)
    simp [this]
  | n + 1, i, hi => by
    rw [S32_l4_eq]
    have hil : i < l.length := by omega
    have him : i < m.length := by omega
    have eg : bload (h.blk id) (off + i * 2) 2 = some l[i].en := s.get hil
    have eg' : bload (h.blk id') (off' + i * 2) 2 = some m[i].en := s'.get him
    simp only [Option.bind_some, bin_lss, Int.ofNat_lt, hil, decide_true, onB_bool, if_true, iA_sl hil, iA_sl him, ldn_ptr, eg, eg', Option.map_some, prNe, bin_add]
    rw [inc64 (by omega), l32 l m hlm hn z id off z' id' off' h s s' n (i + 1) (by omega)]
    by_cases e : l[i] = m[i]
    · simp [e, drop_eq_step l m i hil him]
    · simp [e, drop_eq_step l m i hil him]
theorem c32 (l m : List Pr) (hn : l.length ≤ 4611686018427387904) (hm : m.length ≤ 4611686018427387904) (z id off z' id' off' : Nat) (h : H) (s : Sl l h z id off) (s' : Sl m h z' id' off') :
    R 32 [.sl z id off l.length, .sl z' id' off' m.length] h = some (.bool (decide (l = m)), h) := by
  refine ret_of (R32 rfl ?_)
  rw [S32_eq]
  refine wp_of (v := _) (h := h) ?_ ⟨rfl, rfl⟩
  by_cases e : l.length = m.length
  · have := l32 l m e hn z id off z' id' off' h s s' l.length 0 (by omega)
    simp only [Int.ofNat_zero, List.drop_zero] at this
    simp only [lenL_sl, Option.bind_some, bin_neq, e, decide_true, Bool.not_true, onB_bool, Bool.false_eq_true, if_false]
    rw [e] at this
    exact this
  · have : ¬ l = m := by rintro rfl; exact e rfl
    have e' : ¬ (l.length : Int) = m.length := by omega
    simp [e', this]
/-- The numbers of the commands that change the map. -/
def chgs : Kv → Nat → List Cmd → List Int
  | _, _, [] => []
  | s, i, c :: l => if s.cells = (applySt s c).1.cells then chgs (applySt s c).1 (i + 1) l else (i : Int) :: chgs (applySt s c).1 (i + 1) l
theorem chgs_len : ∀ (l : List Cmd) (s : Kv) (i : Nat), (chgs s i l).length ≤ l.length
  | [], s, i => Nat.le_refl _
  | c :: l, s, i => by
    have := chgs_len l (applySt s c).1 (i + 1)
    unfold chgs
    split <;> simp <;> omega
theorem l7 (l : List Cmd) (hn : l.length ≤ 100) (z id off p : Nat) (h0 : H) (hk0 : Hok h0) (sl : Sl l h0 z id off) (hp : h0.next ≤ p) : ∀ (n i : Nat), i + n = l.length → ∀ (s : Kv) (cs : List V) (out : List Int) (zo io oo : Nat) (g : H), s.ok → Hok g → Fr [] h0 g → Bx g p cs → KvV (fun i => i ≠ p ∧ (i ≠ io ∨ i = 0)) s g cs →
    Sl out g zo io oo → (io = 0 ∨ h0.next ≤ io) → io ≠ p → out.length ≤ i →
    Wp (S7_l6 R (.ptr p 0) (.sl zo io oo out.length) (.sl z id off l.length) (.int .i64 l.length) (.int .i64 i) g) fun r h' => Fr [] h0 h' ∧ ∃ z2 i2 o2, r = .tup [.sl z2 i2 o2 (out ++ chgs s i (l.drop i)).length, .bool true] ∧ Sl (out ++ chgs s i (l.drop i)) h' z2 i2 o2 ∧ (i2 = 0 ∨ h0.next ≤ i2)
  | 0, i, hi, s, cs, out, zo, io, oo, g, hs, hk, F, B, kv, so, ow, np, ho => by
    rw [S7_l6_eq]
    have : i = l.length := by omega
    subst this
    refine Wp.b (bin_lss _ _ _ _ _) (Wp.onF (by simp) (Wp.r2 rfl rfl rfl rfl ⟨F, zo, io, oo, ?_, ?_, ow⟩))
    · simp [chgs]
    · simpa [chgs] using so
  | n + 1, i, hi, s, cs, out, zo, io, oo, g, hs, hk, F, B, kv, so, ow, np, ho => by
    rw [S7_l6_eq]
    have hil : i < l.length := by omega
    have slg := sl.fr0 F
    have eg : ldn 6 g (.ptr id (off + i * 6)) = some (.agg l[i].en) := by
      have : bload (g.blk id) (off + i * 6) 6 = some l[i].en := slg.get hil
      rw [ldn_ptr, this]; rfl
    refine Wp.b (bin_lss _ _ _ _ _) (Wp.onT (by simp; exact hil) (Wp.b (iA_sl hil) (Wp.b eg ?_)))
    refine Wp.alB hk F ?_
    intro d g1 hd gn1 Bd1 k1 F1 F1'
    refine Bd1.st (n := 6) (vs := l[i].en) (ds := l[i].en) rfl rfl (by simp) rfl ?_
    intro g2 gn2 Bd2 F2'
    have hpl := B.lt
    have hgn := F.2.1
    have dn : h0.next ≤ d := by omega
    have F2 := F1.tr1 F2' dn
    have k2 := F2'.ok k1
    have pd : p < d := by omega
    have B2 := (B.fr0 F1').fr1 F2' (nel pd)
    have F12 : Fr [] g g2 := F1'.tr1 F2' (by omega)
    have kv2 := kv.fr0 F12
    obtain ⟨z1, i1, o1, z2, i2, o2, rfl, s1, s2, ⟨q1, q1b⟩, q2, q2b⟩ := kv
    have x1 : ld1 g2 (.ptr p (0 + 0)) = some (.sl z1 i1 o1 s.cells.length) := B2.ld1 (o := 0) (by simp)
    have x2 := B2.ldn (n := 2) rfl
    have x3 := Bd2.ldn (n := 6) rfl
    refine Wp.b (fA_ptr B2.ne) (Wp.b x1 (Wp.b x2 (Wp.b x3 ?_)))
    refine Wp.bind (c31 (P := fun i => i ≠ p ∧ (i ≠ io ∨ i = 0)) s hs l[i] _ g2 k2 (fun j hj => by have := B2.lt; have := (so.fr0 F12).lt k2; exact ⟨by omega, .inl (by omega)⟩) ⟨Ne.symm B2.ne, .inr rfl⟩ kv2) ?_
    rintro r g3 ⟨F3', cs', rfl, kv3⟩
    have F3 := F2.trans0 F3'
    have k3 := F3'.ok k2
    have B3 := B2.fr0 F3'
    obtain ⟨z1', i1', o1', z2', i2', o2', rfl, s1', s2', ⟨q1', q1b'⟩, q2', q2b'⟩ := kv3
    refine Wp.b rfl (Wp.b rfl ?_)
    refine B3.st (n := 2) (vs := [V.sl z1' i1' o1' (applySt s l[i]).1.cells.length, V.sl z2' i2' o2' (applySt s l[i]).1.sess.length]) (ds := [V.sl z1' i1' o1' (applySt s l[i]).1.cells.length, V.sl z2' i2' o2' (applySt s l[i]).1.sess.length]) rfl rfl (by simp) rfl ?_
    intro g4 gn4 B4 F4'
    have F4 := F3.tr1 F4' hp
    have k4 := F4'.ok k3
    have t1 := (((s1.fr0 F12).fr0 F3').fr1 F4' q1)
    have t1' := s1'.fr1 F4' q1'
    have t2' := s2'.fr1 F4' q2'
    have hs' := applySt_ok hs l[i]
    have y1 : ld1 g4 (.ptr p (0 + 0)) = some (.sl z1' i1' o1' (applySt s l[i]).1.cells.length) := B4.ld1 (o := 0) (by simp)
    have cl := hs.1
    have cl' := hs'.1
    refine Wp.b (fA_ptr B4.ne) (Wp.b y1 (Wp.b (c32 _ _ (by omega) (by omega) z1 i1 o1 z1' i1' o1' g4 t1 t1') (Wp.b rfl ?_)))
    have kv4 : KvV (fun i => i ≠ p ∧ (i ≠ io ∨ i = 0)) (applySt s l[i]).1 g4 [V.sl z1' i1' o1' (applySt s l[i]).1.cells.length, V.sl z2' i2' o2' (applySt s l[i]).1.sess.length] := ⟨z1', i1', o1', z2', i2', o2', rfl, t1', t2', ⟨q1', q1b'⟩, q2', q2b'⟩
    have so4 := ((so.fr0 F12).fr0 F3').fr1 F4' np
    have hdrop : l.drop i = l[i] :: l.drop (i + 1) := List.drop_eq_getElem_cons hil
    refine Wp.on (fun hc => ?_) (fun hc => ?_)
    · have hc : ¬ s.cells = (applySt s l[i]).1.cells := by simpa using hc
      refine Wp.bs k4 F4 [(i : Int)] rfl rfl rfl ?_
      intro b5 g5 hb5 gn5 s5 k5 b50 blo5 F5 F5'
      refine Wp.ap k5 F5 (so4.fr0 F5') (by rcases ow with r | r; exact .inl r; exact .inr (by rw [F5.1]; have := hk0.2; omega)) (by rcases ow with r | r; exact .inl r; exact .inr (.inr r)) s5 rfl rfl rfl (by simp; omega) (by simp; omega) ?_
      intro z6 i6 o6 g6 k6 s6 own6 fr6 F6 F6'
      have hi6 : p < i6 ∧ h0.next ≤ i6 := by
        have := B4.lt
        rcases fr6 with fr6 | fr6
        · exact absurd fr6.1 (by simp)
        · have := F5.2.1; omega
      refine Wp.b (bin_add _ _ _ _ _) ?_
      rw [inc64 (by omega)]
      have npo : p ≠ io := Ne.symm np
      have Bk := (B4.fr0 F5').fr1 F6' npo
      have kv6 : KvV (fun j => j ≠ p ∧ (j ≠ i6 ∨ j = 0)) (applySt s l[i]).1 g6 [V.sl z1' i1' o1' (applySt s l[i]).1.cells.length, V.sl z2' i2' o2' (applySt s l[i]).1.sess.length] := by
        have hi6 : g5.next ≤ i6 := by
          rcases fr6 with fr6 | fr6
          · exact absurd fr6.1 (by simp)
          · exact fr6
        have u1 := (t1'.fr0 F5')
        have u2 := (t2'.fr0 F5')
        exact ⟨z1', i1', o1', z2', i2', o2', rfl, u1.frz F6' q1b', u2.frz F6' q2b', ⟨q1', .inl (nel (Nat.lt_of_lt_of_le (u1.lt k5) hi6))⟩, q2', .inl (nel (Nat.lt_of_lt_of_le (u2.lt k5) hi6))⟩
      refine (l7 l hn z id off p h0 hk0 sl hp n (i + 1) (by omega) _ _ (out ++ [(i : Int)]) z6 i6 o6 g6 hs' k6 F6 Bk kv6 s6 (.inr hi6.2) (ner hi6.1) (by simp; omega)).mono ?_
      rintro r h' ⟨Fz, a, b, c, rfl, ss, ww⟩
      refine ⟨Fz, a, b, c, ?_, ?_, ww⟩
      · rw [hdrop, chgs, if_neg hc]; simp
      · rw [hdrop, chgs, if_neg hc]; simpa using ss
    · have hc : s.cells = (applySt s l[i]).1.cells := by simpa using hc
      refine Wp.b (bin_add _ _ _ _ _) ?_
      rw [inc64 (by omega)]
      refine (l7 l hn z id off p h0 hk0 sl hp n (i + 1) (by omega) _ _ out zo io oo g4 hs' k4 F4 B4 kv4 so4 ow np (by omega)).mono ?_
      rintro r h' ⟨Fz, a, b, c, rfl, ss, ww⟩
      refine ⟨Fz, a, b, c, ?_, ?_, ww⟩
      · rw [hdrop, chgs, if_pos hc]
      · rw [hdrop, chgs, if_pos hc]; exact ss
theorem c7 (l : List Cmd) (hn : l.length ≤ 4611686018427387904) (z id off : Nat) (h : H) (hk : Hok h) (sl : Sl l h z id off) :
    Wp (R 7 [.sl z id off l.length] h) fun r h' => Fr [] h h' ∧ ∃ z2 i2 o2, r = .tup [.sl z2 i2 o2 (if l.length ≤ 100 then chgs ⟨[], []⟩ 0 l else []).length, .bool (decide (l.length ≤ 100))] ∧ Sl (if l.length ≤ 100 then chgs ⟨[], []⟩ 0 l else []) h' z2 i2 o2 := by
  refine R7 rfl ?_
  rw [S7_eq]
  refine Wp.b (lenL_sl _ _ _ _) (Wp.b (bin_gtr _ _ _ _ _) (Wp.on (fun hc => ?_) (fun hc => ?_)))
  · have hc : ¬ l.length ≤ 100 := by simp at hc; omega
    rw [if_neg hc]
    exact Wp.r2 rfl rfl rfl rfl ⟨Fr.refl _ _, 0, 0, 0, by simp [hc], Sl.nil _ _ _⟩
  · have hc : l.length ≤ 100 := by simp at hc; omega
    rw [if_pos hc]
    refine Wp.b rfl ?_
    refine Wp.alB hk (Fr.refl [] h) ?_
    intro p g1 hp gn1 B1 k1 F1 F1'
    refine B1.st (n := 2) (vs := [.sl 0 0 0 0, .sl 0 0 0 0]) (ds := [.sl 0 0 0 0, .sl 0 0 0 0]) rfl rfl (by simp) rfl ?_
    intro g2 gn2 B2 F2'
    have F2 := F1.tr1 F2' (by omega)
    refine Wp.b (lenL_sl _ _ _ _) ?_
    refine (l7 l hc z id off p h hk sl (by omega) l.length 0 (by omega) ⟨[], []⟩ _ [] 0 0 0 g2 ⟨by simp, by simp⟩ (F2'.ok k1) F2 B2 ⟨0, 0, 0, 0, 0, 0, rfl, Sl.nil _ _ _, Sl.nil _ _ _, ⟨Ne.symm B2.ne, .inr rfl⟩, Ne.symm B2.ne, .inr rfl⟩ (Sl.nil _ _ _) (.inl rfl) (Ne.symm B2.ne) (by simp)).mono ?_
    rintro r h' ⟨F, a, b, c, rfl, ss, ww⟩
    exact ⟨F, a, b, c, by simp [hc], by simpa using ss⟩
end Go.Proofs.Ythoabddfionmoaa.AH
