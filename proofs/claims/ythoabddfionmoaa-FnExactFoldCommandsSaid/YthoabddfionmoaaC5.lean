/- Contracts of seat s: the reference's map of commands. No condition. -/
import Derived.Test.YthoabddfionmoaaC4
set_option linter.unusedVariables false
set_option linter.unusedSimpArgs false
set_option maxRecDepth 100000
namespace Go.Proofs.Ythoabddfionmoaa.AH
open Go Go.RowKit
theorem Sl.take {α : Type} [Enc α] {l : List α} {h : H} {z id off : Nat} (s : Sl l h z id off) (k : Nat) (hk : k ≤ l.length) : Sl (l.take k) h z id off := by
  have := s.sub 0 k (by omega)
  simpa using this
theorem Sl.drop {α : Type} [Enc α] {l : List α} {h : H} {z id off : Nat} (s : Sl l h z id off) (k : Nat) (hk : k ≤ l.length) : Sl (l.drop k) h z id (off + k * Enc.sz α) := by
  have := s.sub k (l.length - k) (by omega)
  rwa [List.take_of_length_le (by simp)] at this
theorem c79 (l : List Pr) (hn : l.length ≤ 1000) (x : Pr) (z id off : Nat) (h : H) (hk : Hok h) (s : Sl l h z id off) :
    Wp (R 79 [.sl z id off l.length, .agg x.en] h) fun r h' => Fr [] h h' ∧ ∃ z2 id2 off2, r = .sl z2 id2 off2 (putPr l x).length ∧ Sl (putPr l x) h' z2 id2 off2 ∧ (id2 = 0 ∨ h.next ≤ id2) := by
  refine R79 rfl ?_
  rw [S79_eq]
  refine Wp.bx hk (Fr.refl [] h) rfl ?_
  intro b g1 n1 hb gn1 gb1 k1 b0 blo F1 F1'
  have s1 := s.fr0 F1
  have kl := kPr_le l x.k
  have zz : 2 = z ∨ id = 0 := s.zor
  have e1 : ld1 g1 (.ptr b (0 + 0)) = some (.str x.k) := by simp [gb1, Pr.en]
  simp only [fA_ptr b0, Option.bind_some, e1, c78 l (by omega) x.k z id off g1 s1, ext_tup, List.getElem?_cons_zero, List.getElem?_cons_succ]
  rw [slL_hi zz kl]
  simp only [Option.bind_some]
  refine Wp.ap k1 F1 (l := ([] : List Pr)) (m := l.take (kPr l x.k)) (.inl ⟨rfl, rfl⟩) (.inl rfl) (.inl rfl) (s1.take _ kl) rfl (by simp; omega) rfl (by simp; omega) (by simp; omega) ?_
  intro z2 id2 off2 g2 k2 s2 own2 fr2 F2 F2'
  have gb2 : g2.blk b = ⟨x.en, n1, true⟩ := by rw [F2'.blk1 b0 (by omega) b0, gb1]
  have e2 : ldn 2 g2 (.ptr b 0) = some (.agg x.en) := by simp [gb2, Pr.en]
  simp only [e2, Option.bind_some]
  refine Wp.bs k2 F2 [x] (by simp [Pr.en, flat_one, Enc.enc]) rfl rfl ?_
  intro b3 g3 hb3 gn3 s3 k3 b03 blo3 F3 F3'
  have hid2 : id2 = 0 ∨ id2 ∈ ([] : List Nat) ∨ h.next ≤ id2 := by
    rcases fr2 with fr2 | fr2
    · exact .inl fr2.2
    · exact .inr (.inr (by have := F1.2.1; omega))
  refine Wp.ap k3 F3 (s2.fr0 F3') (by rw [F3'.1]; exact own2) hid2 s3 rfl rfl rfl (by simp; omega) (by simp; omega) ?_
  intro z4 id4 off4 g4 k4 s4 own4 fr4 F4 F4'
  have s4' := s.fr0 F4
  have hid4 : id4 = 0 ∨ id4 ∈ ([] : List Nat) ∨ h.next ≤ id4 := by
    rcases fr4 with fr4 | fr4
    · exact absurd fr4.1 (by simp)
    · exact .inr (.inr (by have := F3.2.1; omega))
  simp only [onB_bool]
  have hput : putPr l x = [] ++ l.take (kPr l x.k) ++ [x] ++ l.drop (if hasPr l x.k then kPr l x.k + 1 else kPr l x.k) := by simp [putPr]
  split
  · rename_i e
    have hlt := hasPr_lt e
    simp only [bin_add, Option.bind_some]
    rw [inc64 (by omega), slL_lo zz (by omega)]
    simp only [Option.bind_some]
    rw [hput, e]
    refine Wp.ap k4 F4 s4 own4 hid4 (s4'.drop (kPr l x.k + 1) (by omega)) rfl (by simp) rfl (by simp; omega) (by simp; omega) ?_
    intro z5 id5 off5 g5 k5 s5 own5 fr5 F5 F5'
    refine ⟨_, _, rfl, F5, z5, id5, off5, rfl, s5, ?_⟩
    rcases fr5 with fr5 | fr5
    · rw [fr5.2]; simpa using hid4
    · have := F4.2.1; omega
  · rename_i e
    rw [slL_lo zz (by omega)]
    simp only [Option.bind_some]
    rw [hput, if_neg e]
    refine Wp.ap k4 F4 s4 own4 hid4 (s4'.drop (kPr l x.k) (by omega)) rfl (by simp) rfl (by simp; omega) (by simp; omega) ?_
    intro z5 id5 off5 g5 k5 s5 own5 fr5 F5 F5'
    refine ⟨_, _, rfl, F5, z5, id5, off5, rfl, s5, ?_⟩
    rcases fr5 with fr5 | fr5
    · rw [fr5.2]; simpa using hid4
    · have := F4.2.1; omega
theorem rp0 (k : Int) (v : ByteArray) : bldV [(V.int .i64 0), (V.str ⟨#[]⟩)] [(0, 1, .int .i64 k), (1, 1, .str v)] = some (.agg (Rp.en ⟨k, v⟩)) := rfl
theorem rp1 (k : Int) : bldV [(V.int .i64 0), (V.str ⟨#[]⟩)] [(0, 1, .int .i64 k)] = some (.agg (Rp.en ⟨k, emp⟩)) := rfl
theorem rp2 (v : ByteArray) : bldV [(V.int .i64 0), (V.str ⟨#[]⟩)] [(1, 1, .str v)] = some (.agg (Rp.en ⟨0, v⟩)) := rfl
theorem rp3 : bldV [(V.int .i64 0), (V.str ⟨#[]⟩)] [] = some (.agg (Rp.en ⟨0, emp⟩)) := rfl
/-- A reply is put into its box and read from there. -/
theorem wp_rep {h0 h : H} (F : Fr [] h0 h) {p n : Nat} {cs : List V} (hb : h.blk p = ⟨cs, n, true⟩) (hl : cs.length = 2) (hlo : h.lo ≤ p) (hp : h0.next ≤ p) (a : V) (ha : ntup a = some a) (rp : Rp) {Q : V → H → Prop}
    (c : ∀ g, Fr [] h0 g → Fr [p] h g → Q (.tup [a, .agg rp.en]) g) :
    Wp (stN 2 h (.ptr p 0) (.agg rp.en) fun h' => (ress [(some a), (ldn 2 h' (.ptr p 0))]).map fun vs => (tupOf vs, h')) Q := by
  refine Wp.st (vs := rp.en) rfl rfl (by rw [hb]) hlo (by rw [hb]; show 0 + 2 ≤ cs.length; omega) ?_
  intro g ver gn gb F'
  have e : ldn 2 g (.ptr p 0) = some (.agg rp.en) := by
    rw [hb] at gb
    have : List.drop (0 + rp.en.length) cs = [] := List.drop_of_length_le (by show cs.length ≤ 0 + 2; omega)
    rw [this] at gb
    simp [gb, Rp.en]
  simp only [e, ress_cons, ress_nil, Option.bind_some, ha, ntup_agg, Option.map_some, tupOf_two]
  exact ⟨_, _, rfl, c g (F.tr F' (by simp; omega)) F'⟩
theorem valPr_at {l : List Pr} {x : ByteArray} (e : hasPr l x = true) : valPr l x = (l[kPr l x]'(hasPr_lt e)).v := by
  unfold valPr; rw [List.getElem?_eq_getElem (hasPr_lt e)]
theorem c59 (l : List Pr) (hn : l.length ≤ 1000) (x : Cmd) (z id off : Nat) (h : H) (hk : Hok h) (s : Sl l h z id off) :
    Wp (R 59 [.sl z id off l.length, .agg x.en] h) fun r h' => Fr [] h h' ∧ ∃ z2 id2 off2, r = .tup [.sl z2 id2 off2 (doPr l x).1.length, .agg (doPr l x).2.en] ∧ Sl (doPr l x).1 h' z2 id2 off2 ∧ (id2 = id ∨ id2 = 0 ∨ h.next ≤ id2) := by
  refine R59 rfl ?_
  rw [S59_eq]
  refine Wp.bx hk (Fr.refl [] h) rfl ?_
  intro b g1 n1 hb gn1 gb1 k1 b0 blo F1 F1'
  refine Wp.al k1 F1 ?_
  intro p g2 n2 hp gn2 gp2 k2 p0 plo F2 F2'
  have gb2 : g2.blk b = ⟨x.en, n1, true⟩ := by rw [F2'.blk0 b0 (by omega), gb1]
  have s2 := s.fr0 F2
  have kl := kPr_le l x.k
  have zz : 2 = z ∨ id = 0 := s.zor
  have hpn : h.next ≤ p := by omega
  have hidp : id ≠ p := by have := s.lt hk; omega
  have e0 : ld1 g2 (.ptr b (0 + 3)) = some (.str x.k) := by simp [gb2, Cmd.en]
  have e2 : ld1 g2 (.ptr b (0 + 2)) = some (.int .i64 x.o) := by simp [gb2, Cmd.en]
  have e4 : ld1 g2 (.ptr b (0 + 4)) = some (.str x.v) := by simp [gb2, Cmd.en]
  have e5 : ld1 g2 (.ptr b (0 + 5)) = some (.str x.d) := by simp [gb2, Cmd.en]
  have put : ∀ {Q : V → H → Prop}, (∀ r h', (Fr [] h h' ∧ ∃ z2 id2 off2, r = .tup [.sl z2 id2 off2 (putPr l ⟨x.k, x.v⟩).length, .agg (Rp.en ⟨0, emp⟩)] ∧ Sl (putPr l ⟨x.k, x.v⟩) h' z2 id2 off2 ∧ (id2 = id ∨ id2 = 0 ∨ h.next ≤ id2)) → Q r h') →
      Wp ((R 79 [.sl z id off l.length, .agg (Pr.en ⟨x.k, x.v⟩)] g2).bind fun r51 => (bldV [(V.int .i64 0), (V.str ⟨#[]⟩)] []).bind fun v52 =>
        stN 2 r51.2 (.ptr p 0) v52 fun h53 => (ress [(some r51.1), (ldn 2 h53 (.ptr p 0))]).map fun vs => (tupOf vs, h53)) Q := by
    intro Q hQ
    refine Wp.bind (c79 l hn ⟨x.k, x.v⟩ z id off g2 k2 s2) ?_
    rintro r g3 ⟨F3, z3, id3, off3, rfl, s3, fr3⟩
    rw [rp3]
    simp only [Option.bind_some]
    refine wp_rep (F2.trans0 F3) (cs := [(V.int .i64 0), (V.str ⟨#[]⟩)]) (n := n2) (by rw [F3.blk0 p0 (by omega), gp2]) rfl (by rw [F3.1]; exact plo) hpn _ rfl _ ?_
    intro g F F'
    refine hQ _ _ ⟨F, z3, id3, off3, rfl, s3.fr F' (by simp; omega), ?_⟩
    have := F2.2.1; omega
  have bp : bldV [(V.str ⟨#[]⟩), (V.str ⟨#[]⟩)] [(0, 1, .str x.k), (1, 1, .str x.v)] = some (.agg (Pr.en ⟨x.k, x.v⟩)) := rfl
  have j5 : x.o = 2 → ¬ (hasPr l x.k = false ∧ l.length = 40) → Wp (S59_j5 R (.sl z id off l.length) (.ptr b 0) (.ptr p 0) g2) fun r h' => Fr [] h h' ∧ ∃ z2 id2 off2, r = .tup [.sl z2 id2 off2 (doPr l x).1.length, .agg (doPr l x).2.en] ∧ Sl (doPr l x).1 h' z2 id2 off2 ∧ (id2 = id ∨ id2 = 0 ∨ h.next ≤ id2) := by
    intro ho hh
    rw [S59_j5_eq]
    simp only [fA_ptr b0, Option.bind_some, e0, e4, bp]
    refine put ?_
    intro r h' q
    simpa only [doPr, ho, if_true, if_neg hh] using q
  have same : ∀ (rp : Rp), doPr l x = (l, rp) → Wp (stN 2 g2 (.ptr p 0) (.agg rp.en) fun h' => (ress [(some (.sl z id off l.length)), (ldn 2 h' (.ptr p 0))]).map fun vs => (tupOf vs, h')) fun r h' => Fr [] h h' ∧ ∃ z2 id2 off2, r = .tup [.sl z2 id2 off2 (doPr l x).1.length, .agg (doPr l x).2.en] ∧ Sl (doPr l x).1 h' z2 id2 off2 ∧ (id2 = id ∨ id2 = 0 ∨ h.next ≤ id2) := by
    intro rp he
    refine wp_rep F2 gp2 rfl plo hpn _ rfl rp ?_
    intro g F F'
    rw [he]
    exact ⟨F, z, id, off, rfl, s.fr0 F, .inl rfl⟩
  simp only [fA_ptr b0, Option.bind_some, e0, e2, c78 l (by omega) x.k z id off g2 s2, ext_tup, List.getElem?_cons_zero, List.getElem?_cons_succ, bin_eql, onB_bool, decide_eq_true_eq, not_bool, spB_bool, lenL_sl]
  by_cases ho2 : x.o = 2
  · rw [if_pos ho2]
    by_cases hh : hasPr l x.k = true
    · rw [if_neg (by simp [hh])]
      exact j5 ho2 (by simp [hh])
    · rw [if_pos (by simp [hh])]
      by_cases h40 : l.length = 40
      · rw [if_pos (by omega), rp1]
        simp only [Option.bind_some]
        exact same ⟨4, emp⟩ (by simp [doPr, ho2, h40, hh])
      · rw [if_neg (by omega)]
        exact j5 ho2 (by simp [h40])
  rw [if_neg ho2]
  by_cases hh : hasPr l x.k = false
  · rw [if_pos (by simp [hh]), rp1]
    simp only [Option.bind_some]
    exact same ⟨1, emp⟩ (by simp [doPr, ho2, hh])
  have hh : hasPr l x.k = true := by simpa using hh
  rw [if_neg (by simp [hh])]
  have hlt := hasPr_lt hh
  have ip := (s2.pos hlt).1
  have ev : ld1 g2 (.ptr id (off + kPr l x.k * 2 + 1)) = some (.str (valPr l x.k)) := by
    have eb : bload (g2.blk id) (off + kPr l x.k * 2 + 1) 1 = some [V.str l[kPr l x.k].v] := bload_sub (s2.get hlt) 1 1 (by decide)
    rw [valPr_at hh, ld1_ptr, eb]; rfl
  rw [iA_sl hlt]
  simp only [Option.bind_some, fA_ptr ip, ev, e2, e5]
  by_cases ho1 : x.o = 1
  · simp only [ho1, bin_eql, decide_true, Option.bind_some, onB_bool, if_true]
    rw [rp2]
    simp only [Option.bind_some]
    exact same ⟨0, valPr l x.k⟩ (by simp [doPr, ho1, hh])
  simp only [bin_eql, ho1, decide_false, Option.bind_some, onB_bool, Bool.false_eq_true, if_false]
  by_cases ho3 : x.o = 3
  · simp only [ho3, decide_true, if_true]
    rw [slL_hi zz kl]
    simp only [Option.bind_some, bin_add]
    rw [inc64 (by omega), slL_lo zz (by omega), rp2]
    simp only [Option.bind_some]
    refine Wp.bs k2 F2 ([] : List Pr) rfl rfl rfl ?_
    intro b3 g3 hb3 gn3 s3 k3 b03 blo3 F3 F3'
    refine Wp.ap k3 F3 s3 (.inr blo3) (.inr (.inr (by omega))) ((s.fr0 F3).take _ kl) rfl (by simp; omega) rfl (by simp; omega) (by simp; omega) ?_
    intro z4 id4 off4 g4 k4 s4 own4 fr4 F4 F4'
    have hid4 : id4 = 0 ∨ id4 ∈ ([] : List Nat) ∨ h.next ≤ id4 := by
      rcases fr4 with fr4 | fr4 <;> have := F3.2.1 <;> omega
    refine Wp.ap k4 F4 s4 own4 hid4 ((s.fr0 F4).drop (kPr l x.k + 1) (by omega)) rfl (by simp) rfl (by simp; omega) (by simp; omega) ?_
    intro z5 id5 off5 g5 k5 s5 own5 fr5 F5 F5'
    have hd : doPr l x = (l.take (kPr l x.k) ++ l.drop (kPr l x.k + 1), ⟨0, valPr l x.k⟩) := by simp [doPr, ho3, hh]
    have gp5 : g5.blk p = ⟨[(V.int .i64 0), (V.str ⟨#[]⟩)], n2, true⟩ := by
      have hp4 : p ≠ id4 := by rcases fr4 with fr4 | fr4 <;> omega
      have := F4'.2.1
      rw [F5'.blk1 p0 (by omega) hp4, F4'.blk1 p0 (by omega) (by omega), F3'.blk0 p0 (by omega), gp2]
    refine wp_rep F5 gp5 rfl (by rw [F5'.1, F4'.1, F3'.1]; exact plo) hpn _ rfl _ ?_
    intro g F F'
    have hp5 : id5 ≠ p := by
      have := F4'.2.1
      have := F3'.2.1
      rcases fr5 with fr5 | fr5 <;> rcases fr4 with fr4 | fr4 <;> omega
    rw [hd]
    refine ⟨F, z5, id5, off5, by simp, by simpa using s5.fr F' (by simpa using hp5), ?_⟩
    have := F4.2.1
    rcases fr5 with fr5 | fr5 <;> omega
  simp only [ho3, decide_false, Bool.false_eq_true, if_false, str_neq, Option.bind_some]
  by_cases hv : valPr l x.k = x.d
  · simp only [hv, decide_true, Bool.not_true, Bool.false_eq_true, if_false, e0, e4, bp, Option.bind_some]
    refine put ?_
    intro r h' q
    have hd : doPr l x = (putPr l ⟨x.k, x.v⟩, ⟨0, emp⟩) := by simp [doPr, ho1, ho2, ho3, hh, hv]
    rw [hd]
    exact q
  · simp only [hv, decide_false, Bool.not_false, if_true]
    rw [rp0]
    simp only [Option.bind_some]
    exact same ⟨3, valPr l x.k⟩ (by simp [doPr, ho1, ho2, ho3, hh, hv])
end Go.Proofs.Ythoabddfionmoaa.AH
