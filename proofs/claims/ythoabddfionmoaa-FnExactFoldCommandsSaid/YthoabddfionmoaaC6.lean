/- Contracts of seat s: the reference applies a command. No condition. -/
import Derived.Test.YthoabddfionmoaaC5
set_option linter.unusedVariables false
set_option linter.unusedSimpArgs false
set_option maxRecDepth 100000
namespace Go.Proofs.Ythoabddfionmoaa.AH
open Go Go.RowKit
/-- A state's value: its two slices; of their blocks' numbers P holds. -/
def KvV (P : Nat → Prop) (s : Kv) (h : H) (cs : List V) : Prop := ∃ z1 i1 o1 z2 i2 o2, cs = [.sl z1 i1 o1 s.cells.length, .sl z2 i2 o2 s.sess.length] ∧ Sl s.cells h z1 i1 o1 ∧ Sl s.sess h z2 i2 o2 ∧ P i1 ∧ P i2
theorem KvV.fr0 {P : Nat → Prop} {s : Kv} {h h' : H} {cs : List V} (k : KvV P s h cs) (F : Fr [] h h') : KvV P s h' cs := by
  obtain ⟨z1, i1, o1, z2, i2, o2, e, s1, s2, p⟩ := k
  exact ⟨z1, i1, o1, z2, i2, o2, e, s1.fr0 F, s2.fr0 F, p⟩
def Kv.ok (s : Kv) : Prop := s.cells.length ≤ 40 ∧ s.sess.length ≤ 12
theorem putPr_len (l : List Pr) (x : Pr) : (putPr l x).length = if hasPr l x.k then l.length else l.length + 1 := by
  have := kPr_le l x.k
  unfold putPr
  cases e : hasPr l x.k
  · simp; omega
  · have := hasPr_lt e
    simp; omega
theorem doPr_len (l : List Pr) (c : Cmd) (hl : l.length ≤ 40) : (doPr l c).1.length ≤ 40 := by
  unfold doPr
  have := kPr_le l c.k
  split
  · split
    · exact hl
    · rename_i q
      rw [putPr_len]
      cases e : hasPr l c.k
      · simp only [e, true_and] at q
        simp; omega
      · simpa using hl
  · split
    · exact hl
    · rename_i q
      split
      · exact hl
      · split
        · simp; omega
        · split
          · exact hl
          · rw [putPr_len]
            have : hasPr l c.k = true := by simpa using q
            simpa [this] using hl
theorem applySt_ok {s : Kv} (k : s.ok) (c : Cmd) : (applySt s c).1.ok := by
  unfold applySt
  have := kSe_le s.sess c.s
  split
  · exact k
  · rename_i q
    split
    · exact k
    · split
      · exact k
      · refine ⟨doPr_len _ _ k.1, ?_⟩
        have k2 := k.2
        cases e : hasSe s.sess c.s
        · simp only [e, true_and, not_or] at q
          simp; omega
        · have := hasSe_lt e
          simp; omega
theorem pdV_fr {S : List Nat} {h g : H} (F : Fr S h g) {r o : Nat} {k : Option (V × H)} (r0 : r ≠ 0) (rn : r < h.next) (hr : r ∉ S) : pdV g (.ptr r o) h k = k := by
  rw [pdV_ptr, F.blk r0 rn hr, if_pos rfl]
/-- A result is put into its box. -/
theorem wp_put {h0 h : H} (F : Fr [] h0 h) {p n : Nat} {cs st : List V} (hb : h.blk p = ⟨cs, n, true⟩) (hl : cs.length = 2) (hst : st.length = 2) (hlo : h.lo ≤ p) (hp : h0.next ≤ p) {f : H → Option (V × H)} {Q : V → H → Prop}
    (c : ∀ g ver, g.next = h.next → g.blk p = ⟨st, ver, true⟩ → Fr [] h0 g → Fr [p] h g → Wp (f g) Q) : Wp (stN 2 h (.ptr p 0) (.agg st) f) Q := by
  refine Wp.st (vs := st) rfl hst (by rw [hb]) hlo (by rw [hb]; show 0 + 2 ≤ cs.length; omega) ?_
  intro g ver gn gb F'
  refine c g ver gn ?_ (F.tr F' (by simp; omega)) F'
  rw [gb, hb]
  have : List.drop (0 + st.length) cs = [] := List.drop_of_length_le (by omega)
  simp; omega
/-- The second result is put into its box, and both are read. -/
theorem wp_snd {h0 h : H} (F : Fr [] h0 h) {p q n m : Nat} {ds st : List V} (hb : h.blk p = ⟨st, n, true⟩) (hd : h.blk q = ⟨ds, m, true⟩) (hm : ds.length = 2) (hst : st.length = 2) (hpq : p ≠ q) (p0 : p ≠ 0) (pn : p < h.next) (hlq : h.lo ≤ q) (hq : h0.next ≤ q) (rp : List V) (hrp : rp.length = 2) {Q : V → H → Prop}
    (c : ∀ g, Fr [] h0 g → Fr [q] h g → Q (.tup [.agg st, .agg rp]) g) :
    Wp (stN 2 h (.ptr q 0) (.agg rp) fun h' => (ress [(ldn 2 h' (.ptr p 0)), (ldn 2 h' (.ptr q 0))]).map fun vs => (tupOf vs, h')) Q := by
  refine wp_put F hd hm hrp hlq hq ?_
  intro g2 ver2 gn2 gb2 F2' F2
  have gb' : g2.blk p = ⟨st, n, true⟩ := by rw [F2.blk1 p0 (by omega) hpq, hb]
  have e1 : ldn 2 g2 (.ptr p 0) = some (.agg st) := by simp [gb', hst, List.take_of_length_le (Nat.le_of_eq hst)]
  have e2 : ldn 2 g2 (.ptr q 0) = some (.agg rp) := by simp [gb2, hrp, List.take_of_length_le (Nat.le_of_eq hrp)]
  simp only [e1, e2, ress_cons, ress_nil, Option.bind_some, ntup_agg, Option.map_some, tupOf_two]
  exact ⟨_, _, rfl, c g2 F2' F2⟩
theorem seAt_at {l : List Se} {x : Int} (e : hasSe l x = true) : seAt l x = l[kSe l x]'(hasSe_lt e) := by
  unfold seAt; rw [List.getElem?_eq_getElem (hasSe_lt e)]
/-- A box: its block, its place. -/
structure Bx (h : H) (b : Nat) (cs : List V) : Prop where
  blk : ∃ n, h.blk b = ⟨cs, n, true⟩
  ne : b ≠ 0
  lt : b < h.next
  lo : h.lo ≤ b
theorem Bx.fr {S : List Nat} {h g : H} {b : Nat} {cs : List V} (x : Bx h b cs) (F : Fr S h g) (k : b ∉ S) : Bx g b cs :=
  ⟨by rw [F.blk x.ne x.lt k]; exact x.blk, x.ne, Nat.lt_of_lt_of_le x.lt F.2.1, by rw [F.1]; exact x.lo⟩
theorem Bx.fr0 {h g : H} {b : Nat} {cs : List V} (x : Bx h b cs) (F : Fr [] h g) : Bx g b cs := x.fr F (by simp)
theorem Bx.fr1 {h g : H} {b i : Nat} {cs : List V} (x : Bx h b cs) (F : Fr [i] h g) (k : b ≠ i) : Bx g b cs := x.fr F (by simpa using k)
theorem Bx.ldn {h : H} {b n : Nat} {cs : List V} (x : Bx h b cs) (hn : cs.length = n) : ldn n h (.ptr b 0) = some (.agg cs) := by
  obtain ⟨m, e⟩ := x.blk
  rw [ldn_ptr, e, bload_mk _ _ _ _ (by omega), List.drop_zero, List.take_of_length_le (by omega)]; rfl
theorem Bx.ld1 {h : H} {b o : Nat} {cs : List V} (x : Bx h b cs) (ho : o < cs.length) : ld1 h (.ptr b (0 + o)) = some cs[o] := by
  obtain ⟨m, e⟩ := x.blk
  rw [ld1_ptr, e, bload_mk _ _ _ _ (by omega), Nat.zero_add, List.drop_eq_getElem_cons ho]; rfl
theorem Bx.st {h : H} {b o n : Nat} {cs vs ds : List V} {v : V} (x : Bx h b cs) (hv : cellsV v = some vs) (hn : vs.length = n) (ho : o + n ≤ cs.length) (hd : ds = cs.take o ++ vs ++ cs.drop (o + n)) {f : H → Option (V × H)} {Q : V → H → Prop}
    (c : ∀ g, g.next = h.next → Bx g b ds → Fr [b] h g → Wp (f g) Q) : Wp (stN n h (.ptr b o) v f) Q := by
  subst hd
  obtain ⟨m, e⟩ := x.blk
  refine Wp.st (vs := vs) hv hn (by rw [e]) x.lo (by rw [e]; exact ho) ?_
  intro g ver gn gb F'
  refine c g gn ⟨⟨ver, by rw [gb, e, hn]⟩, x.ne, by rw [gn]; exact x.lt, by rw [F'.1]; exact x.lo⟩ F'
theorem Wp.bxB {S : List Nat} {h0 h : H} (hk : Hok h) (F : Fr S h0 h) {v : V} {cs : List V} (hv : cellsV v = some cs) {f : V → H → Option (V × H)} {Q : V → H → Prop}
    (c : ∀ b g, b = h.next → g.next = b + 1 → Bx g b cs → Hok g → Fr S h0 g → Fr [] h g → Wp (f (.ptr b 0) g) Q) : Wp (bxK h v f) Q :=
  Wp.bx hk F hv fun b g n e1 e2 e3 e4 e5 e6 e7 e8 => c b g e1 e2 ⟨⟨n, e3⟩, e5, by omega, e6⟩ e4 e7 e8
theorem Wp.alB {S : List Nat} {h0 h : H} (hk : Hok h) (F : Fr S h0 h) {z : List V} {f : V → H → Option (V × H)} {Q : V → H → Prop}
    (c : ∀ b g, b = h.next → g.next = b + 1 → Bx g b z → Hok g → Fr S h0 g → Fr [] h g → Wp (f (.ptr b 0) g) Q) : Wp (alK z h f) Q :=
  Wp.al hk F fun b g n e1 e2 e3 e4 e5 e6 e7 e8 => c b g e1 e2 ⟨⟨n, e3⟩, e5, by omega, e6⟩ e4 e7 e8
def newSe (s : Kv) (x : Cmd) : Se := ⟨x.s, x.n, (doPr s.cells x).2⟩
def putSe (s : Kv) (x : Cmd) : List Se := s.sess.take (kSe s.sess x.s) ++ [newSe s x] ++ s.sess.drop (if hasSe s.sess x.s then kSe s.sess x.s + 1 else kSe s.sess x.s)
abbrev Post31 (P : Nat → Prop) (h0 : H) (s' : Kv) (rp : Rp) : V → H → Prop := fun r h' => Fr [] h0 h' ∧ ∃ cs', r = .tup [.agg cs', .agg rp.en] ∧ KvV P s' h' cs'
theorem Sl.fr1 {α : Type} [Enc α] {i : Nat} {l : List α} {h h' : H} {z id off : Nat} (s : Sl l h z id off) (F : Fr [i] h h') (k : id ≠ i) : Sl l h' z id off := s.fr F (by simpa using k)
theorem Fr.tr1 {i : Nat} {a b c : H} (x : Fr [] a b) (y : Fr [i] b c) (k : a.next ≤ i) : Fr [] a c := x.tr y (fun j hj => by rw [List.mem_singleton] at hj; subst hj; exact .inr (.inr k))
theorem nel {a b : Nat} (h : a < b) : a ≠ b := Nat.ne_of_lt h
theorem ner {a b : Nat} (h : a < b) : b ≠ a := Nat.ne_of_gt h
theorem nil1 {a i : Nat} (h : a ≠ i) : a ∉ [i] := by simpa using h
theorem j15_31 {P : Nat → Prop} {h0 g : H} (hP : ∀ i, h0.next ≤ i → P i) (k : Hok g) (F0 : Fr [] h0 g) {b p q e k' : Nat} {cells : List Pr} {sess new : List Se} {z6 i6 o6 z2 i2 o2 zn nn on : Nat} {rp : Rp}
    (Bb : Bx g b [.sl z6 i6 o6 cells.length, .sl z2 i2 o2 sess.length]) (Bp : Bx g p [.sl 0 0 0 0, .sl 0 0 0 0]) (Bq : Bx g q [(V.int .i64 0), (V.str ⟨#[]⟩)]) (Be : Bx g e rp.en)
    (hb : h0.next ≤ b) (d1 : b < p) (d2 : p < q) (d3 : q < e) (d4 : e < nn)
    (s6 : Sl cells g z6 i6 o6) (s2 : Sl sess g z2 i2 o2) (sn : Sl new g zn nn on) (own : nn = 0 ∨ g.lo ≤ nn) (m1 : i6 ≠ b) (m2 : i6 ≠ p) (m3 : i6 ≠ q) (m4 : i6 ≠ nn)
    (hk' : k' ≤ sess.length) (hl : sess.length ≤ 100) (hn : new.length ≤ 100) (P6 : P i6) :
    Wp (S31_j15 R (.ptr b 0) (.ptr p 0) (.ptr q 0) (.int .i64 k') (.ptr e 0) (.sl zn nn on new.length) g) (Post31 P h0 ⟨cells, new ++ sess.drop k'⟩ rp) := by
  rw [S31_j15_eq]
  have c1 := Bb.ld1 (o := 1) (by simp)
  have zz : 4 = z2 ∨ i2 = 0 := s2.zor
  simp only [fA_ptr Bb.ne, Option.bind_some, c1, List.getElem_cons_succ, List.getElem_cons_zero]
  rw [slL_lo zz hk']
  simp only [Option.bind_some]
  have hnn : h0.next ≤ nn := by clear zz own m1 m2 m3 m4; omega
  have hbn : nn < g.next := sn.lt k
  refine Wp.ap k F0 sn own (.inr (.inr hnn)) (s2.drop k' hk') rfl (by simp) rfl (by simp; clear zz own m1 m2 m3 m4; omega) (by simp; clear zz own m1 m2 m3 m4; omega) ?_
  intro z5 i5 o5 g5 k5 s5 own5 fr5 F5 F5'
  have hi5 : e < i5 := by
    clear zz own m1 m2 m3 m4 own5
    rcases fr5 with fr5 | fr5 <;> omega
  clear fr5 own5 own zz
  have hb2 : h0.next ≤ p := by clear m1 m2 m3 m4; omega
  have hb3 : h0.next ≤ q := by clear m1 m2 m3 m4; omega
  have bn : b < nn := by clear m1 m2 m3 m4; omega
  have pn : p < nn := by clear m1 m2 m3 m4; omega
  have qn : q < nn := by clear m1 m2 m3 m4; omega
  have bq : b < q := Nat.lt_trans d1 d2
  have be : b < e := Nat.lt_trans bq d3
  have pe : p < e := Nat.lt_trans d2 d3
  have Bb5 := Bb.fr1 F5' (nel bn)
  refine Bb5.st (n := 1) (vs := [.sl z5 i5 o5 (new ++ sess.drop k').length]) (ds := [.sl z6 i6 o6 cells.length, .sl z5 i5 o5 (new ++ sess.drop k').length]) rfl rfl (by simp) rfl ?_
  intro g6 n6' B6 F6'
  have F6 := F5.tr1 F6' hb
  have hl6 := B6.ldn (n := 2) rfl
  have Be6 := (Be.fr1 F5' (nel d4)).fr1 F6' (ner be)
  have hl7 := Be6.ldn (n := 2) rfl
  have Bp6 := (Bp.fr1 F5' (nel pn)).fr1 F6' (ner d1)
  have Bq6 := (Bq.fr1 F5' (nel qn)).fr1 F6' (ner bq)
  simp only [hl6, hl7, Option.bind_some]
  refine Bp6.st (n := 2) (vs := [.sl z6 i6 o6 cells.length, .sl z5 i5 o5 (new ++ sess.drop k').length]) (ds := [.sl z6 i6 o6 cells.length, .sl z5 i5 o5 (new ++ sess.drop k').length]) rfl rfl (by simp) rfl ?_
  intro g7 n7' B7 F7'
  have F7 := F6.tr1 F7' hb2
  rw [pdV_fr F7' Be6.ne Be6.lt (nil1 (ner pe))]
  have Bq7 := Bq6.fr1 F7' (ner d2)
  refine Bq7.st (n := 2) (vs := rp.en) (ds := rp.en) rfl rfl (by simp) rfl ?_
  intro g8 n8' B8 F8'
  have F8 := F7.tr1 F8' hb3
  have hp8 := (B7.fr1 F8' (nel d2)).ldn (n := 2) rfl
  have hq8 := B8.ldn (n := 2) rfl
  simp only [hp8, hq8, ress_cons, ress_nil, Option.bind_some, ntup_agg, Option.map_some, tupOf_two]
  refine ⟨_, _, rfl, F8, _, rfl, z6, i6, o6, z5, i5, o5, rfl, ?_, ?_, P6, hP i5 (Nat.le_trans hb3 (Nat.le_of_lt (Nat.lt_trans d3 hi5)))⟩
  · exact (((s6.fr1 F5' m4).fr1 F6' m1).fr1 F7' m2).fr1 F8' m3
  · exact ((s5.fr1 F6' (ner (Nat.lt_trans be hi5))).fr1 F7' (ner (Nat.lt_trans pe hi5))).fr1 F8' (ner (Nat.lt_trans d3 hi5))
theorem j8_31 {P : Nat → Prop} {h0 g : H} (hP : ∀ i, h0.next ≤ i → P i) (hP0 : P 0) (hk0 : Hok h0) (k : Hok g) (F0 : Fr [] h0 g) {b d p q : Nat} (s : Kv) (hs : s.ok) (x : Cmd) {z1 i1 o1 z2 i2 o2 : Nat}
    (Bb : Bx g b [.sl z1 i1 o1 s.cells.length, .sl z2 i2 o2 s.sess.length]) (Bd : Bx g d x.en) (Bp : Bx g p [.sl 0 0 0 0, .sl 0 0 0 0]) (Bq : Bx g q [(V.int .i64 0), (V.str ⟨#[]⟩)])
    (hb : h0.next ≤ b) (d1 : b < d) (d2 : d < p) (d3 : p < q) (s1 : Sl s.cells h0 z1 i1 o1) (s2 : Sl s.sess h0 z2 i2 o2) (P1 : P i1) :
    Wp (S31_j8 R (.ptr b 0) (.ptr d 0) (.ptr p 0) (.ptr q 0) (.int .i64 (kSe s.sess x.s)) (.bool (hasSe s.sess x.s)) g) (Post31 P h0 ⟨(doPr s.cells x).1, putSe s x⟩ (doPr s.cells x).2) := by
  have lt1 := s1.lt hk0
  have lt2 := s2.lt hk0
  have kl := kSe_le s.sess x.s
  have hs2 := hs.2
  have hs1 := hs.1
  have zz : 4 = z2 ∨ i2 = 0 := s2.zor
  rw [S31_j8_eq]
  have b0' := Bb.ld1 (o := 0) (by simp)
  have b6 := Bd.ldn (n := 6) rfl
  simp only [fA_ptr Bb.ne, fA_ptr Bd.ne, Option.bind_some, b0', b6, List.getElem_cons_zero]
  refine Wp.bind (c59 s.cells (by clear zz; omega) x z1 i1 o1 g k (s1.fr0 F0)) ?_
  rintro r g6 ⟨F6', z6, i6, o6, rfl, s6, fr6⟩
  have F6 := F0.trans0 F6'
  have k6 := F6'.ok k
  have n6 := F6'.2.1
  have qn := Bq.lt
  have l6 := s6.lt k6
  have P6 : P i6 := by
    rcases fr6 with fr6 | fr6 | fr6
    · rw [fr6]; exact P1
    · rw [fr6]; exact hP0
    · exact hP i6 (Nat.le_trans F0.2.1 fr6)
  have m6 : i6 < b ∨ q < i6 := by clear zz; rcases fr6 with fr6 | fr6 | fr6 <;> omega
  clear fr6
  simp only [ext_tup, Option.bind_some, List.getElem?_cons_zero, List.getElem?_cons_succ]
  refine Wp.alB k6 F6 ?_
  intro e g7 he7 gn7 Be7 k7 F7 F7'
  have he : q < e := by clear zz m6; omega
  have he0 : h0.next ≤ e := by clear zz m6; omega
  have m6e : i6 < e := by clear zz m6; omega
  refine Be7.st (n := 2) (vs := (doPr s.cells x).2.en) (ds := (doPr s.cells x).2.en) rfl rfl (by simp) rfl ?_
  intro g8 gn8 Be8 F8'
  have F8 := F7.tr1 F8' he0
  have dq : d < q := Nat.lt_trans d2 d3
  have bq : b < q := Nat.lt_trans d1 dq
  have be : b < e := Nat.lt_trans bq he
  have Bb8 := ((Bb.fr0 F6').fr0 F7').fr1 F8' (nel be)
  refine Bb8.st (n := 1) (vs := [.sl z6 i6 o6 (doPr s.cells x).1.length]) (ds := [V.sl z6 i6 o6 (doPr s.cells x).fst.length, V.sl z2 i2 o2 s.sess.length]) rfl rfl (by simp) rfl ?_
  intro g9 gn9 Bb9 F9'
  have F9 := F8.tr1 F9' hb
  have k9 := F9.ok hk0
  have c1 := Bb9.ld1 (o := 1) (by simp)
  simp only [c1, Option.bind_some, List.getElem_cons_succ, List.getElem_cons_zero]
  rw [slL_hi zz kl]
  simp only [Option.bind_some]
  clear zz
  have hb1 : b < g9.next := Bb9.lt
  have he1 : e < g9.next := by clear m6; omega
  refine Wp.ap k9 F9 (l := ([] : List Se)) (m := s.sess.take (kSe s.sess x.s)) (.inl ⟨rfl, rfl⟩) (.inl rfl) (.inl rfl) ((s2.fr0 F9).take _ kl) rfl (by simp; clear m6; omega) rfl (by simp; clear m6; omega) (by simp; clear m6; omega) ?_
  intro za ia oa ga ka sa owna fra Fa Fa'
  have hia : ia = 0 ∨ e < ia := by clear m6; rcases fra with fra | fra <;> omega
  have lia := sa.lt ka
  clear fra
  have Bda := (((((Bd.fr0 F6').fr0 F7').fr1 F8' (nel (Nat.lt_trans dq he))).fr1 F9' (ner d1)).fr1 Fa' Bd.ne)
  have Bea := (Be8.fr1 F9' (ner be)).fr1 Fa' Be8.ne
  have Bba := Bb9.fr1 Fa' Bb9.ne
  have Bpa := (((((Bp.fr0 F6').fr0 F7').fr1 F8' (nel (Nat.lt_trans d3 he))).fr1 F9' (ner (Nat.lt_trans d1 d2))).fr1 Fa' Bp.ne)
  have Bqa := (((((Bq.fr0 F6').fr0 F7').fr1 F8' (nel he)).fr1 F9' (ner bq)).fr1 Fa' Bq.ne)
  have x1 : ld1 ga (.ptr d (0 + 0)) = some (.int .i64 x.s) := Bda.ld1 (o := 0) (by simp [Cmd.en])
  have x2 : ld1 ga (.ptr d (0 + 1)) = some (.int .i64 x.n) := Bda.ld1 (o := 1) (by simp [Cmd.en])
  have x3 := Bea.ldn (n := 2) rfl
  simp only [x1, x2, x3, Option.bind_some]
  rw [show bldV [(V.int .i64 0), (V.int .i64 0), (V.int .i64 0), (V.str ⟨#[]⟩)] [(0, 1, .int .i64 x.s), (1, 1, .int .i64 x.n), (2, 2, .agg (doPr s.cells x).2.en)] = some (.agg (Se.en (newSe s x))) from rfl]
  simp only [Option.bind_some]
  refine Wp.bs ka Fa [newSe s x] rfl rfl rfl ?_
  intro ib gb hib gnb sb kb ib0 ilob Fb Fb'
  have na := Fa'.2.1
  have hida : ia = 0 ∨ ia ∈ ([] : List Nat) ∨ h0.next ≤ ia := by
    rcases hia with fra | fra
    · exact .inl fra
    · exact .inr (.inr (Nat.le_of_lt (Nat.lt_of_le_of_lt he0 fra)))
  refine Wp.ap kb Fb (sa.fr0 Fb') (by rw [Fb'.1]; exact owna) hida sb rfl rfl rfl (by simp; clear m6 hia hida owna; omega) (by simp; clear m6 hia hida owna; omega) ?_
  intro zc ic oc gc kc sc ownc frc Fc Fc'
  have hic : e < ic := by
    rcases frc with frc | frc
    · exact absurd frc.1 (by simp)
    · clear m6 hia hida owna ownc; omega
  have hic2 : g6.next ≤ ic := by
    rcases frc with frc | frc
    · exact absurd frc.1 (by simp)
    · clear m6 hia hida owna ownc; omega
  clear frc
  have nia : ∀ {y : Nat}, y ≠ 0 → y ≤ e → y ≠ ia := fun y0 ye => by
    rcases hia with r | r
    · rw [r]; exact y0
    · exact nel (Nat.lt_of_le_of_lt ye r)
  have Bbc := (Bba.fr0 Fb').fr1 Fc' (nia Bb.ne (Nat.le_of_lt be))
  have Bpc := (Bpa.fr0 Fb').fr1 Fc' (nia Bp.ne (Nat.le_of_lt (Nat.lt_trans d3 he)))
  have Bqc := (Bqa.fr0 Fb').fr1 Fc' (nia Bq.ne (Nat.le_of_lt he))
  have Bec := (Bea.fr0 Fb').fr1 Fc' (nia Be8.ne (Nat.le_refl _))
  have n6b : i6 ≠ b ∧ i6 ≠ p ∧ i6 ≠ q := by
    rcases m6 with r | r
    · exact ⟨nel r, nel (by omega), nel (by omega)⟩
    · exact ⟨ner (by omega), ner (by omega), ner r⟩
  have s6c : Sl (doPr s.cells x).1 gc z6 i6 o6 := by
    have t := ((((s6.fr0 F7').fr1 F8' (nel m6e)).fr1 F9' n6b.1))
    by_cases h6 : i6 = 0
    · rcases s6 with s6 | s6
      · exact .inl s6
      · exact absurd h6 s6.1
    · exact ((t.fr1 Fa' h6).fr0 Fb').fr1 Fc' (nia h6 (Nat.le_of_lt m6e))
  have fin : ∀ k', k' ≤ s.sess.length → putSe s x = ([] ++ s.sess.take (kSe s.sess x.s) ++ [newSe s x]) ++ s.sess.drop k' →
      Wp (S31_j15 R (.ptr b 0) (.ptr p 0) (.ptr q 0) (.int .i64 k') (.ptr e 0) (.sl zc ic oc ([] ++ s.sess.take (kSe s.sess x.s) ++ [newSe s x]).length) gc) (Post31 P h0 ⟨(doPr s.cells x).1, putSe s x⟩ (doPr s.cells x).2) := by
    intro k' hk' he
    rw [he]
    refine j15_31 hP kc Fc Bbc Bpc Bqc Bec hb (Nat.lt_trans d1 d2) d3 ‹q < e› hic s6c (s2.fr0 Fc) sc ownc n6b.1 n6b.2.1 n6b.2.2 (nel (Nat.lt_of_lt_of_le l6 hic2)) hk' (by clear m6 hia hida owna ownc; omega) (by simp; clear m6 hia hida owna ownc; omega) P6
  simp only [onB_bool]
  split
  · rename_i hh
    have hlt := hasSe_lt hh
    simp only [bin_add, Option.bind_some]
    rw [inc64 (by clear m6 hia hida owna ownc; omega)]
    exact fin _ hlt (by simp [putSe, hh])
  · rename_i hh
    exact fin _ kl (by simp [putSe, hh])
end Go.Proofs.Ythoabddfionmoaa.AH
