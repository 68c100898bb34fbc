/- Contracts of seat s: the program's ChangesOf answers as the reference's. No condition. -/
import Derived.Test.YthoabddfionmoaaC13
set_option linter.unusedVariables false
set_option linter.unusedSimpArgs false
set_option maxRecDepth 100000
namespace Go.Proofs.Ythoabddfionmoaa.AH
open Go Go.RowKit
theorem dyn1 {call : CallF} {f o : Nat} {a b : V} {h : H} {k : V × H → Option (V × H)} : dynK call (.fn f [(o, 0)]) [a, b] h k = (call f [a, b, .ptr o 0] h).bind k := rfl
/-- What the walk over the commands keeps: the state in its box, the numbers in theirs. -/
structure In34 (h0 g : H) (p o : Nat) (s : Kv) (out : List Int) (z1 i1 o1 z2 i2 o2 z3 i3 o3 : Nat) : Prop where
  k : Hok g
  F : Fr [] h0 g
  B : Bx g p [.sl z1 i1 o1 s.cells.length, .sl z2 i2 o2 s.sess.length]
  Bo : Bx g o [.sl z3 i3 o3 out.length]
  s1 : Sl s.cells g z1 i1 o1
  s2 : Sl s.sess g z2 i2 o2
  s3 : Sl out g z3 i3 o3
  w1 : i1 = 0 ∨ h0.next ≤ i1
  w2 : i2 = 0 ∨ h0.next ≤ i2
  w3 : h0.next ≤ i3
  a1 : i1 ≠ p
  a2 : i2 ≠ p
  a3 : i3 ≠ p
  b1 : i1 ≠ o
  b2 : i2 ≠ o
  b3 : i3 ≠ o
  d12 : i1 ≠ i2 ∨ i1 = 0
  d13 : i1 ≠ i3
  d23 : i2 ≠ i3
abbrev Post34 (h0 : H) (o : Nat) (out : List Int) : V → H → Prop := fun r h' => Fr [] h0 h' ∧ ∃ z3 i3 o3, Bx h' o [.sl z3 i3 o3 out.length] ∧ Sl out h' z3 i3 o3 ∧ h0.next ≤ i3
theorem l34 (l : List Cmd) (hn : l.length ≤ 100) (z id off p o : Nat) (h0 : H) (hk0 : Hok h0) (sl : Sl l h0 z id off) (hp : h0.next ≤ p) (ho : h0.next ≤ o) (hpo : p ≠ o) : ∀ (n i : Nat), i + n = l.length → ∀ (s : Kv) (out : List Int) (z1 i1 o1 z2 i2 o2 z3 i3 o3 : Nat) (g : H), s.ok → s.srt → out.length ≤ i → In34 h0 g p o s out z1 i1 o1 z2 i2 o2 z3 i3 o3 →
    Wp (S34_l2 R (.fn 35 [(o, 0)]) (.ptr p 0) (.sl z id off l.length) (.int .i64 l.length) (.int .i64 i) g) (Post34 h0 o (out ++ chgs s i (l.drop i)))
  | 0, i, hi, s, out, z1, i1, o1, z2, i2, o2, z3, i3, o3, g, hs, hr, hout, I => by
    rw [S34_l2_eq]
    have : i = l.length := by omega
    subst this
    refine Wp.b (bin_lss _ _ _ _ _) (Wp.onF (by simp) (Wp.r0 ⟨I.F, z3, i3, o3, ?_, ?_, I.w3⟩))
    · simpa [chgs] using I.Bo
    · simpa [chgs] using I.s3
  | n + 1, i, hi, s, out, z1, i1, o1, z2, i2, o2, z3, i3, o3, g, hs, hr, hout, I => by
    rw [S34_l2_eq]
    have hil : i < l.length := by omega
    have slg := sl.fr0 I.F
    have eg : ldn 6 g (.ptr id (off + i * 6)) = some (.agg l[i].en) := by
      have : bload (g.blk id) (off + i * 6) 6 = some l[i].en := slg.get hil
      rw [ldn_ptr, this]; rfl
    refine Wp.b (bin_lss _ _ _ _ _) (Wp.onT (by simp; exact hil) (Wp.b (iA_sl hil) (Wp.b eg ?_)))
    refine Wp.alB I.k I.F ?_
    intro d g1 hd gn1 Bd1 k1 F1 F1'
    refine Bd1.st (n := 6) (vs := l[i].en) (ds := l[i].en) rfl rfl (by simp) rfl ?_
    intro g2 gn2 Bd2 F2'
    have hgn := I.F.2.1
    have dn : h0.next ≤ d := by omega
    have F2 := F1.tr1 F2' dn
    have k2 := F2'.ok k1
    have F12 : Fr [] g g2 := F1'.tr1 F2' (by omega)
    have B2 := I.B.fr0 F12
    have lp := I.B.lt
    have lo := I.Bo.lt
    have l1 := I.s1.lt I.k
    have l2 := I.s2.lt I.k
    have l3 := I.s3.lt I.k
    have hs1 := hs.1
    have e1 : ld1 g2 (.ptr p (0 + 0)) = some (.sl z1 i1 o1 s.cells.length) := B2.ld1 (o := 0) (by simp)
    refine Wp.b (fA_ptr B2.ne) (Wp.b e1 ?_)
    refine Wp.bind (c60 s.cells (by omega) z1 i1 o1 g2 k2 (I.s1.fr0 F12)) ?_
    rintro r g3 ⟨F3', zb, ib, ob, rfl, sb, wb⟩
    have F3 := F2.trans0 F3'
    have k3 := F3'.ok k2
    have Bd3 := Bd2.fr0 F3'
    have F13 : Fr [] g g3 := F12.trans0 F3'
    have B3 := I.B.fr0 F13
    refine Wp.b (Bd3.ldn (n := 6) rfl) ?_
    refine Wp.bind (c49 s hs hr l[i] p g3 k3 B3 (I.s1.fr0 F13) (I.s2.fr0 F13) (by rw [F13.1, I.F.1]; have := hk0.2; have := I.w1; omega) (by rw [F13.1, I.F.1]; have := hk0.2; have := I.w2; omega) I.a1 I.a2 I.d12) ?_
    rintro r g4 ⟨rfl, F4', z1', i1', o1', z2', i2', o2', B4, s1', s2', r1, r2, d12'⟩
    have k4 := F4'.ok k3
    have n13 := F13.2.1
    have n34 := F4'.2.1
    have n23 := F3'.2.1
    have F4 : Fr [] h0 g4 := F3.tr F4' (by
      intro j hj
      rcases List.mem_cons.1 hj with rfl | hj
      · exact .inr (.inr hp)
      rcases List.mem_cons.1 hj with rfl | hj
      · rcases I.w1 with r | r
        · exact .inl r
        · exact .inr (.inr r)
      · rw [List.mem_singleton] at hj
        subst hj
        rcases I.w2 with r | r
        · exact .inl r
        · exact .inr (.inr r))
    have ln1 := s1'.lt k4
    have ln2 := s2'.lt k4
    have c1 : i1' ≠ p ∧ i1' ≠ o ∧ i1' ≠ i3 := by
      rcases r1 with r | r
      · rw [r]; exact ⟨I.a1, I.b1, I.d13⟩
      · exact ⟨ner (by omega), ner (by omega), ner (by omega)⟩
    have c2 : i2' ≠ p ∧ i2' ≠ o ∧ i2' ≠ i3 := by
      rcases r2 with r | r
      · rw [r]; exact ⟨I.a2, I.b2, I.d23⟩
      · exact ⟨ner (by omega), ner (by omega), ner (by omega)⟩
    have w1' : i1' = 0 ∨ h0.next ≤ i1' := by
      rcases r1 with r | r
      · rw [r]; exact I.w1
      · exact .inr (by omega)
    have w2' : i2' = 0 ∨ h0.next ≤ i2' := by
      rcases r2 with r | r
      · rw [r]; exact I.w2
      · exact .inr (by omega)
    have Bo4 := (I.Bo.fr0 F13).fr F4' (by simp; exact ⟨Ne.symm hpo, Ne.symm I.b1, Ne.symm I.b2⟩)
    have s34 := (I.s3.fr0 F13).fr F4' (by simp; exact ⟨I.a3, Ne.symm I.d13, Ne.symm I.d23⟩)
    have bnd : ib ≠ p ∧ (ib ≠ i1 ∧ ib ≠ i2 ∨ ib = 0) := by
      rcases wb with r | r
      · exact ⟨by rw [r]; exact Ne.symm I.B.ne, .inr r⟩
      · exact ⟨ner (by omega), .inl ⟨ner (by omega), ner (by omega)⟩⟩
    have sb4 : Sl s.cells g4 zb ib ob := by
      rcases bnd.2 with r | r
      · exact sb.fr F4' (by simp; exact ⟨bnd.1, r.1, r.2⟩)
      · rcases sb with t | t
        · exact .inl t
        · exact absurd r t.1
    have Bd4 := Bd3.fr F4' (by simp; exact ⟨ner (by omega), ner (by omega), ner (by omega)⟩)
    have hs' := applySt_ok hs l[i]
    have hr' := applySt_srt hr l[i]
    have cl' := hs'.1
    have e4 : ld1 g4 (.ptr p (0 + 0)) = some (.sl z1' i1' o1' (applySt s l[i]).1.cells.length) := B4.ld1 (o := 0) (by simp)
    have hdrop : l.drop i = l[i] :: l.drop (i + 1) := List.drop_eq_getElem_cons hil
    have fp := fA_ptr (o := 0) (off := 0) B4.ne
    refine Wp.b fp (Wp.b e4 (Wp.b (c61 _ _ (by omega) (by omega) zb ib ob z1' i1' o1' g4 sb4 s1') (Wp.on (fun hc => ?_) (fun hc => ?_))))
    · have hc : s.cells = (applySt s l[i]).1.cells := by simpa using hc
      refine Wp.b (bin_add _ _ _ _ _) ?_
      rw [inc64 (by omega), hdrop, chgs, if_pos hc]
      exact l34 l hn z id off p o h0 hk0 sl hp ho hpo n (i + 1) (by omega) _ out z1' i1' o1' z2' i2' o2' z3 i3 o3 g4 hs' hr' (by omega) ⟨k4, F4, B4, Bo4, s1', s2', s34, w1', w2', I.w3, c1.1, c2.1, I.a3, c1.2.1, c2.2.1, I.b3, d12', c1.2.2, c2.2.2⟩
    have hc : ¬ s.cells = (applySt s l[i]).1.cells := by simpa using hc
    have e5 : ld1 g4 (.ptr d (0 + 3)) = some (.str l[i].k) := Bd4.ld1 (o := 3) (by simp [Cmd.en])
    have fd := fA_ptr (o := 3) (off := 0) Bd4.ne
    refine Wp.b fd (Wp.b e5 (Wp.b (a := .agg [.str l[i].k, .str ⟨#[]⟩, .bool true]) rfl ?_))
    refine Wp.alB k4 F4 ?_
    intro w g5 hw gn5 Bw5 k5 F5 F5'
    refine Bw5.st (n := 3) (vs := [.str l[i].k, .str ⟨#[]⟩, .bool true]) (ds := [.str l[i].k, .str ⟨#[]⟩, .bool true]) rfl rfl (by simp) rfl ?_
    intro g6 gn6 Bw6 F6'
    have wn : h0.next ≤ w := by omega
    have F6 := F5.tr1 F6' wn
    have F46 : Fr [] g4 g6 := F5'.tr1 F6' (by omega)
    have k6 := F6'.ok k5
    have Bd6 := Bd4.fr0 F46
    have B6 := B4.fr0 F46
    have e6 : ld1 g6 (.ptr d (0 + 3)) = some (.str l[i].k) := Bd6.ld1 (o := 3) (by simp [Cmd.en])
    refine Wp.b fd (Wp.b e6 ?_)
    refine Wp.bind (c62 _ hs' hr' l[i].k p [] g6 k6 B6 (s1'.fr0 F46)) ?_
    rintro r g7 ⟨rfl, F7'⟩
    have F47 := F46.trans0 F7'
    have F7 := F6.trans0 F7'
    have k7 := F7'.ok k6
    have Bw7 := Bw6.fr0 F7'
    have Bd7 := Bd6.fr0 F7'
    have B7 := B6.fr0 F7'
    have n47 := F47.2.1
    -- the closure, at whatever write
    have fin : ∀ (ws : List V) (g8 : H), Fr [w] g7 g8 → Wp ((R 35 [.int .i64 i, .agg ws, .ptr o 0] g8).bind fun r42 => (binV Try.prog .add 3 (.int .i64 i) (.int .i64 1)).bind fun v43 => S34_l2 R (.fn 35 [(o, 0)]) (.ptr p 0) (.sl z id off l.length) (.int .i64 l.length) v43 r42.2) (Post34 h0 o (out ++ chgs s i (l.drop i))) := by
      intro ws g8 F8'
      have F8 := F7.tr1 F8' wn
      have k8 := F8'.ok k7
      have Bo8 := (Bo4.fr0 F47).fr1 F8' (nel (by omega))
      have s38 := (s34.fr0 F47).fr1 F8' (nel (by omega))
      refine Wp.bind (c35 i ws out (by omega) o g8 k8 Bo8 s38 (by rw [F8.1]; have := hk0.2; have := I.w3; omega) I.b3) ?_
      rintro r g9 ⟨F9', z9, i9, o9, B9, s9, w9⟩
      refine Wp.b (bin_add _ _ _ _ _) ?_
      have n78 := F8'.2.1
      have n89 := F9'.2.1
      have l9 := s9.lt (F9'.ok k8)
      rw [inc64 (by omega), hdrop, chgs, if_neg hc]
      have F9 : Fr [] h0 g9 := F8.tr F9' (by
        intro j hj
        rcases List.mem_cons.1 hj with rfl | hj
        · exact .inr (.inr ho)
        · rw [List.mem_singleton] at hj
          subst hj
          exact .inr (.inr I.w3))
      have mo : ∀ j, j ≠ o → j ≠ i3 → j ∉ [o, i3] := fun j h1 h2 => by simp; exact ⟨h1, h2⟩
      have := l34 l hn z id off p o h0 hk0 sl hp ho hpo n (i + 1) (by omega) (applySt s l[i]).1 (out ++ [(i : Int)]) z1' i1' o1' z2' i2' o2' z9 i9 o9 g9 hs' hr' (by simp; omega)
        ⟨F9'.ok k8, F9, (B7.fr1 F8' (nel (by omega))).fr F9' (mo p hpo (Ne.symm I.a3)), B9, ((s1'.fr0 F47).fr1 F8' (nel (by omega))).fr F9' (mo _ c1.2.1 c1.2.2), ((s2'.fr0 F47).fr1 F8' (nel (by omega))).fr F9' (mo _ c2.2.1 c2.2.2), s9, w1', w2', by have := F8.2.1; omega,
          c1.1, c2.1, ner (by omega), c1.2.1, c2.2.1, ner (by omega), d12', nel (by omega), nel (by omega)⟩
      rw [List.append_assoc] at this
      exact this
    refine Wp.b rfl (Wp.b rfl (Wp.on (fun hh => ?_) (fun hh => ?_)))
    · have hlt := hasPr_lt hh
      have t7 := s1'.fr0 F47
      have ip := (t7.pos hlt).1
      have e7 : ld1 g7 (.ptr d (0 + 3)) = some (.str l[i].k) := Bd7.ld1 (o := 3) (by simp [Cmd.en])
      have e8 : ld1 g7 (.ptr p (0 + 0)) = some (.sl z1' i1' o1' (applySt s l[i]).1.cells.length) := B7.ld1 (o := 0) (by simp)
      have ev : ld1 g7 (.ptr i1' (o1' + kPr (applySt s l[i]).1.cells l[i].k * 2 + 1)) = some (.str (valPr (applySt s l[i]).1.cells l[i].k)) := by
        have eb : bload (g7.blk i1') (o1' + kPr (applySt s l[i]).1.cells l[i].k * 2 + 1) 1 = some [V.str (applySt s l[i]).1.cells[kPr (applySt s l[i]).1.cells l[i].k].v] := bload_sub (t7.get hlt) 1 1 (by decide)
        rw [valPr_at hh, ld1_ptr, eb]; rfl
      refine Wp.b fd (Wp.b e7 (Wp.b fp (Wp.b e8 (Wp.b (iA_sl hlt) (Wp.b (fA_ptr ip) (Wp.b ev (Wp.b (a := .agg [.str l[i].k, .str (valPr (applySt s l[i]).1.cells l[i].k), .bool false]) rfl ?_)))))))
      refine Bw7.st (n := 3) (vs := [.str l[i].k, .str (valPr (applySt s l[i]).1.cells l[i].k), .bool false]) (ds := [.str l[i].k, .str (valPr (applySt s l[i]).1.cells l[i].k), .bool false]) rfl rfl (by simp) rfl ?_
      intro g8 gn8 Bw8 F8'
      refine Wp.b (Bw8.ldn (n := 3) rfl) ?_
      rw [dyn1]
      exact fin _ g8 F8'
    · refine Wp.b (Bw7.ldn (n := 3) rfl) ?_
      rw [dyn1]
      exact fin _ g7 (Fr.refl _ _)
end Go.Proofs.Ythoabddfionmoaa.AH
