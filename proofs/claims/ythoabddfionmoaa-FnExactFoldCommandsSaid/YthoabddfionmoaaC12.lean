/- Contracts of seat s: the program applies a command in its own memory. No condition. -/
import Derived.Test.YthoabddfionmoaaC11
set_option linter.unusedVariables false
set_option linter.unusedSimpArgs false
set_option maxRecDepth 100000
namespace Go.Proofs.Ythoabddfionmoaa.AH
open Go Go.RowKit
/-- What a command leaves: the state's box, its cells, its sessions, all of its own. -/
abbrev Own49 (h h' : H) (p i1 i2 : Nat) (s' : Kv) : Prop := ∃ z1' i1' o1' z2' i2' o2', Bx h' p [.sl z1' i1' o1' s'.cells.length, .sl z2' i2' o2' s'.sess.length] ∧ Sl s'.cells h' z1' i1' o1' ∧ Sl s'.sess h' z2' i2' o2' ∧ (i1' = i1 ∨ h.next ≤ i1') ∧ (i2' = i2 ∨ h.next ≤ i2') ∧ (i1' ≠ i2' ∨ i1' = 0)
theorem j12_49 {h g : H} (x : Cmd) (cells : List Pr) (L : List Se) (hs : Kv.ok ⟨cells, L⟩) (hr : Kv.srt ⟨cells, L⟩) (k : Nat) (hkl : k < L.length) (hx : L[k].i = x.s) (p d q : Nat) (hk0 : Hok h) (hk : Hok g) {z1 i1 o1 z2 i2 o2 j1 j2 : Nat}
    (F : Fr [p, j1, j2] h g) (Bp : Bx g p [.sl z1 i1 o1 cells.length, .sl z2 i2 o2 L.length]) (Bd : Bx g d x.en) (Bq : Bx g q [(V.int .i64 0), (V.str ⟨#[]⟩)]) (hdp : h.next ≤ d) (hqp : d < q) (hpn : p < h.next)
    (s1 : Sl cells g z1 i1 o1) (s2 : Sl L g z2 i2 o2) (own1 : i1 = 0 ∨ g.lo ≤ i1) (own2 : g.lo ≤ i2) (n1 : i1 ≠ p) (n2 : i2 ≠ p) (n12 : i2 ≠ i1) (f1 : i1 = j1 ∨ h.next ≤ i1) (f2 : i2 = j2 ∨ h.next ≤ i2) (nd1 : i1 ≠ d ∧ i1 ≠ q) (nd2 : i2 ≠ d ∧ i2 ≠ q) :
    Wp (S49_j12 R (.ptr p 0) (.ptr d 0) (.ptr q 0) (.int .i64 k) g) fun r h' => r = .agg (doPr cells x).2.en ∧ Fr [p, j1, j2] h h' ∧ Own49 h h' p j1 j2 ⟨(doPr cells x).1, L.set k ⟨x.s, x.n, (doPr cells x).2⟩⟩ := by
  rw [S49_j12_eq]
  have hgn := F.2.1
  refine Wp.b (Bd.ldn (n := 6) rfl) ?_
  refine Wp.bind (c75 ⟨cells, L⟩ hs hr x p g hk Bp rfl s1 own1 n1) ?_
  rintro r g1 ⟨rfl, F1, z1', i1', o1', Bp1, t1, fr1⟩
  have k1 := F1.ok hk
  have h1n := F1.2.1
  have Bd1 := Bd.fr F1 (by simp; exact ⟨ner (by omega), Ne.symm nd1.1⟩)
  have Bq1 := Bq.fr F1 (by simp; exact ⟨ner (by omega), Ne.symm nd1.2⟩)
  have lt2 := s2.lt hk
  have t2 := s2.fr F1 (by simp; exact ⟨n2, n12⟩)
  have ln1 := t1.lt k1
  have ni : i1' ≠ i2 ∧ i1' ≠ d ∧ i1' ≠ q ∧ i1' ≠ p := by
    have := Bd.lt; have := Bq.lt; have := Bp.lt
    rcases fr1 with r | r
    · rw [r]; exact ⟨Ne.symm n12, nd1.1, nd1.2, n1⟩
    · exact ⟨ner (by omega), ner (by omega), ner (by omega), ner (by omega)⟩
  have FA : Fr [p, j1, j2] h g1 := F.tr F1 (by
    intro j hj
    rcases List.mem_cons.1 hj with rfl | hj
    · exact .inr (.inl (by simp))
    · rw [List.mem_singleton] at hj
      subst hj
      rcases f1 with r | r
      · exact .inr (.inl (by rw [r]; simp))
      · exact .inr (.inr r))
  have fr1' : i1' = j1 ∨ h.next ≤ i1' := by
    rcases fr1 with r | r
    · rw [r]; exact f1
    · exact .inr (by omega)
  refine Wp.alB k1 FA ?_
  intro e g2 he gn2 Be2 k2 F2 F2'
  refine Be2.st (n := 2) (vs := (doPr cells x).2.en) (ds := (doPr cells x).2.en) rfl rfl (by simp) rfl ?_
  intro g3 gn3 Be3 F3'
  have hen : h.next ≤ e := by omega
  have F3 := F2.mem F3' (.inr hen)
  have k3 := F3'.ok k2
  have hdl := Bd1.lt
  have hql := Bq1.lt
  have hpl := Bp1.lt
  have l2' := t2.lt k1
  have Bp3 := (Bp1.fr0 F2').fr1 F3' (nel (by omega))
  have Bd3 := (Bd1.fr0 F2').fr1 F3' (nel (by omega))
  have Bq3 := (Bq1.fr0 F2').fr1 F3' (nel (by omega))
  have t3 := (t2.fr0 F2').fr1 F3' (nel (by omega))
  have u3 := (t1.fr0 F2').fr1 F3' (nel (by omega))
  have ip := (t3.pos hkl).1
  have np := nilC_ptr (off := 0) Bp3.ne
  have fp := fA_ptr (o := 1) (off := 0) Bp3.ne
  have e1 : ld1 g3 (.ptr p (0 + 1)) = some (.sl z2 i2 o2 L.length) := Bp3.ld1 (o := 1) (by simp)
  have e2 : ld1 g3 (.ptr d (0 + 1)) = some (.int .i64 x.n) := Bd3.ld1 (o := 1) (by simp [Cmd.en])
  have e3 := Be3.ldn (n := 2) rfl
  have lo3 : g3.lo ≤ i2 := by rw [F3'.1, F2'.1, F1.1]; exact own2
  refine Wp.b np (Wp.b fp (Wp.b e1 (Wp.b np (Wp.b fp (Wp.b e1 (Wp.b (fA_ptr Bd3.ne) (Wp.b e2 (Wp.b e3 (Wp.b (iA_sl hkl) (Wp.b (fA_ptr ip) ?_))))))))))
  refine Wp.stf k3 t3 (.inr lo3) hkl ⟨x.s, x.n, L[k].r⟩ 1 (v := .int .i64 x.n) rfl rfl (Nat.le_of_ble_eq_true rfl) rfl ?_ ?_
  · show [V.int .i64 x.s, V.int .i64 x.n, V.int .i64 L[k].r.c, V.str L[k].r.v] = [V.int .i64 L[k].i] ++ [V.int .i64 x.n] ++ [V.int .i64 L[k].r.c, V.str L[k].r.v]
    rw [hx]; rfl
  intro g4 gn4 k4 t4 F4'
  rw [pdV_fr F4' Be3.ne Be3.lt (nil1 (ner (by omega)))]
  have Be4 := Be3.fr1 F4' (ner (by omega))
  have hk4 : k < (L.set k ⟨x.s, x.n, L[k].r⟩).length := by rw [List.length_set]; exact hkl
  refine Wp.b (iA_sl hkl) (Wp.b (fA_ptr ip) ?_)
  refine Wp.stf k4 t4 (.inr (by rw [F4'.1]; exact lo3)) hk4 ⟨x.s, x.n, (doPr cells x).2⟩ 2 (v := .agg (doPr cells x).2.en) (vs := (doPr cells x).2.en) rfl rfl (Nat.le_of_ble_eq_true rfl) rfl ?_ ?_
  · rw [List.getElem_set_self]; rfl
  intro g5 gn5 k5 t5 F5'
  rw [List.set_set] at t5
  have Be5 := Be4.fr1 F5' (ner (by omega))
  refine Wp.b (Be5.ldn (n := 2) rfl) ?_
  have Bq5 := (Bq3.fr1 F4' (Ne.symm nd2.2)).fr1 F5' (Ne.symm nd2.2)
  have Bp5 := (Bp3.fr1 F4' (Ne.symm n2)).fr1 F5' (Ne.symm n2)
  have u5 := (u3.fr1 F4' ni.1).fr1 F5' ni.1
  have m2 : i2 ∈ [p, j1, j2] ∨ h.next ≤ i2 := by
    rcases f2 with r | r
    · exact .inl (by rw [r]; simp)
    · exact .inr r
  refine wp_fin Bq5 rfl _ ?_
  intro g6 F6'
  refine ⟨rfl, ((F3.mem F4' m2).mem F5' m2).mem F6' (.inr (by omega)), z1', i1', o1', z2, i2, o2, ?_, u5.fr1 F6' ni.2.2.1, t5.fr1 F6' nd2.2, fr1', f2, .inl ni.1⟩
  rw [List.length_set]
  exact Bp5.fr1 F6' (nel (by omega))
theorem c49 (s : Kv) (hs : s.ok) (hr : s.srt) (x : Cmd) (p : Nat) (h : H) (hk : Hok h) {z1 i1 o1 z2 i2 o2 : Nat} (B : Bx h p [.sl z1 i1 o1 s.cells.length, .sl z2 i2 o2 s.sess.length])
    (s1 : Sl s.cells h z1 i1 o1) (s2 : Sl s.sess h z2 i2 o2) (own1 : i1 = 0 ∨ h.lo ≤ i1) (own2 : i2 = 0 ∨ h.lo ≤ i2) (n1 : i1 ≠ p) (n2 : i2 ≠ p) (n12 : i1 ≠ i2 ∨ i1 = 0) :
    Wp (R 49 [.ptr p 0, .agg x.en] h) fun r h' => r = .agg (applySt s x).2.en ∧ Fr [p, i1, i2] h h' ∧ Own49 h h' p i1 i2 (applySt s x).1 := by
  refine R49 rfl ?_
  rw [S49_eq]
  refine Wp.bxB hk (Fr.refl [] h) rfl ?_
  intro d g1 hd gn1 Bd1 k1 F1 F1'
  refine Wp.alB k1 F1 ?_
  intro q g2 hq gn2 Bq2 k2 F2 F2'
  have Bd2 := Bd1.fr0 F2'
  refine Wp.b (Bd2.ldn (n := 6) rfl) ?_
  obtain ⟨g3, e3, F3'⟩ := c39 x g2 k2
  have k3 := F3'.ok k2
  have F3 := F2.trans0 F3'
  refine Wp.b e3 (Wp.b rfl ?_)
  have lt1 := s1.lt hk
  have lt2 := s2.lt hk
  have ltp := B.lt
  have hs1 := hs.1
  have hs2 := hs.2
  have kl := kSe_le s.sess x.s
  have same : ∀ (g : H) (rp : Rp), Fr [] g3 g → applySt s x = (s, rp) → Wp (stN 2 g (.ptr q 0) (.agg rp.en) fun h' => (ress [(ldn 2 h' (.ptr q 0))]).map fun vs => (tupOf vs, h')) (fun r h' => r = .agg (applySt s x).2.en ∧ Fr [p, i1, i2] h h' ∧ Own49 h h' p i1 i2 (applySt s x).1) := by
    intro g rp Fg he
    refine wp_fin ((Bq2.fr0 F3').fr0 Fg) rfl rp ?_
    intro g' F'
    have FF := (F3.trans0 Fg).tr1 F' (by omega)
    rw [he]
    exact ⟨rfl, FF.mono (by simp), z1, i1, o1, z2, i2, o2, B.fr0 FF, s1.fr0 FF, s2.fr0 FF, .inl rfl, .inl rfl, n12⟩
  refine Wp.on (fun ok => ?_) (fun ok => ?_)
  · have ok : okC x = false := by simpa using ok
    exact Wp.b (rp1 4) (same g3 ⟨4, emp⟩ (Fr.refl _ _) (by simp [applySt, ok]))
  have ok : okC x = true := by simpa using ok
  have Bd3 := Bd2.fr0 F3'
  have e0 : ld1 g3 (.ptr d (0 + 0)) = some (.int .i64 x.s) := Bd3.ld1 (o := 0) (by simp [Cmd.en])
  refine Wp.b (fA_ptr Bd3.ne) (Wp.b e0 ?_)
  refine Wp.bind (c73 s hs hr x.s p [] g3 k3 (B.fr0 F3) (s2.fr0 F3)) ?_
  rintro r g ⟨rfl, F4'⟩
  have F4 := F3.trans0 F4'
  have k4 := F4'.ok k3
  have Bp := B.fr0 F4
  have Bd := Bd3.fr0 F4'
  have Bq := (Bq2.fr0 F3').fr0 F4'
  have t1 := s1.fr0 F4
  have t2 := s2.fr0 F4
  have np := nilC_ptr (off := 0) Bp.ne
  have fp := fA_ptr (o := 1) (off := 0) Bp.ne
  have fd := fA_ptr (o := 1) (off := 0) Bd.ne
  have fd0 := fA_ptr (o := 0) (off := 0) Bd.ne
  have ep : ld1 g (.ptr p (0 + 1)) = some (.sl z2 i2 o2 s.sess.length) := Bp.ld1 (o := 1) (by simp)
  have ed : ld1 g (.ptr d (0 + 1)) = some (.int .i64 x.n) := Bd.ld1 (o := 1) (by simp [Cmd.en])
  have ed0 : ld1 g (.ptr d (0 + 0)) = some (.int .i64 x.s) := Bd.ld1 (o := 0) (by simp [Cmd.en])
  have hgn := F4.2.1
  refine Wp.b rfl (Wp.b rfl (Wp.b rfl ?_))
  by_cases hh : hasSe s.sess x.s = false
  · refine Wp.spT (by simpa using hh) (Wp.b np (Wp.b fp (Wp.b ep (Wp.b (lenL_sl _ _ _ _) (Wp.b (bin_eql _ _ _ _ _) (Wp.on (fun h12 => ?_) (fun h12 => ?_)))))))
    · have h12 : s.sess.length = 12 := by simp at h12; omega
      exact Wp.b (rp1 4) (same g ⟨4, emp⟩ F4' (by simp [applySt, hh, h12]))
    have h12 : ¬ s.sess.length = 12 := by simp at h12; omega
    refine Wp.spF hh (Wp.spF hh (Wp.b rfl (Wp.onT (by simpa using hh) ?_)))
    have he : applySt s x = (⟨(doPr s.cells x).1, s.sess.take (kSe s.sess x.s) ++ [⟨x.s, x.n, (doPr s.cells x).2⟩] ++ s.sess.drop (kSe s.sess x.s)⟩, (doPr s.cells x).2) := by simp [applySt, ok, hh, h12]
    refine Wp.b np (Wp.b fp (Wp.b ep (Wp.b fd0 (Wp.b ed0 (Wp.b (a := .agg (Se.en ⟨x.s, 0, ⟨0, emp⟩⟩)) rfl ?_)))))
    refine Wp.bs k4 F4 [(⟨x.s, 0, ⟨0, emp⟩⟩ : Se)] rfl rfl rfl ?_
    intro b5 g5 hb5 gn5 s5 k5 b50 blo5 F5 F5'
    rw [pdV_fr F5' Bd.ne Bd.lt (by simp), pdV_fr F5' Bp.ne Bp.lt (by simp)]
    obtain ⟨g6, e6, F6', t6, gn6⟩ := insP_sl (bytes := 40) (i := kSe s.sess x.s) k5 (t2.fr0 F5') (by rw [F5.1]; exact own2) s5 (by simp) (by have := t2.lt k4; omega) blo5 (by decide) kl (by simp; omega) (by simp; omega)
    have w6 : R 74 [.sl z2 i2 o2 s.sess.length, .int .i64 (kSe s.sess x.s), .sl (Enc.sz Se) b5 0 [(⟨x.s, 0, ⟨0, emp⟩⟩ : Se)].length] g5 = some (.sl (Enc.sz Se) g5.next 0 (s.sess.take (kSe s.sess x.s) ++ [(⟨x.s, 0, ⟨0, emp⟩⟩ : Se)] ++ s.sess.drop (kSe s.sess x.s)).length, g6) := run_prim (p := insP 4 40) rfl e6
    refine Wp.b w6 ?_
    have F56 : Fr [i2] g g6 := (F5'.mono (by simp)).mem F6' (.inl (by simp))
    rw [pdV_fr F56 Bd.ne Bd.lt (nil1 (ner (by omega)))]
    refine Wp.b np (Wp.b fp ?_)
    have Bp6 := Bp.fr1 F56 (Ne.symm n2)
    refine Bp6.st (n := 1) (vs := [.sl (Enc.sz Se) g5.next 0 (s.sess.take (kSe s.sess x.s) ++ [(⟨x.s, 0, ⟨0, emp⟩⟩ : Se)] ++ s.sess.drop (kSe s.sess x.s)).length]) (ds := [.sl z1 i1 o1 s.cells.length, .sl (Enc.sz Se) g5.next 0 (s.sess.take (kSe s.sess x.s) ++ [(⟨x.s, 0, ⟨0, emp⟩⟩ : Se)] ++ s.sess.drop (kSe s.sess x.s)).length]) rfl rfl (by simp) rfl ?_
    intro g7 gn7 B7 F7'
    have hpl := Bp.lt
    have hdl := Bd.lt
    have hql := Bq.lt
    have hlen : (s.sess.take (kSe s.sess x.s) ++ [(⟨x.s, 0, ⟨0, emp⟩⟩ : Se)] ++ s.sess.drop (kSe s.sess x.s)).length = s.sess.length + 1 := by simp; omega
    have htl : (s.sess.take (kSe s.sess x.s)).length = kSe s.sess x.s := by simp; omega
    have hsr : Kv.srt ⟨s.cells, s.sess.take (kSe s.sess x.s) ++ [(⟨x.s, 0, ⟨0, emp⟩⟩ : Se)] ++ s.sess.drop (kSe s.sess x.s)⟩ := by
      have := putSe_srt (s := s) hr.2 x ⟨x.s, 0, ⟨0, emp⟩⟩ rfl
      rw [hh] at this
      exact ⟨hr.1, this⟩
    have t16 : Sl s.cells g6 z1 i1 o1 := by
      rcases n12 with r | r
      · exact (t1.fr0 F5').fr1 F6' r
      · rcases t1 with t1 | t1
        · exact .inl t1
        · exact absurd r t1.1
    have hget : ∀ (hq : kSe s.sess x.s < (s.sess.take (kSe s.sess x.s) ++ [(⟨x.s, 0, ⟨0, emp⟩⟩ : Se)] ++ s.sess.drop (kSe s.sess x.s)).length), (s.sess.take (kSe s.sess x.s) ++ [(⟨x.s, 0, ⟨0, emp⟩⟩ : Se)] ++ s.sess.drop (kSe s.sess x.s))[kSe s.sess x.s].i = x.s := by
      intro hq
      have : (s.sess.take (kSe s.sess x.s) ++ [(⟨x.s, 0, ⟨0, emp⟩⟩ : Se)] ++ s.sess.drop (kSe s.sess x.s))[kSe s.sess x.s]? = some ⟨x.s, 0, ⟨0, emp⟩⟩ := by
        rw [List.append_assoc, List.getElem?_append_right (by omega), htl]; simp
      rw [List.getElem?_eq_getElem hq] at this
      rw [Option.some.inj this]
    have F57 : Fr [p, i1, i2] h g7 := ((F4.mono (by simp)).tr F56 (by simp)).mem F7' (.inl (by simp))
    have lo6 : g7.lo = h.lo := by rw [F7'.1, F56.1, F4.1]
    refine (j12_49 (h := h) (g := g7) x s.cells (s.sess.take (kSe s.sess x.s) ++ [(⟨x.s, 0, ⟨0, emp⟩⟩ : Se)] ++ s.sess.drop (kSe s.sess x.s)) ⟨hs1, by show _ ≤ 12; rw [hlen]; omega⟩ hsr (kSe s.sess x.s) (by rw [hlen]; omega) (hget _) p d q hk (F57.ok hk) F57 B7
      ((Bd.fr1 F56 (ner (by omega))).fr1 F7' (ner (by omega))) ((Bq.fr1 F56 (ner (by omega))).fr1 F7' (ner (by omega))) (by omega) (by omega) ltp (t16.fr1 F7' n1) (t6.fr1 F7' (ner (by omega)))
      (by rw [lo6]; exact own1) (by rw [lo6]; have := hk.2; omega) n1 (ner (by omega)) (ner (by omega)) (.inl rfl) (.inr (by omega)) ⟨nel (by omega), nel (by omega)⟩ ⟨ner (by omega), ner (by omega)⟩).mono ?_
    rintro r h' ⟨rfl, FF, OO⟩
    rw [he]
    refine ⟨rfl, FF, ?_⟩
    have hset : (s.sess.take (kSe s.sess x.s) ++ [(⟨x.s, 0, ⟨0, emp⟩⟩ : Se)] ++ s.sess.drop (kSe s.sess x.s)).set (kSe s.sess x.s) ⟨x.s, x.n, (doPr s.cells x).2⟩ = s.sess.take (kSe s.sess x.s) ++ [⟨x.s, x.n, (doPr s.cells x).2⟩] ++ s.sess.drop (kSe s.sess x.s) := by
      rw [List.append_assoc, List.set_append_right _ _ (by omega), htl, Nat.sub_self]; simp
    rw [hset] at OO
    exact OO
  have hh : hasSe s.sess x.s = true := by simpa using hh
  have hlt := hasSe_lt hh
  have ip := (t2.pos hlt).1
  have hi : iA 4 (.sl z2 i2 o2 s.sess.length) (.int .i64 (kSe s.sess x.s)) = some (.ptr i2 (o2 + kSe s.sess x.s * 4)) := iA_sl hlt
  have q1 : ld1 g (.ptr i2 (o2 + kSe s.sess x.s * 4 + 1)) = some (.int .i64 (seAt s.sess x.s).l) := by
    have eb : bload (g.blk i2) (o2 + kSe s.sess x.s * 4 + 1) 1 = some [V.int .i64 s.sess[kSe s.sess x.s].l] := bload_sub (t2.get hlt) 1 1 (by decide)
    rw [ld1_ptr, eb, seAt_at hh]; rfl
  have q2 : ldn 2 g (.ptr i2 (o2 + kSe s.sess x.s * 4 + 2)) = some (.agg (seAt s.sess x.s).r.en) := by
    have eb : bload (g.blk i2) (o2 + kSe s.sess x.s * 4 + 2) 2 = some s.sess[kSe s.sess x.s].r.en := bload_sub (t2.get hlt) 2 2 (by decide)
    rw [ldn_ptr, eb, seAt_at hh]; rfl
  refine Wp.spF (by simpa using hh) (Wp.spT hh (Wp.b fd (Wp.b ed (Wp.b np (Wp.b fp (Wp.b ep (Wp.b hi (Wp.b (fA_ptr ip) (Wp.b q1 (Wp.b (bin_eql _ _ _ _ _) (Wp.on (fun hl => ?_) (fun hl => ?_))))))))))))
  · have hl : x.n = (seAt s.sess x.s).l := by simpa using hl
    exact Wp.b np (Wp.b fp (Wp.b ep (Wp.b hi (Wp.b (fA_ptr ip) (Wp.b q2 (same g _ F4' (by simp [applySt, ok, hh, hl])))))))
  have hl : ¬ x.n = (seAt s.sess x.s).l := by simpa using hl
  have hl2 : ¬ (seAt s.sess x.s).l = x.n := fun e => hl e.symm
  refine Wp.spT hh (Wp.b fd (Wp.b ed (Wp.b np (Wp.b fp (Wp.b ep (Wp.b hi (Wp.b (fA_ptr ip) (Wp.b q1 (Wp.b (bin_lss _ _ _ _ _) (Wp.on (fun hg => ?_) (fun hg => ?_)))))))))))
  · have hg : x.n < (seAt s.sess x.s).l := by simpa using hg
    exact Wp.b (rp1 2) (same g ⟨2, emp⟩ F4' (by simp [applySt, ok, hh, hl2, hg]))
  have hg : ¬ x.n < (seAt s.sess x.s).l := by simpa using hg
  refine Wp.b rfl (Wp.onF (by simpa using hh) ?_)
  have he : applySt s x = (⟨(doPr s.cells x).1, s.sess.set (kSe s.sess x.s) ⟨x.s, x.n, (doPr s.cells x).2⟩⟩, (doPr s.cells x).2) := by
    rw [List.set_eq_take_append_cons_drop, if_pos hlt]
    simp [applySt, ok, hh, hl2, hg]
  have hx : s.sess[kSe s.sess x.s].i = x.s := by
    have e := hh
    unfold hasSe at e; rw [List.getElem?_eq_getElem hlt] at e; simpa using e
  have n12' : i2 ≠ i1 := by
    rcases n12 with r | r
    · exact Ne.symm r
    · rw [r]; exact ip
  have hdl := Bd.lt
  have hql := Bq.lt
  rw [he]
  exact (j12_49 (h := h) (g := g) x s.cells s.sess hs hr (kSe s.sess x.s) hlt hx p d q hk k4 (F4.mono (by simp)) Bp Bd Bq (by omega) (by omega) ltp t1 t2 (by rw [F4.1]; exact own1) (by rw [F4.1]; exact own2.resolve_left ip) n1 n2 n12' (.inl rfl) (.inl rfl) ⟨nel (by omega), nel (by omega)⟩ ⟨nel (by omega), nel (by omega)⟩)
end Go.Proofs.Ythoabddfionmoaa.AH
