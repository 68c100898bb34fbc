/- Contracts of seat s: the program's map does a command in its own memory. No condition. -/
import Derived.Test.YthoabddfionmoaaC10
set_option linter.unusedVariables false
set_option linter.unusedSimpArgs false
set_option maxRecDepth 100000
namespace Go.Proofs.Ythoabddfionmoaa.AH
open Go Go.RowKit
theorem putPr_has {l : List Pr} {k v : ByteArray} (e : hasPr l k = true) : putPr l ⟨k, v⟩ = l.set (kPr l k) ⟨k, v⟩ := by
  rw [List.set_eq_take_append_cons_drop, if_pos (hasPr_lt e)]
  simp [putPr, e]
theorem putPr_not {l : List Pr} {x : Pr} (e : hasPr l x.k = false) : putPr l x = l.take (kPr l x.k) ++ [x] ++ l.drop (kPr l x.k) := by
  simp [putPr, e]
theorem hasPr_key {l : List Pr} {k : ByteArray} (e : hasPr l k = true) : (l[kPr l k]'(hasPr_lt e)).k = k := by
  have hk := hasPr_lt e
  unfold hasPr at e; rw [List.getElem?_eq_getElem hk] at e; simpa using e
/-- A reply is put into its box and read from there. -/
theorem wp_fin {g : H} {q : Nat} {cs : List V} (B : Bx g q cs) (hl : cs.length = 2) (rp : Rp) {Q : V → H → Prop} (c : ∀ g', Fr [q] g g' → Q (.agg rp.en) g') :
    Wp (stN 2 g (.ptr q 0) (.agg rp.en) fun h' => (ress [(ldn 2 h' (.ptr q 0))]).map fun vs => (tupOf vs, h')) Q := by
  refine B.st (n := 2) (vs := rp.en) (ds := rp.en) rfl rfl (by omega) ?_ ?_
  · rw [List.drop_of_length_le (by omega)]; simp
  · intro g' gn B' F'
    exact Wp.r1 (B'.ldn (n := 2) rfl) rfl (c g' F')
/-- What a command leaves: the state's box, its cells. -/
abbrev Post75 (h : H) (p i1 z2 i2 o2 n2 : Nat) (d : List Pr × Rp) : V → H → Prop := fun r h' => r = .agg d.2.en ∧ Fr [p, i1] h h' ∧ ∃ z1' i1' o1', Bx h' p [.sl z1' i1' o1' d.1.length, .sl z2 i2 o2 n2] ∧ Sl d.1 h' z1' i1' o1' ∧ (i1' = i1 ∨ h.next ≤ i1')
theorem Fr.mem {S : List Nat} {a b c : H} {i : Nat} (x : Fr S a b) (y : Fr [i] b c) (k : i ∈ S ∨ a.next ≤ i) : Fr S a c := x.tr y (fun j hj => by rw [List.mem_singleton] at hj; subst hj; exact .inr k)
theorem c75 (s : Kv) (hs : s.ok) (hr : s.srt) (x : Cmd) (p : Nat) (h : H) (hk : Hok h) {z1 i1 o1 z2 i2 o2 n2 : Nat} (B : Bx h p [.sl z1 i1 o1 s.cells.length, .sl z2 i2 o2 n2]) (hn2 : n2 = s.sess.length)
    (s1 : Sl s.cells h z1 i1 o1) (own : i1 = 0 ∨ h.lo ≤ i1) (n1 : i1 ≠ p) :
    Wp (R 75 [.ptr p 0, .agg x.en] h) (Post75 h p i1 z2 i2 o2 n2 (doPr s.cells x)) := by
  subst hn2
  refine R75 rfl ?_
  rw [S75_eq]
  refine Wp.bxB hk (Fr.refl [] h) rfl ?_
  intro b g1 hb gn1 Bb1 k1 F1 F1'
  refine Wp.alB k1 F1 ?_
  intro q g2 hq gn2 Bq2 k2 F2 F2'
  have Bb2 := Bb1.fr0 F2'
  have B2 := B.fr0 F2
  have e3 : ld1 g2 (.ptr b (0 + 3)) = some (.str x.k) := Bb2.ld1 (o := 3) (by simp [Cmd.en])
  refine Wp.b (fA_ptr Bb2.ne) (Wp.b e3 ?_)
  refine Wp.bind (c62 s hs hr x.k p [] g2 k2 B2 (s1.fr0 F2)) ?_
  rintro r g ⟨rfl, F3'⟩
  have F3 := F2.trans0 F3'
  have k3 := F3'.ok k2
  have Bb := Bb2.fr0 F3'
  have Bq := Bq2.fr0 F3'
  have Bp := B2.fr0 F3'
  have t1 := s1.fr0 F3
  have lt1 := s1.lt hk
  have ltp := B.lt
  have hqn : h.next ≤ q := by omega
  have e2 : ld1 g (.ptr b (0 + 2)) = some (.int .i64 x.o) := Bb.ld1 (o := 2) (by simp [Cmd.en])
  have e3 : ld1 g (.ptr b (0 + 3)) = some (.str x.k) := Bb.ld1 (o := 3) (by simp [Cmd.en])
  have e4 : ld1 g (.ptr b (0 + 4)) = some (.str x.v) := Bb.ld1 (o := 4) (by simp [Cmd.en])
  have e5 : ld1 g (.ptr b (0 + 5)) = some (.str x.d) := Bb.ld1 (o := 5) (by simp [Cmd.en])
  have ep : ld1 g (.ptr p (0 + 0)) = some (.sl z1 i1 o1 s.cells.length) := Bp.ld1 (o := 0) (by simp)
  have np := nilC_ptr (off := 0) Bp.ne
  have fp := fA_ptr (o := 0) (off := 0) Bp.ne
  have f2 := fA_ptr (o := 2) (off := 0) Bb.ne
  have f3 := fA_ptr (o := 3) (off := 0) Bb.ne
  have f4 := fA_ptr (o := 4) (off := 0) Bb.ne
  have f5 := fA_ptr (o := 5) (off := 0) Bb.ne
  have hs1 := hs.1
  have kl := kPr_le s.cells x.k
  have F4 : Fr [p, i1] h g := F3.mono (by simp)
  have same : ∀ rp : Rp, doPr s.cells x = (s.cells, rp) → Wp (stN 2 g (.ptr q 0) (.agg rp.en) fun h' => (ress [(ldn 2 h' (.ptr q 0))]).map fun vs => (tupOf vs, h')) (Post75 h p i1 z2 i2 o2 s.sess.length (doPr s.cells x)) := by
    intro rp he
    refine wp_fin Bq rfl rp ?_
    intro g' F'
    rw [he]
    exact ⟨rfl, F4.mem F' (.inr hqn), z1, i1, o1, Bp.fr1 F' (nel (by omega)), t1.fr1 F' (nel (by omega)), .inl rfl⟩
  have set : hasPr s.cells x.k = true → doPr s.cells x = (putPr s.cells ⟨x.k, x.v⟩, ⟨0, emp⟩) → Wp (stN 1 g (.ptr i1 (o1 + kPr s.cells x.k * 2 + 1)) (.str x.v) fun h20 => (bldV [(V.int .i64 0), (V.str ⟨#[]⟩)] []).bind fun v21 => stN 2 h20 (.ptr q 0) v21 fun h' => (ress [(ldn 2 h' (.ptr q 0))]).map fun vs => (tupOf vs, h')) (Post75 h p i1 z2 i2 o2 s.sess.length (doPr s.cells x)) := by
    intro hh he
    have hlt := hasPr_lt hh
    refine Wp.stf k3 t1 (by rw [F3.1]; exact own) hlt ⟨x.k, x.v⟩ 1 (v := .str x.v) rfl rfl (Nat.le_refl 2) rfl ?_ ?_
    · show [V.str x.k, V.str x.v] = [V.str s.cells[kPr s.cells x.k].k] ++ [V.str x.v] ++ []
      rw [hasPr_key hh]; rfl
    · intro g5 gn5 k5 t5 F5'
      refine Wp.b rp3 (wp_fin (Bq.fr1 F5' (ner (by omega))) rfl _ ?_)
      intro g6 F6'
      rw [he, putPr_has hh]
      refine ⟨rfl, (F4.mem F5' (.inl (by simp))).mem F6' (.inr hqn), z1, i1, o1, ?_, t5.fr1 F6' (nel (by omega)), .inl rfl⟩
      rw [List.length_set]
      exact (Bp.fr1 F5' (Ne.symm n1)).fr1 F6' (nel (by omega))
  refine Wp.b rfl (Wp.b rfl (Wp.b f2 (Wp.b e2 (Wp.b (bin_eql _ _ _ _ _) ?_))))
  by_cases ho2 : x.o = 2
  · refine Wp.spT (by simpa using ho2) ?_
    refine Wp.on (fun hh => ?_) (fun hh => ?_)
    · have hlt := hasPr_lt hh
      have ip := (t1.pos hlt).1
      exact Wp.b np (Wp.b fp (Wp.b ep (Wp.b f4 (Wp.b e4 (Wp.b (iA_sl hlt) (Wp.b (fA_ptr ip) (set hh (by simp [doPr, ho2, hh]))))))))
    · refine Wp.b f2 (Wp.b e2 (Wp.b (bin_eql _ _ _ _ _) (Wp.spT (by simpa using ho2) (Wp.b np (Wp.b fp (Wp.b ep (Wp.b (lenL_sl _ _ _ _) (Wp.b (bin_eql _ _ _ _ _) (Wp.on (fun h40 => ?_) (fun h40 => ?_))))))))))
      · have h40 : s.cells.length = 40 := by simp at h40; omega
        exact Wp.b (rp1 4) (same ⟨4, emp⟩ (by simp [doPr, ho2, hh, h40]))
      · have h40 : ¬ s.cells.length = 40 := by simp at h40; omega
        have hd : doPr s.cells x = (putPr s.cells ⟨x.k, x.v⟩, ⟨0, emp⟩) := by simp [doPr, ho2, hh, h40]
        refine Wp.b f2 (Wp.b e2 (Wp.b (bin_eql _ _ _ _ _) (Wp.onT (by simpa using ho2) ?_)))
        refine Wp.b np (Wp.b fp (Wp.b ep (Wp.b f3 (Wp.b e3 (Wp.b f4 (Wp.b e4 (Wp.b (a := .agg (Pr.en ⟨x.k, x.v⟩)) rfl ?_)))))))
        refine Wp.bs k3 F3 [(⟨x.k, x.v⟩ : Pr)] rfl rfl rfl ?_
        intro b5 g5 hb5 gn5 s5 k5 b50 blo5 F5 F5'
        have hg : b < g.next := Bb.lt
        rw [pdV_fr F5' Bb.ne Bb.lt (by simp), pdV_fr F5' Bb.ne Bb.lt (by simp), pdV_fr F5' Bp.ne Bp.lt (by simp)]
        have t5 := t1.fr0 F5'
        obtain ⟨g6, e6, F6', t6, gn6⟩ := insP_sl (bytes := 32) (i := kPr s.cells x.k) k5 t5 (by rw [F5'.1, F3.1]; exact own) s5 (by simp) (by have := t1.lt k3; omega) blo5 (by decide) kl (by simp; omega) (by simp; omega)
        have w6 : R 92 [.sl z1 i1 o1 s.cells.length, .int .i64 (kPr s.cells x.k), .sl (Enc.sz Pr) b5 0 [(⟨x.k, x.v⟩ : Pr)].length] g5 = some (.sl (Enc.sz Pr) g5.next 0 (s.cells.take (kPr s.cells x.k) ++ [(⟨x.k, x.v⟩ : Pr)] ++ s.cells.drop (kPr s.cells x.k)).length, g6) := run_prim (p := insP 2 32) rfl e6
        refine Wp.b w6 ?_
        have F56 : Fr [i1] g g6 := (F5'.mono (by simp)).mem F6' (.inl (by simp))
        have bi : b ≠ i1 := ner (by omega)
        rw [pdV_fr F56 Bb.ne Bb.lt (nil1 bi), pdV_fr F56 Bb.ne Bb.lt (nil1 bi)]
        refine Wp.b np (Wp.b fp ?_)
        have Bp6 := Bp.fr1 F56 (Ne.symm n1)
        refine Bp6.st (n := 1) (vs := [.sl (Enc.sz Pr) g5.next 0 (s.cells.take (kPr s.cells x.k) ++ [(⟨x.k, x.v⟩ : Pr)] ++ s.cells.drop (kPr s.cells x.k)).length]) (ds := [.sl (Enc.sz Pr) g5.next 0 (s.cells.take (kPr s.cells x.k) ++ [(⟨x.k, x.v⟩ : Pr)] ++ s.cells.drop (kPr s.cells x.k)).length, .sl z2 i2 o2 s.sess.length]) rfl rfl (by simp) rfl ?_
        intro g7 gn7 B7 F7'
        have hg5 : q < g5.next := by have := Bq.lt; omega
        have pg5 : p < g5.next := by omega
        have Bq7 := (Bq.fr1 F56 (ner (by omega))).fr1 F7' (ner (by omega))
        refine Wp.b rp3 (wp_fin Bq7 rfl _ ?_)
        intro g8 F8'
        rw [hd, putPr_not (x := ⟨x.k, x.v⟩) (by simpa using hh)]
        refine ⟨rfl, ((F4.mem F56 (.inl (by simp))).mem F7' (.inl (by simp))).mem F8' (.inr hqn), _, g5.next, _, B7.fr1 F8' (nel (by omega)), (t6.fr1 F7' (ner pg5)).fr1 F8' (ner hg5), .inr (by omega)⟩
  refine Wp.spF (by simpa using ho2) (Wp.b f2 (Wp.b e2 (Wp.b (bin_eql _ _ _ _ _) (Wp.spF (by simpa using ho2) (Wp.b f2 (Wp.b e2 (Wp.b (bin_eql _ _ _ _ _) (Wp.onF (by simpa using ho2) (Wp.b rfl ?_)))))))))
  refine Wp.on (fun hh => ?_) (fun hh => ?_)
  · have hh : hasPr s.cells x.k = false := by simpa using hh
    exact Wp.b (rp1 1) (same ⟨1, emp⟩ (by simp [doPr, ho2, hh]))
  have hh : hasPr s.cells x.k = true := by simpa using hh
  have hlt := hasPr_lt hh
  have ip := (t1.pos hlt).1
  have ev : ld1 g (.ptr i1 (o1 + kPr s.cells x.k * 2 + 1)) = some (.str (valPr s.cells x.k)) := by
    have eb : bload (g.blk i1) (o1 + kPr s.cells x.k * 2 + 1) 1 = some [V.str s.cells[kPr s.cells x.k].v] := bload_sub (t1.get hlt) 1 1 (by decide)
    rw [valPr_at hh, ld1_ptr, eb]; rfl
  rw [S75_j12_eq]
  refine Wp.b np (Wp.b fp (Wp.b ep (Wp.b (iA_sl hlt) (Wp.b (fA_ptr ip) (Wp.b ev (Wp.b f2 (Wp.b e2 (Wp.b (bin_eql _ _ _ _ _) (Wp.on (fun ho1 => ?_) (fun ho1 => ?_))))))))))
  · have ho1 : x.o = 1 := by simpa using ho1
    exact Wp.b (rp0 0 _) (same ⟨0, valPr s.cells x.k⟩ (by simp [doPr, ho1, hh]))
  have ho1 : ¬ x.o = 1 := by simpa using ho1
  refine Wp.b f2 (Wp.b e2 (Wp.b (bin_eql _ _ _ _ _) (Wp.on (fun ho3 => ?_) (fun ho3 => ?_))))
  · have ho3 : x.o = 3 := by simpa using ho3
    have hd : doPr s.cells x = (s.cells.take (kPr s.cells x.k) ++ s.cells.drop (kPr s.cells x.k + 1), ⟨0, valPr s.cells x.k⟩) := by simp [doPr, ho3, hh]
    refine Wp.b np (Wp.b fp (Wp.b ep (Wp.b (bin_add _ _ _ _ _) ?_)))
    rw [inc64 (by omega)]
    obtain ⟨g6, e6, F6', t6, gn6⟩ := delP_sl (i := kPr s.cells x.k) (j := kPr s.cells x.k + 1) k3 t1 (by rw [F3.1]; exact own) (by omega) (by omega)
    have w6 : R 93 [.sl z1 i1 o1 s.cells.length, .int .i64 (kPr s.cells x.k), .int .i64 ((kPr s.cells x.k + 1 : Nat) : Int)] g = some (.sl (Enc.sz Pr) g.next 0 (s.cells.take (kPr s.cells x.k) ++ s.cells.drop (kPr s.cells x.k + 1)).length, g6) := run_prim (p := delP 2) rfl e6
    refine Wp.b w6 (Wp.b np (Wp.b fp ?_))
    have Bp6 := Bp.fr1 F6' (Ne.symm n1)
    refine Bp6.st (n := 1) (vs := [.sl (Enc.sz Pr) g.next 0 (s.cells.take (kPr s.cells x.k) ++ s.cells.drop (kPr s.cells x.k + 1)).length]) (ds := [.sl (Enc.sz Pr) g.next 0 (s.cells.take (kPr s.cells x.k) ++ s.cells.drop (kPr s.cells x.k + 1)).length, .sl z2 i2 o2 s.sess.length]) rfl rfl (by simp) rfl ?_
    intro g7 gn7 B7 F7'
    have hg5 : q < g.next := Bq.lt
    have pg5 : p < g.next := Bp.lt
    have Bq7 := (Bq.fr1 F6' (ner (by omega))).fr1 F7' (ner (by omega))
    refine Wp.b (rp0 0 _) (wp_fin Bq7 rfl _ ?_)
    intro g8 F8'
    rw [hd]
    exact ⟨rfl, ((F4.mem F6' (.inl (by simp))).mem F7' (.inl (by simp))).mem F8' (.inr hqn), _, g.next, _, B7.fr1 F8' (nel (by omega)), (t6.fr1 F7' (ner pg5)).fr1 F8' (ner hg5), .inr (by omega)⟩
  have ho3 : ¬ x.o = 3 := by simpa using ho3
  refine Wp.b f5 (Wp.b e5 (Wp.b (str_neq _ _ _ _) (Wp.on (fun hv => ?_) (fun hv => ?_))))
  · have hv : ¬ valPr s.cells x.k = x.d := by simpa using hv
    exact Wp.b (rp0 3 _) (same ⟨3, valPr s.cells x.k⟩ (by simp [doPr, ho1, ho2, ho3, hh, hv]))
  · have hv : valPr s.cells x.k = x.d := by simpa using hv
    exact Wp.b np (Wp.b fp (Wp.b ep (Wp.b f4 (Wp.b e4 (Wp.b (iA_sl hlt) (Wp.b (fA_ptr ip) (set hh (by simp [doPr, ho1, ho2, ho3, hh, hv]))))))))
end Go.Proofs.Ythoabddfionmoaa.AH
