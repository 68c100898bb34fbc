/- Contracts of seat s: the reference applies a command; its ChangesOf. No condition. -/
import Derived.Test.YthoabddfionmoaaC6
set_option linter.unusedVariables false
set_option linter.unusedSimpArgs false
set_option maxRecDepth 100000
namespace Go.Proofs.Ythoabddfionmoaa.AH
open Go Go.RowKit
theorem c31 {P : Nat → Prop} (s : Kv) (hs : s.ok) (x : Cmd) (cs : List V) (h : H) (hk : Hok h) (hP : ∀ i, h.next ≤ i → P i) (hP0 : P 0) (kv : KvV P s h cs) :
    Wp (R 31 [.agg cs, .agg x.en] h) (Post31 P h (applySt s x).1 (applySt s x).2) := by
  obtain ⟨z1, i1, o1, z2, i2, o2, rfl, s1, s2, P1, P2⟩ := kv
  refine R31 rfl ?_
  rw [S31_eq]
  refine Wp.bxB hk (Fr.refl [] h) rfl ?_
  intro b g1 hb gn1 Bb1 k1 F1 F1'
  refine Wp.bxB k1 F1 rfl ?_
  intro d g2 hd gn2 Bd2 k2 F2 F2'
  refine Wp.alB k2 F2 ?_
  intro p g3 hp gn3 Bp3 k3 F3 F3'
  refine Wp.alB k3 F3 ?_
  intro q g4 hq gn4 Bq4 k4 F4 F4'
  have Bb4 := ((Bb1.fr0 F2').fr0 F3').fr0 F4'
  have Bd4 := (Bd2.fr0 F3').fr0 F4'
  have Bp4 := Bp3.fr0 F4'
  have e42 := c42 x g4 k4
  have F5' : Fr [] g4 (g4.new x.en) := (Fr.refl _ _).new _
  have k5 := k4.new x.en
  have a1 : ld1 g4 (.ptr b (0 + 1)) = some (.sl z2 i2 o2 s.sess.length) := Bb4.ld1 (o := 1) (by simp)
  have a2 : ld1 g4 (.ptr d (0 + 0)) = some (.int .i64 x.s) := Bd4.ld1 (o := 0) (by simp [Cmd.en])
  have a3 := Bd4.ldn (n := 6) rfl
  have hs2 := hs.2
  have lt2 := s2.lt hk
  refine Wp.b (fA_ptr Bb4.ne) (Wp.b a1 (Wp.b (fA_ptr Bd4.ne) (Wp.b a2 ?_)))
  refine Wp.b (c58 s.sess (by omega) x.s z2 i2 o2 g4 (s2.fr0 F4)) (Wp.b rfl (Wp.b rfl (Wp.b a3 (Wp.b e42 (Wp.b rfl ?_)))))
  generalize g4.new x.en = g at *
  have F5 : Fr [] h g := F4.trans0 F5'
  have Bb := Bb4.fr0 F5'
  have Bd := Bd4.fr0 F5'
  have Bp := Bp4.fr0 F5'
  have Bq := Bq4.fr0 F5'
  have hbn : h.next ≤ b := by omega
  have d1 : b < d := by omega
  have d2 : d < p := by omega
  have d3 : p < q := by omega
  have hpn : h.next ≤ p := by omega
  have hqn : h.next ≤ q := by omega
  have b1 : ld1 g (.ptr b (0 + 1)) = some (.sl z2 i2 o2 s.sess.length) := Bb.ld1 (o := 1) (by simp)
  have b2 := Bb.ldn (n := 2) rfl
  have b3 : ld1 g (.ptr d (0 + 1)) = some (.int .i64 x.n) := Bd.ld1 (o := 1) (by simp [Cmd.en])
  have t2 := s2.fr0 F5
  have two : ∀ (rp : Rp) (w : Option (V × H) → H → Option (V × H)), applySt s x = (s, rp) → (∀ k g', Fr [p] g g' → w k g' = k) → Wp (stN 2 g (.ptr p 0) (.agg [.sl z1 i1 o1 s.cells.length, .sl z2 i2 o2 s.sess.length]) fun h' => w (stN 2 h' (.ptr q 0) (.agg rp.en) fun h' => (ress [(ldn 2 h' (.ptr p 0)), (ldn 2 h' (.ptr q 0))]).map fun vs => (tupOf vs, h')) h')
      (Post31 P h (applySt s x).1 (applySt s x).2) := by
    intro rp w he hw
    refine Bp.st (n := 2) (vs := [.sl z1 i1 o1 s.cells.length, .sl z2 i2 o2 s.sess.length]) (ds := [.sl z1 i1 o1 s.cells.length, .sl z2 i2 o2 s.sess.length]) rfl rfl (by simp) rfl ?_
    intro g6 gn6 Bp6 F6'
    have F6 := F5.tr1 F6' hpn
    rw [hw _ _ F6']
    refine (Bq.fr1 F6' (ner d3)).st (n := 2) (vs := rp.en) (ds := rp.en) rfl rfl (by simp) rfl ?_
    intro g7 gn7 Bq7 F7'
    have F7 := F6.tr1 F7' hqn
    have e1 := (Bp6.fr1 F7' (nel d3)).ldn (n := 2) rfl
    have e2 := Bq7.ldn (n := 2) rfl
    simp only [e1, e2, ress_cons, ress_nil, Option.bind_some, ntup_agg, Option.map_some, tupOf_two]
    rw [he]
    exact ⟨_, _, rfl, F7, _, rfl, z1, i1, o1, z2, i2, o2, rfl, s1.fr0 F7, s2.fr0 F7, P1, P2⟩
  have j8 : applySt s x = (⟨(doPr s.cells x).1, putSe s x⟩, (doPr s.cells x).2) → Wp (S31_j8 R (.ptr b 0) (.ptr d 0) (.ptr p 0) (.ptr q 0) (.int .i64 (kSe s.sess x.s)) (.bool (hasSe s.sess x.s)) g) (Post31 P h (applySt s x).1 (applySt s x).2) := by
    intro he
    rw [he]
    exact j8_31 hP hP0 hk k5 F5 s hs x Bb Bd Bp Bq hbn d1 d2 d3 s1 s2 P1
  have l1 := fA_ptr (o := 1) (off := 0) Bb.ne
  have l2 := fA_ptr (o := 1) (off := 0) Bd.ne
  refine Wp.sp (fun ok => ?_) (fun ok => ?_)
  · have ok : okC x = false := by simpa using ok
    exact Wp.b b2 (Wp.b (rp1 4) (two ⟨4, emp⟩ (fun k _ => k) (by simp [applySt, ok]) (fun _ _ _ => rfl)))
  have ok : okC x = true := by simpa using ok
  refine Wp.b rfl (Wp.sp (fun hh => ?_) (fun hh => ?_))
  · have hh : hasSe s.sess x.s = false := by simpa using hh
    refine Wp.b l1 (Wp.b b1 (Wp.b (lenL_sl _ _ _ _) (Wp.b (bin_eql _ _ _ _ _) (Wp.on (fun h12 => ?_) (fun h12 => ?_)))))
    · have h12 : s.sess.length = 12 := by simp at h12; omega
      exact Wp.b b2 (Wp.b (rp1 4) (two ⟨4, emp⟩ (fun k _ => k) (by simp [applySt, hh, h12]) (fun _ _ _ => rfl)))
    · have h12 : ¬ s.sess.length = 12 := by simp at h12; omega
      exact Wp.spF hh (Wp.spF hh (j8 (by simp [applySt, ok, hh, h12, putSe, newSe])))
  have hh : hasSe s.sess x.s = true := by simpa using hh
  have hlt := hasSe_lt hh
  have ip := (t2.pos hlt).1
  have q1 : ld1 g (.ptr i2 (o2 + kSe s.sess x.s * 4 + 1)) = some (.int .i64 (seAt s.sess x.s).l) := by
    have eb : bload (g.blk i2) (o2 + kSe s.sess x.s * 4 + 1) 1 = some [V.int .i64 s.sess[kSe s.sess x.s].l] := bload_sub (t2.get hlt) 1 1 (by decide)
    rw [ld1_ptr, eb, seAt_at hh]; rfl
  have q2 : ldn 2 g (.ptr i2 (o2 + kSe s.sess x.s * 4 + 2)) = some (.agg (seAt s.sess x.s).r.en) := by
    have eb : bload (g.blk i2) (o2 + kSe s.sess x.s * 4 + 2) 2 = some s.sess[kSe s.sess x.s].r.en := bload_sub (t2.get hlt) 2 2 (by decide)
    rw [ldn_ptr, eb, seAt_at hh]; rfl
  have hi : iA 4 (.sl z2 i2 o2 s.sess.length) (.int .i64 (kSe s.sess x.s)) = some (.ptr i2 (o2 + kSe s.sess x.s * 4)) := iA_sl hlt
  refine Wp.spT hh (Wp.b l1 (Wp.b b1 (Wp.b hi (Wp.b (fA_ptr ip) (Wp.b q1 (Wp.b l2 (Wp.b b3 (Wp.b (bin_eql _ _ _ _ _) (Wp.on (fun hl => ?_) (fun hl => ?_))))))))))
  · have hl : (seAt s.sess x.s).l = x.n := by simpa using hl
    refine Wp.b b2 (Wp.b l1 (Wp.b b1 (Wp.b hi (Wp.b (fA_ptr ip) (Wp.b q2 ?_)))))
    exact two _ (fun k g' => pdV g' (.ptr i2 (o2 + kSe s.sess x.s * 4 + 2)) g (pdV g' (.ptr b (0 + 1)) g k)) (by simp [applySt, ok, hh, hl])
      (fun k g' F => by rw [pdV_fr F ip (by have := t2.lt k5; exact this) (nil1 (nel (Nat.lt_of_lt_of_le lt2 hpn))), pdV_fr F Bb.ne Bb.lt (nil1 (nel (Nat.lt_trans d1 d2)))])
  have hl : ¬ (seAt s.sess x.s).l = x.n := by simpa using hl
  refine Wp.spT hh (Wp.b l1 (Wp.b b1 (Wp.b hi (Wp.b (fA_ptr ip) (Wp.b q1 (Wp.b l2 (Wp.b b3 (Wp.b (bin_gtr _ _ _ _ _) (Wp.on (fun hg => ?_) (fun hg => ?_))))))))))
  · have hg : x.n < (seAt s.sess x.s).l := by simpa using hg
    exact Wp.b b2 (Wp.b (rp1 2) (two ⟨2, emp⟩ (fun k _ => k) (by simp [applySt, ok, hh, hl, hg]) (fun _ _ _ => rfl)))
  · have hg : ¬ x.n < (seAt s.sess x.s).l := by simpa using hg
    exact j8 (by simp [applySt, ok, hh, hl, hg, putSe, newSe])
end Go.Proofs.Ythoabddfionmoaa.AH
