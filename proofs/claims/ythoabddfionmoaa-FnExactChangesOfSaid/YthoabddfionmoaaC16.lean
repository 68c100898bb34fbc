/- The law FnExactChangesOf over the abstract heap. No condition. -/
import Derived.Test.YthoabddfionmoaaC15
set_option linter.unusedVariables false
set_option linter.unusedSimpArgs false
set_option maxRecDepth 100000
namespace Go.Proofs.Ythoabddfionmoaa.AH
open Go Go.RowKit
theorem neqB (a b : Bool) : binV Try.prog .neq 4 (.bool a) (.bool b) = some (.bool (a != b)) := neq_bool Try.prog 4 a b (by kernel_rfl)
theorem c3 (l : List Cmd) (hl : ∀ c ∈ l, c.small 4611686018427387904) (hn : l.length ≤ 4611686018427387904) (z id off : Nat) (h : H) (hk : Hok h) (s : Sl l h z id off) :
    Wp (R 3 [.sl z id off l.length] h) fun r h' => r = .bool true ∧ Fr [] h h' := by
  refine R3 rfl ?_
  rw [S3_eq]
  refine Wp.bind (c6 l hl hn z id off h hk s) ?_
  rintro r g1 ⟨F1, x, rfl, hx⟩
  have k1 := F1.ok hk
  refine Wp.b (bin_lss _ _ _ _ _) (Wp.on (fun hc => ?_) (fun hc => ?_))
  · exact Wp.r1 rfl rfl ⟨rfl, F1⟩
  have hc : ¬ x < 0 := by simpa using hc
  obtain ⟨x0, hlen, hsm⟩ : 0 ≤ x ∧ l.length ≤ 1048576 ∧ ∀ c ∈ l, c.small 1048576 := by
    rcases hx with r | r
    · omega
    · exact r
  generalize hL : (if l.length ≤ 100 then chgs ⟨[], []⟩ 0 l else []) = L at *
  have hLl : L.length ≤ 1048576 := by
    rw [← hL]
    split
    · have := chgs_len l ⟨[], []⟩ 0; omega
    · simp
  refine Wp.bind (c8 l hlen z id off g1 k1 (s.fr0 F1)) ?_
  rintro r g2 ⟨F2', i2, w2, rfl, s2⟩
  have F2 := F1.trans0 F2'
  have k2 := F2'.ok k1
  refine Wp.bind (c7 l (by omega) 6 i2 0 g2 k2 s2) ?_
  rintro r g3 ⟨F3', z3, i3, o3, rfl, s3⟩
  rw [hL] at s3 ⊢
  have F3 := F2.trans0 F3'
  have k3 := F3'.ok k2
  refine Wp.b rfl (Wp.b rfl ?_)
  refine Wp.bind (c8 l hlen z id off g3 k3 (s.fr0 F3)) ?_
  rintro r g4 ⟨F4', i4, w4, rfl, s4⟩
  have F4 := F3.trans0 F4'
  have k4 := F4'.ok k3
  refine Wp.bind (c9 l (by omega) 6 i4 0 g4 k4 s4) ?_
  rintro r g5 ⟨F5', z5, i5, o5, rfl, s5, w5⟩
  rw [hL] at s5 ⊢
  have F5 := F4.trans0 F5'
  have k5 := F5'.ok k4
  have s35 := (s3.fr0 F4').fr0 F5'
  refine Wp.b rfl (Wp.b rfl (Wp.b (c10 L L (by omega) (by omega) z5 i5 o5 z3 i3 o3 g5 s5 s35) (Wp.b rfl (Wp.spF (by simp) (Wp.b (neqB _ _) (Wp.onF (by simp) ?_))))))
  rw [S3_j10_eq]
  refine Wp.bind (c8 l hlen z id off g5 k5 (s.fr0 F5)) ?_
  rintro r g6 ⟨F6', i6, w6, rfl, s6⟩
  have F6 := F5.trans0 F6'
  have k6 := F6'.ok k5
  have s46 := (s4.fr0 F5').fr0 F6'
  refine Wp.bind (c11 l l (by omega) 6 i4 0 6 i6 0 g6 k6 s46 s6) ?_
  rintro r g7 ⟨rfl, F7'⟩
  have F7 := F6.trans0 F7'
  have k7 := F7'.ok k6
  have lo7 : g7.lo = h.lo := F7.1
  have n1 := F1.2.1
  have n2 := F2'.2.1
  have n3 := F3'.2.1
  have n4 := F4'.2.1
  have n5 := F5'.2.1
  have hlo := hk.2
  refine Wp.b rfl (Wp.onF (by simp) ?_)
  refine Wp.bind (c12 l hlen 6 i4 0 g7 k7 (s46.fr0 F7') (.inr (by omega))) ?_
  rintro r g8 ⟨⟨k, rfl⟩, F8'⟩
  have F8 := F7.tr1 F8' (by omega)
  have k8 := F8'.ok k7
  have lt4 := s4.lt k4
  have lt3 := s3.lt k3
  have ne5 : i5 ≠ i4 := by
    have := hk.1
    rcases w5 with r | r
    · rw [r]; exact nel (by omega)
    · exact ner (by omega)
  have s58 := ((s5.fr0 F6').fr0 F7').fr1 F8' ne5
  have s38 := ((s35.fr0 F6').fr0 F7').fr1 F8' (nel (by omega))
  refine Wp.b (bin_lss _ _ _ _ _) (Wp.spF (by simp) ?_)
  refine Wp.b (c10 L L (by omega) (by omega) z5 i5 o5 z3 i3 o3 g8 s58 s38) (Wp.b rfl (Wp.spF (by simp) (Wp.b (neqB _ _) (Wp.onF (by simp) ?_))))
  rw [S3_j16_eq]
  have own5 : i5 = 0 ∨ g8.lo ≤ i5 := by
    rw [F8.1]
    rcases w5 with r | r
    · exact .inl r
    · exact .inr (by omega)
  refine Wp.bind (c13 L hLl z5 i5 o5 g8 k8 s58 own5) ?_
  rintro r g9 ⟨rfl, F9', m, hm, s9, hv⟩
  have F9 : Fr [] h g9 := F8.tr F9' (by
    intro j hj
    rw [List.mem_singleton] at hj
    subst hj
    rcases w5 with r | r
    · exact .inl r
    · exact .inr (.inr (by omega)))
  have k9 := F9'.ok k8
  have e14 := c14 m (by omega) z5 i5 o5 g9 s9 hv
  rw [hm] at e14
  refine Wp.b e14 (Wp.b (bin_lss _ _ _ _ _) (Wp.onF (by simp; omega) (Wp.b (bin_neq _ _ _ _ _) (Wp.onF (by simp) ?_))))
  refine Wp.bind (c8 l hlen z id off g9 k9 (s.fr0 F9)) ?_
  rintro r g10 ⟨F10', i10, w10, rfl, s10⟩
  have F10 := F9.trans0 F10'
  have k10 := F10'.ok k9
  refine Wp.bind (c9 l (by omega) 6 i10 0 g10 k10 s10) ?_
  rintro r g11 ⟨F11', z11, i11, o11, rfl, s11, w11⟩
  rw [hL] at s11 ⊢
  have F11 := F10.trans0 F11'
  have s3z : Sl L g11 z3 i3 o3 := by
    have t : Sl L g9 z3 i3 o3 := by
      by_cases e : i3 = 0
      · rcases s3 with t | t
        · exact .inl t
        · exact absurd e t.1
      · refine s38.fr1 F9' ?_
        rcases w5 with r | r
        · rw [r]; exact e
        · exact nel (by omega)
    exact (t.fr0 F10').fr0 F11'
  refine Wp.b rfl (Wp.b rfl (Wp.b (c10 L L (by omega) (by omega) z11 i11 o11 z3 i3 o3 g11 s11 s3z) (Wp.b rfl (Wp.spF (by simp) (Wp.b (neqB _ _) (Wp.onF (by simp) ?_))))))
  have e14' := c14 m (by omega) z5 i5 o5 g11 ((s9.fr0 F10').fr0 F11') hv
  rw [hm] at e14'
  exact Wp.b e14' (Wp.b (bin_lss _ _ _ _ _) (Wp.onF (by simp; omega) (Wp.b (bin_neq _ _ _ _ _) (Wp.onF (by simp) (Wp.r1 rfl rfl ⟨rfl, F11⟩)))))
end Go.Proofs.Ythoabddfionmoaa.AH
