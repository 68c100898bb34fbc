/- Contracts of seat s: the program's ChangesOf; the law over it. No condition. -/
import Derived.Test.YthoabddfionmoaaC14
set_option linter.unusedVariables false
set_option linter.unusedSimpArgs false
set_option maxRecDepth 100000
namespace Go.Proofs.Ythoabddfionmoaa.AH
open Go Go.RowKit
theorem c9 (l : List Cmd) (hn : l.length ≤ 4611686018427387904) (z id off : Nat) (h : H) (hk : Hok h) (sl : Sl l h z id off) :
    Wp (R 9 [.sl z id off l.length] h) fun r h' => Fr [] h h' ∧ ∃ z2 i2 o2, r = .tup [.sl z2 i2 o2 (if l.length ≤ 100 then chgs ⟨[], []⟩ 0 l else []).length, .bool (decide (l.length ≤ 100))] ∧ Sl (if l.length ≤ 100 then chgs ⟨[], []⟩ 0 l else []) h' z2 i2 o2 ∧ (i2 = 0 ∨ h.next ≤ i2) := by
  refine R9 rfl ?_
  rw [S9_eq]
  refine Wp.b (lenL_sl _ _ _ _) (Wp.b (bin_gtr _ _ _ _ _) (Wp.on (fun hc => ?_) (fun hc => ?_)))
  · have hc : ¬ l.length ≤ 100 := by simp at hc; omega
    rw [if_neg hc]
    exact Wp.r2 rfl rfl rfl rfl ⟨Fr.refl _ _, 0, 0, 0, by simp [hc], Sl.nil _ _ _, .inl rfl⟩
  · have hc : l.length ≤ 100 := by simp at hc; omega
    rw [if_pos hc]
    refine Wp.bs hk (Fr.refl [] h) ([] : List Int) rfl rfl rfl ?_
    intro b g1 hb gn1 sb k1 b0 blo F1 F1'
    refine Wp.alB k1 F1 ?_
    intro o g2 ho gn2 Bo2 k2 F2 F2'
    refine Bo2.st (n := 1) (vs := [.sl (Enc.sz Int) b 0 ([] : List Int).length]) (ds := [.sl (Enc.sz Int) b 0 ([] : List Int).length]) rfl rfl (by simp) rfl ?_
    intro g3 gn3 Bo3 F3'
    have F3 := F2.tr1 F3' (by omega)
    have k3 := F3'.ok k2
    have e8 : mkF 35 [.ptr o 0] = some (.fn 35 [(o, 0)]) := by
      show (if o = 0 then none else some [(o, 0)]).map (V.fn 35) = _
      rw [if_neg Bo3.ne]; rfl
    refine Wp.b e8 ?_
    have w34 : Wp (R 34 [.sl z id off l.length, .fn 35 [(o, 0)]] g3) (Post34 h o (chgs ⟨[], []⟩ 0 l)) := by
      refine R34 rfl ?_
      rw [S34_eq]
      refine Wp.b (a := .agg [V.sl 0 0 0 0, V.sl 0 0 0 0]) rfl ?_
      refine Wp.alB k3 F3 ?_
      intro p g4 hp gn4 B4 k4 F4 F4'
      refine B4.st (n := 2) (vs := [.sl 0 0 0 0, .sl 0 0 0 0]) (ds := [.sl 0 0 0 0, .sl 0 0 0 0]) rfl rfl (by simp) rfl ?_
      intro g5 gn5 B5 F5'
      have F5 := F4.tr1 F5' (by omega)
      refine Wp.b (lenL_sl _ _ _ _) ?_
      have hol := Bo3.lt
      have := l34 l hc z id off p o h hk sl (by omega) (by omega) (ner (by omega)) l.length 0 (by omega) ⟨[], []⟩ [] 0 0 0 0 0 0 (Enc.sz Int) b 0 g5 ⟨by simp, by simp⟩ ⟨List.Pairwise.nil, List.Pairwise.nil⟩ (by simp)
        ⟨F5'.ok k4, F5, B5, (Bo3.fr0 F4').fr1 F5' (nel (by omega)), Sl.nil _ _ _, Sl.nil _ _ _, (((sb.fr0 F2').fr1 F3' (nel (by omega))).fr0 F4').fr1 F5' (nel (by omega)), .inl rfl, .inl rfl, by omega, Ne.symm B5.ne, Ne.symm B5.ne, nel (by omega), Ne.symm Bo3.ne, Ne.symm Bo3.ne, nel (by omega), .inr rfl, Ne.symm b0, Ne.symm b0⟩
      simpa using this
    refine Wp.bind w34 ?_
    rintro r g6 ⟨F6, z3, i3, o3, B6, s6, w6⟩
    have e6 : ld1 g6 (.ptr o 0) = some (.sl z3 i3 o3 (chgs ⟨[], []⟩ 0 l).length) := B6.ld1 (o := 0) (by simp)
    exact Wp.b e6 (Wp.r2 rfl rfl rfl rfl ⟨F6, z3, i3, o3, by simp [hc], s6, .inr w6⟩)
end Go.Proofs.Ythoabddfionmoaa.AH
