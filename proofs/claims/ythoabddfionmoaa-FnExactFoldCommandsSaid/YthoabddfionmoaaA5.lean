/- The operations that write nothing, all together. No condition. -/
import Derived.Test.YthoabddfionmoaaA4
set_option linter.unusedVariables false
set_option linter.unusedSimpArgs false
namespace Go.Proofs.Ythoabddfionmoaa.AH
open Go Go.RowKit
variable {P : Program}

theorem slV_sim {β : Bet} {E : Env} {a : Act} (hE : RelE β E a.tmps) {t : TypeId} {x v : V} {cx : Value} {lo hi mx : Option Operand} (hx : RelV β x cx) (hv : slV P E t x lo hi mx = some v) :
    ∃ c, RelV β v c ∧ ∀ w, (Instr.sliceAt t cx (lo.map a.eval) (hi.map a.eval) (mx.map a.eval)).run P w = .ok c w := by
  unfold slV at hv
  split at hv
  · rename_i s hu
    cases hx
    split at hv
    · cases hv
    · rename_i hm
      simp only [Option.bind_eq_some_iff] at hv
      obtain ⟨h, hh, l, hl, hv⟩ := hv
      cases hv
      refine ⟨_, rfl, fun w => ?_⟩
      have hmx : mx = none := by cases mx <;> simp_all
      subst hmx
      obtain ⟨m', hb, _⟩ := bounds_sim (P := P) (isS := false) (mx := none) (m := s.size) hE (Nat.le_refl _) rfl rfl hh hl w
      simp only [Option.map_none] at hb
      simp [Instr.sliceAt, Instr.slice, run_underlying hu, hb]
  · rename_i e z id off len hu
    split at hv
    · rename_i i hi'
      split at hv
      · rename_i hz
        simp only [Option.bind_eq_some_iff] at hv
        obtain ⟨m, hm, hv⟩ := hv
        split at hv
        · cases hv
        · rename_i hmh
          simp only [Option.bind_eq_some_iff] at hv
          obtain ⟨h, hh, l, hl, hv⟩ := hv
          cases hv
          have hmh' : (mx.isSome && hi.isNone) = false := by cases mx <;> cases hi <;> simp_all
          rcases hx with ⟨rfl, rfl, rfl, rfl⟩ | ⟨hne, lc, ad, cap, hb, rfl, hcap, ha, hstr⟩
          · have hall := fun w => bounds_sim (P := P) (isS := true) (len := 0) (cap := 0) hE (Nat.le_refl _) hm hmh' hh hl w
            obtain ⟨m', _, h1, h2, h3, h4, h5⟩ := hall default
            have e1 : l = 0 := by omega
            have e2 : h = 0 := by omega
            subst e1 e2
            refine ⟨.slice none 0 0, .inl ⟨rfl, by simp, by simp, rfl⟩, fun w => ?_⟩
            obtain ⟨m', hr, h1, h2, h3, h4, h5⟩ := hall w
            have e3 : m' = 0 := by omega
            subst e3
            simp [Instr.sliceAt, Instr.slice, run_underlying hu, hr, sizeOf, typeInfo, hi']
          · have hall := fun w => bounds_sim (P := P) (isS := true) (len := len) (cap := cap) hE hcap hm hmh' hh hl w
            have hz' : i.size = z := hz.resolve_right hne
            -- the third bound is the same in every world
            have hm' : ∃ m', l ≤ h ∧ h ≤ m ∧ m ≤ len ∧ h ≤ m' ∧ m' ≤ cap ∧ ∀ w, (Instr.sliceBounds true len cap (lo.map a.eval) (hi.map a.eval) (mx.map a.eval)).run P w = .ok (l, h, m') w := by
              by_cases hmx : mx = none
              · subst hmx
                obtain ⟨m', hr, h1, h2, h3, h4, h5⟩ := hall default
                refine ⟨cap, h1, h2, h3, by omega, Nat.le_refl _, fun w => ?_⟩
                obtain ⟨m', hr, _⟩ := hall w
                have hmm : m' = cap := by
                  unfold Instr.sliceBounds at hr
                  simp only [Option.map_none, Sem.run_bind, Sem.run_pure, Result.andThen_ok] at hr
                  generalize hg : (match hi.map a.eval with | some v => Instr.sliceBound v cap (if true then BoundsCode.sliceAcap else .sliceAlen) | none => (pure len : Sem Nat)) = sm at hr
                  cases hi with
                  | none =>
                    simp at hr
                    cases lo with
                    | none => simp at hr; exact hr.2.2.symm
                    | some x =>
                      simp at hr
                      cases hq : (Instr.sliceBound (a.eval x) len .sliceB).run P w with
                      | ok y w' => rw [hq] at hr; simp at hr; exact hr.1.2.2.symm
                      | halt y w' => rw [hq] at hr; simp at hr
                  | some y =>
                    simp at hr
                    cases hq : (Instr.sliceBound (a.eval y) cap .sliceAcap).run P w with
                    | halt y w' => rw [hq] at hr; simp at hr
                    | ok y1 w1 =>
                      rw [hq] at hr; simp at hr
                      cases lo with
                      | none => simp at hr; exact hr.1.2.2.symm
                      | some x =>
                        simp at hr
                        cases hq : (Instr.sliceBound (a.eval x) y1 .sliceB).run P w1 with
                        | ok y w' => rw [hq] at hr; simp at hr; exact hr.1.2.2.symm
                        | halt y w' => rw [hq] at hr; simp at hr
                rw [hmm] at hr; exact hr
              · obtain ⟨z, rfl⟩ : ∃ z, mx = some z := by cases mx with | none => exact absurd rfl hmx | some z => exact ⟨z, rfl⟩
                cases hi with
                | none => simp at hmh'
                | some y =>
                  have hz := fun w => bound_sim (P := P) (code := .slice3Acap) hE (most := cap) (x := z) (n := m) (d := len) (by
                    unfold bound at hm ⊢; simp only at hm ⊢
                    split at hm
                    · rename_i k q hq; split at hm
                      · rename_i hc; rw [if_pos (by omega)]; exact hm
                      · cases hm
                    · cases hm) w
                  have hy := fun w => bound_sim (P := P) (code := .slice3B) hE hh w
                  obtain ⟨m', hr, h1, h2, h3, h4, h5⟩ := hall default
                  refine ⟨m, h1, h2, h3, h2, by omega, fun w => ?_⟩
                  unfold Instr.sliceBounds
                  cases lo with
                  | none => simp [bound] at hl; subst hl; simp [(hz w).1, (hy w).1]
                  | some x => simp [(hz w).1, (hy w).1, (bound_sim (P := P) (code := .slice3C) hE hl w).1]
            obtain ⟨m', h1, h2, h3, h4, h5, hr⟩ := hm'
            refine ⟨.slice (some (if m' = l then ad else ad.add (l * i.size))) (h - l) (m' - l), .inr ⟨hne, lc, _, m' - l, hb, rfl, by omega, fun hc => ?_, hstr⟩, fun w => ?_⟩
            · obtain ⟨rfl, hroom⟩ := ha (by omega)
              rw [if_neg (by omega), Addr.add_mid]
              refine ⟨by simp [Nat.add_assoc], ?_⟩
              subst hz'
              have : l * i.size + (m' - l) * i.size = m' * i.size := by rw [← Nat.add_mul]; congr 1; omega
              have h6 : m' * i.size ≤ cap * i.size := Nat.mul_le_mul_right _ h5
              omega
            · simp only [Instr.sliceAt, Instr.slice, Sem.run_bind, run_underlying hu, Result.andThen_ok, hr w, sizeOf_run hi', Sem.run_pure]
              by_cases hml : m' = l <;> simp [hml]
      · cases hv
    · cases hv
  · cases hv

theorem fieldOf_some {s : TypeId} {f : Nat} {x : Nat × Nat × Bool} (h : fieldOf P s f = some x) : ∃ fields fd, P.underlying s = some (.struct fields) ∧ fields[f]? = some fd ∧ ldTy P fd.type = some (x.2.1, x.2.2) ∧ x.2.1 ≠ 0 ∧ x.1 = fd.offset := by
  unfold fieldOf at h
  split at h
  · rename_i fields hu
    split at h
    · rename_i fd hf
      split at h
      · rename_i n row ht
        split at h
        · cases h
        · rename_i hn
          cases h
          exact ⟨fields, fd, hu, hf, ht, hn, rfl⟩
      · cases h
    · cases h
  · cases h
theorem fldAddr_sim {β : Bet} {s : TypeId} {f : Nat} {x v : V} {cx : Value} (hx : RelV β x cx) (hv : fldAddr P s f x = some v) : ∃ c, RelV β v c ∧ ∀ w, (Instr.fieldAt s cx f).run P w = .ok c w := by
  unfold fldAddr at hv
  split at hv
  · rename_i id off
    split at hv
    · cases hv
    · rename_i h0
      simp only [Option.map_eq_some_iff] at hv
      obtain ⟨y, hy, rfl⟩ := hv
      obtain ⟨fields, fd, hu, hf, ht, hn, ho⟩ := fieldOf_some hy
      obtain ⟨d, ti, hu', hi', hs, hr⟩ := ldTy_some ht
      rcases hx with ⟨h0', _⟩ | ⟨_, l, hb, rfl⟩
      · exact absurd h0' h0
      · refine ⟨_, .inr ⟨h0, l, hb, rfl⟩, fun w => ?_⟩
        have hs' : ¬ ti.size = 0 := by omega
        simp [Instr.fieldAt, run_underlying hu, hf, Instr.sureAddr, fieldPlace, sizeOf, typeInfo, hi', hs', Addr.add_mid, ho, Nat.add_assoc]
  · cases hv
theorem fldV_sim {β : Bet} {s : TypeId} {f : Nat} {x v : V} {cx : Value} (hx : RelV β x cx) (hv : fldV P s f x = some v) : ∃ c, RelV β v c ∧ ∀ w, (Instr.field s cx f).run P w = .ok c w := by
  unfold fldV at hv
  split at hv
  · rename_i cs
    simp only [Option.bind_eq_some_iff] at hv
    obtain ⟨y, hy, hp⟩ := hv
    obtain ⟨fields, fd, hu, hf, ht, hn, ho⟩ := fieldOf_some hy
    obtain ⟨cs', rfl, hr⟩ := hx
    obtain ⟨c, h1, h2⟩ := part_rel ht hr hp
    refine ⟨c, h1.toV, fun w => ?_⟩
    simp [Instr.field, run_underlying hu, hf, asAgg, ← ho, h2]
  · cases hv
theorem elemOf_some {t : TypeId} {x : TypeId × Nat × Nat} (h : elemOf' P t = some x) : ∃ i, P.underlying t = some (.slice x.1) ∧ P.info? x.1 = some i ∧ i.size = x.2.1 ∧ i.bytes = x.2.2 ∧ 0 < x.2.1 := by
  unfold elemOf' at h
  split at h
  · rename_i e hu
    split at h
    · rename_i i hi
      split at h
      · rename_i hp
        cases h; exact ⟨i, hu, hi, rfl, rfl, hp⟩
      · cases h
    · cases h
  · cases h
theorem idxAddr_sim {β : Bet} {t : TypeId} {x y v : V} {cx cy : Value} (hx : RelV β x cx) (hy : RelV β y cy) (hv : idxAddr P t x y = some v) : ∃ c, RelV β v c ∧ ∀ w, (Instr.indexAt t cx cy).run P w = .ok c w := by
  unfold idxAddr at hv
  split at hv
  · rename_i z id off len k n
    simp only [Option.bind_eq_some_iff] at hv
    obtain ⟨e, he, hv⟩ := hv
    obtain ⟨i, hu, hi, hs, _, _⟩ := elemOf_some he
    split at hv
    · rename_i hn
      cases hv; cases hy
      rcases hx with ⟨_, _, rfl, rfl⟩ | ⟨hne, l, ad, cap, hb, rfl, hcap, ha, hstr⟩
      · omega
      · obtain ⟨rfl, hroom⟩ := ha (by omega)
        refine ⟨_, .inr ⟨hne, l, hb, rfl⟩, fun w => ?_⟩
        simp [Instr.indexAt, asIntOf, run_underlying hu, hn, sizeOf, typeInfo, hi, hs, Addr.add_mid, Nat.add_assoc]
    · cases hv
  · cases hv
theorem idxV_sim {β : Bet} {t : TypeId} {x y v : V} {cx cy : Value} (hx : RelV β x cx) (hy : RelV β y cy) (hv : idxV P t x y = some v) : ∃ c, RelV β v c ∧ ∀ w, (Instr.index t cx cy).run P w = .ok c w := by
  unfold idxV at hv
  split at hv
  · rename_i s k n hu
    split at hv
    · rename_i hn
      simp only [Option.map_eq_some_iff] at hv
      obtain ⟨b, hb, rfl⟩ := hv
      cases hx; cases hy
      refine ⟨_, rfl, fun w => ?_⟩
      simp [Instr.index, asIntOf, run_underlying hu, hn, hb]
    · cases hv
  · cases hv
theorem extV_sim {β : Bet} {x v : V} {i : Nat} {cx : Value} (hx : RelV β x cx) (hv : extV x i = some v) : ∃ c, RelV β v c ∧ ∀ w, (Instr.extract cx i).run P w = .ok c w := by
  unfold extV at hv
  split at hv
  · rename_i vs
    obtain ⟨cs, rfl, hr⟩ := hx
    obtain ⟨c, h1, h2⟩ := hr.get hv
    exact ⟨c, h2.toV, fun w => by simp [Instr.extract, h1]⟩
  · cases hv
theorem lenV_sim {β : Bet} {t : TypeId} {x v : V} {cx : Value} (hx : RelV β x cx) (hv : lenV P t x = some v) : ∃ c, RelV β v c ∧ ∀ (ts : List TypeId) (ty : TypeId) w, (Builtin.len_ (t :: ts).toArray ty #[cx]).run P w = .ok c w := by
  unfold lenV at hv
  split at hv
  · rename_i s hu
    cases hx; cases hv
    exact ⟨_, rfl, fun ts ty w => by simp [Builtin.len_, run_underlying hu, goInt]⟩
  · rename_i e z id off n hu
    cases hv
    rcases hx with ⟨_, _, rfl, rfl⟩ | ⟨_, l, a, cap, _, rfl, _⟩
    · exact ⟨_, rfl, fun ts ty w => by simp [Builtin.len_, run_underlying hu, goInt]⟩
    · exact ⟨_, rfl, fun ts ty w => by simp [Builtin.len_, run_underlying hu, goInt]⟩
  · cases hv
end Go.Proofs.Ythoabddfionmoaa.AH
