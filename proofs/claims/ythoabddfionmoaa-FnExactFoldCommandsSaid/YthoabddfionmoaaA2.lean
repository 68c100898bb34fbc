/- The operations that write nothing, held against the model. No condition. -/
import Derived.Test.YthoabddfionmoaaA1
import Derived.Laws.BytesArg
set_option linter.unusedVariables false
set_option linter.unusedSimpArgs false
namespace Go.Proofs.Ythoabddfionmoaa.AH
open Go Go.RowKit
variable {P : Program}

theorem ofC_rel (β : Bet) {c : Value} {v : V} (h : ofC c = some v) : RelC β v c := by
  unfold ofC at h
  split at h <;> cases h <;> simp [RelC]
theorem ofCs_rel (β : Bet) : ∀ {cs : List Value} {vs : List V}, ofCs cs = some vs → All2 (RelC β) vs cs
  | [], vs, h => by simp [ofCs] at h; subst h; trivial
  | c :: r, vs, h => by
    simp only [ofCs, Option.bind_eq_some_iff, Option.map_eq_some_iff] at h
    obtain ⟨v, hv, us, hus, rfl⟩ := h
    exact ⟨ofC_rel β hv, ofCs_rel β hus⟩
theorem ofV_rel (β : Bet) {c : Value} {v : V} (h : ofV c = some v) : RelV β v c := by
  unfold ofV at h
  split at h
  · simp only [Option.map_eq_some_iff] at h
    obtain ⟨vs, hvs, rfl⟩ := h
    exact ⟨_, by simp, ofCs_rel β hvs⟩
  · exact (ofC_rel β h).toV
theorem opd_rel {β : Bet} {E : Env} {a : Act} (hE : RelE β E a.tmps) {x : Operand} {v : V} (h : opd E x = some v) : RelV β v (a.eval x) := by
  cases x with
  | tmp t =>
    obtain ⟨c, h1, h2⟩ := hE t v h
    simpa [Act.eval, h1] using h2
  | const c => exact ofV_rel β h
  | global g => cases h
  | func f => cases h; exact ⟨[], rfl, trivial⟩

/-- The step comes to a value that fits, in every world in which what it reads is as it is; it writes nothing. -/
def Sim (P : Program) (β : Bet) (h : H) (w : World) (rs : List (Nat × Nat × Nat)) (s : Sem Value) (v : V) : Prop :=
  ∃ c, RelV β v c ∧ ∀ w', AgreeR β h w w' rs → s.run P w' = .ok c w'

theorem eqGuard_int (op : BinOp) (t : TypeId) (x y : Operand) (a b : Value) (w : World) (h : (∀ cs, a ≠ .agg cs) ∧ a ≠ .nilIface) : (eqGuard op t x y a b).run P w = .ok () w := by
  unfold eqGuard
  cases op <;> simp [pure] <;> (cases a <;> simp_all)

theorem ldTy_some {t : TypeId} {n : Nat} {row : Bool} (h : ldTy P t = some (n, row)) : ∃ d i, P.underlying t = some d ∧ P.info? t = some i ∧ i.size = n ∧ d.isRow = row := by
  unfold ldTy at h
  split at h
  · rename_i d i h1 h2
    cases h; exact ⟨d, i, h1, h2, rfl, rfl⟩
  · cases h

theorem isAgg_run {t : TypeId} {d : TypeDesc} (hu : P.underlying t = some d) (w : World) : (isAgg t).run P w = .ok d.isRow w := by
  unfold isAgg
  rw [Sem.run_bind, run_underlying hu w]
  cases d <;> simp [TypeDesc.isRow, pure]
theorem sizeOf_run {t : TypeId} {i : TypeInfo} (hi : P.info? t = some i) (w : World) : (sizeOf t).run P w = .ok i.size w := by
  simp [sizeOf, typeInfo, hi]

theorem part_rel {β : Bet} {t : TypeId} {n : Nat} {row : Bool} (ht : ldTy P t = some (n, row)) {cs : List V} {cs' : List Value} (hc : All2 (RelC β) cs cs') {off : Nat} {v : V} (hp : partV n row cs off = some v) :
    ∃ c, RelA β v c ∧ ∀ w, (part t cs'.toArray off).run P w = .ok c w := by
  obtain ⟨d, i, hu, hi, rfl, rfl⟩ := ldTy_some ht
  unfold partV at hp
  split at hp
  · rename_i hr
    split at hp
    · cases hp
      refine ⟨_, ⟨_, rfl, (hc.drop off).take i.size⟩, fun w => ?_⟩
      unfold part
      simp only [Sem.run_bind, isAgg_run hu, Result.andThen_ok, hr, if_true, sizeOf_run hi, Sem.run_pure]
      congr 2
      apply Array.ext'
      simp [List.extract_eq_take_drop]
    · cases hp
  · rename_i hr
    obtain ⟨c, h1, h2⟩ := hc.get hp
    refine ⟨c, h2.toA, fun w => ?_⟩
    unfold part
    have hr' : d.isRow = false := by simpa using hr
    simp only [Sem.run_bind, isAgg_run hu, Result.andThen_ok, hr']
    simp [h1]

theorem fields_run {β : Bet} (eq : TypeId → V → V → Option Bool) (d : Nat) (heq : ∀ t x y b cx cy, eq t x y = some b → RelA β x cx → RelA β y cy → ∀ w, (Op.equalIn d t cx cy).run P w = .ok b w)
    {xs ys : List V} {xs' ys' : List Value} (hx : All2 (RelC β) xs xs') (hy : All2 (RelC β) ys ys') : ∀ (fs : List Field) (b : Bool), eqFields P eq xs ys fs = some b → ∀ w, ∃ r : Option Bool × Unit,
    (forIn fs ((none, ()) : Option Bool × Unit) fun f r => do
        if f.name ≠ "_" then
          if !(← Op.equalIn d f.type (← part f.type xs'.toArray f.offset) (← part f.type ys'.toArray f.offset)) then pure (ForInStep.done (some false, ()))
          else pure (ForInStep.yield (none, ()))
        else pure (ForInStep.yield (none, ())) : Sem (Option Bool × Unit)).run P w = .ok r w ∧ (r = (some b, ()) ∨ r = (none, ()) ∧ b = true)
  | [], b, h, w => by simp [eqFields] at h; subst h; exact ⟨_, by simp, .inr ⟨rfl, rfl⟩⟩
  | f :: r, b, h, w => by
    unfold eqFields at h
    split at h
    · rename_i hn
      obtain ⟨q, h1, h2⟩ := fields_run eq d heq hx hy r b h w
      refine ⟨q, ?_, h2⟩
      simp only [List.forIn_cons, hn]
      simpa using h1
    · rename_i hn
      split at h
      · rename_i n row ht
        simp only [Option.bind_eq_some_iff] at h
        obtain ⟨x, hpx, y, hpy, b1, hb1, h⟩ := h
        obtain ⟨cx, rx, hrx⟩ := part_rel ht hx hpx
        obtain ⟨cy, ry, hry⟩ := part_rel ht hy hpy
        have h1 := heq _ _ _ _ _ _ hb1 rx ry
        simp only [List.forIn_cons]
        cases b1 with
        | true =>
          obtain ⟨q, h3, h4⟩ := fields_run eq d heq hx hy r b h w
          refine ⟨q, ?_, h4⟩
          simpa [hn, hrx, hry, h1] using h3
        | false => cases h; exact ⟨_, by simp [hn, hrx, hry, h1], .inl rfl⟩
      · cases h

theorem eqV_sim {β : Bet} : ∀ (d : Nat) (t : TypeId) (x y : V) (b : Bool) (cx cy : Value), eqV P d t x y = some b → RelA β x cx → RelA β y cy → ∀ w, (Op.equalIn d t cx cy).run P w = .ok b w
  | 0, t, x, y, b, cx, cy, h, _, _, _ => by cases h
  | d + 1, t, x, y, b, cx, cy, h, hx, hy, w => by
    unfold eqV at h
    split at h
    · rename_i hu
      cases hx; cases hy; cases h
      simp [Op.equalIn, run_underlying hu]
    · rename_i k1 k2 a k3 a' hu
      split at h
      · rename_i hk; subst hk
        cases hx; cases hy; cases h
        simp [Op.equalIn, run_underlying hu]
      · cases h
    · rename_i hu
      cases hx; cases hy; cases h
      simp [Op.equalIn, run_underlying hu]
    · rename_i e z a oa la z' a' ob lb hu
      split at h
      · rename_i h0; subst h0
        cases h
        rcases hx with ⟨_, _, _, rfl⟩ | ⟨hne, _⟩
        · rcases hy with ⟨rfl, _, _, rfl⟩ | ⟨hne, l, ad, cap, _, rfl, _⟩
          · simp [Op.equalIn, run_underlying hu]
          · simp [Op.equalIn, run_underlying hu, hne]
        · exact absurd rfl hne
      · rename_i h0
        split at h
        · rename_i h1; subst h1
          cases h
          rcases hx with ⟨he, _⟩ | ⟨_, l, ad, cap, _, rfl, _⟩
          · exact absurd he h0
          · rcases hy with ⟨_, _, _, rfl⟩ | ⟨hne, _⟩
            · simp [Op.equalIn, run_underlying hu]
            · exact absurd rfl hne
        · cases h
    · rename_i e a oa a' ob hu
      split at h
      · rename_i h0; subst h0
        cases h
        rcases hx with ⟨_, _, rfl⟩ | ⟨hne, _⟩
        · rcases hy with ⟨rfl, _, rfl⟩ | ⟨hne, l, _, rfl⟩
          · simp [Op.equalIn, run_underlying hu]
          · simp [Op.equalIn, run_underlying hu, hne]
        · exact absurd rfl hne
      · rename_i h0
        split at h
        · rename_i h1; subst h1
          cases h
          rcases hx with ⟨he, _⟩ | ⟨_, l, _, rfl⟩
          · exact absurd he h0
          · rcases hy with ⟨_, _, rfl⟩ | ⟨hne, _⟩
            · simp [Op.equalIn, run_underlying hu]
            · exact absurd rfl hne
        · cases h
    · rename_i fields xs ys hu
      split at h
      · cases h
      · rename_i hst
        obtain ⟨xs', rfl, rx⟩ := hx
        obtain ⟨ys', rfl, ry⟩ := hy
        have := fields_run (eqV P d) d (fun t x y b cx cy h hx hy w => eqV_sim d t x y b cx cy h hx hy w) rx ry fields.toList b h w
        have hst' : P.stoodInHeld t = false := by simpa using hst
        unfold Op.equalIn
        simp only [Sem.run_bind, run_underlying hu, Result.andThen_ok, run_program, hst', ← Array.forIn_toList]
        obtain ⟨r, h1, h2⟩ := this
        simp only [Bool.false_eq_true, if_false, Sem.run_bind, Sem.run_pure, Result.andThen_ok]
        rw [h1]
        rcases h2 with rfl | ⟨rfl, rfl⟩ <;> rfl
    · cases h
end Go.Proofs.Ythoabddfionmoaa.AH
