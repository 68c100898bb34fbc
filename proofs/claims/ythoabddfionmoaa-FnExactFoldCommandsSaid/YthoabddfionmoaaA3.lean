/- The operations that write nothing, one by one. No condition. -/
import Derived.Test.YthoabddfionmoaaA2
set_option linter.unusedVariables false
set_option linter.unusedSimpArgs false
namespace Go.Proofs.Ythoabddfionmoaa.AH
open Go Go.RowKit
variable {P : Program}

theorem ldV_sim {B : Nat} {β : Bet} {h : H} {w : World} (hH : RelH B β h w) {t : TypeId} {p : V} {v : V} {c : Value} (hp : RelV β p c) (hv : ldV P h t p = some v) (E : Env) (i : Nat) (x : Operand) (hx : opd E x = some p) :
    ∃ cv, RelV β v cv ∧ ∀ w', AgreeR β h w w' (readsOf E h i (.load t x)) → (Instr.loadAt t c).run P w' = .ok cv w' := by
  unfold ldV at hv
  split at hv
  · rename_i id off
    simp only [Option.bind_eq_some_iff] at hv
    obtain ⟨⟨n, row⟩, ht, hv⟩ := hv
    obtain ⟨d, ti, hu, hi, rfl, rfl⟩ := ldTy_some ht
    have hc : ∀ id0 : id ≠ 0, ∃ l, β id = some l ∧ c = .pointer (some ⟨l.b, l.base + off, none⟩) := fun id0 => by
      rcases hp with ⟨h0, _⟩ | ⟨_, h1⟩
      · exact absurd h0 id0
      · exact h1
    simp only at hv
    split at hv
    · rename_i hr
      simp only [Option.map_eq_some_iff] at hv
      obtain ⟨cs, hl, rfl⟩ := hv
      obtain ⟨hlen, l, cs', hb, hne, hrange, hrel, hag⟩ := load_rel hH hl
      obtain ⟨l', hb', rfl⟩ := hc hne
      rw [hb] at hb'; cases hb'
      refine ⟨.agg cs'.toArray, ⟨cs', rfl, hrel⟩, fun w' hw => ?_⟩
      exact run_loadAt_mid w' l.b (l.base + off) t cs' d (hag w' (hw (i, id, (h.blk id).ver) (by simp [readsOf, hx]) l hb)) hu hr (by rw [hi]; simp [← hrel.length, hlen])
    · rename_i hr
      simp only [Option.bind_eq_some_iff] at hv
      obtain ⟨cs, hl, hhd⟩ := hv
      obtain ⟨hlen, l, cs', hb, hne, hrange, hrel, hag⟩ := load_rel hH hl
      obtain ⟨l', hb', rfl⟩ := hc hne
      rw [hb] at hb'; cases hb'
      match cs, cs', hrel, hlen, hhd with
      | [x1], [c1], hrel, _, hhd =>
        simp at hhd; subst hhd
        refine ⟨c1, hrel.1.toV, fun w' hw => ?_⟩
        have hcell := hag w' (hw (i, id, (h.blk id).ver) (by simp [readsOf, hx]) l hb) 0 c1 rfl
        simp only [Nat.add_zero] at hcell
        have hr' : d.isRow = false := by simpa using hr
        simp only [Instr.loadAt, Instr.sureAddr, loadVar, Sem.run_bind, Sem.run_pure, Result.andThen_ok, isAgg_run hu, hr', Bool.false_eq_true, if_false, run_load, hcell]
  · cases hv

theorem binOp_eqs (op : BinOp) (t : TypeId) (x y : Operand) (a b : Value) (w : World) (he : op = .eql ∨ op = .neq) (ha : (∃ z, a = .bool z) ∨ (∃ z, a = .pointer z) ∨ (∃ z l c, a = .slice z l c)) (hb : (∃ z, b = .bool z) ∨ (∃ z, b = .pointer z) ∨ (∃ z l c, b = .slice z l c)) :
    (do eqGuard op t x y a b; binOp op t a b).run P w = ((Op.equal t a b).run P w).andThen fun r w' => .ok (.bool (if op = .eql then r else !r)) w' := by
  rcases he with rfl | rfl <;> rcases ha with ⟨z, rfl⟩ | ⟨z, rfl⟩ | ⟨z, l, c, rfl⟩ <;> rcases hb with ⟨z', rfl⟩ | ⟨z', rfl⟩ | ⟨z', l', c', rfl⟩ <;> simp [eqGuard, binOp]
theorem binOp_aggs (op : BinOp) (t : TypeId) (x y : Operand) (a b : Array Value) (w : World) (he : op = .eql ∨ op = .neq) (hg : P.eqGuardType P.depth t = false) :
    (do eqGuard op t x y (.agg a) (.agg b); binOp op t (.agg a) (.agg b)).run P w = ((Op.equal t (.agg a) (.agg b)).run P w).andThen fun r w' => .ok (.bool (if op = .eql then r else !r)) w' := by
  rcases he with rfl | rfl <;> simp [eqGuard, binOp, hg]

theorem intOp_sim {β : Bet} {op : BinOp} {t : TypeId} {k : IntKind} {a b : Int} {v : V} (ox oy : Operand) (hv : intOp op k a b = some v) :
    ∃ c, RelV β v c ∧ ∀ w, (do eqGuard op t ox oy (.int k a) (.int k b); binOp op t (.int k a) (.int k b)).run P w = .ok c w := by
  cases op <;> simp only [intOp] at hv
  case shl => cases hv
  case shr => cases hv
  case quo => split at hv
              · cases hv
              · rename_i hn; cases hv; exact ⟨_, rfl, fun w => by simp [eqGuard, binOp, Op.intDiv, hn]⟩
  case rem => split at hv
              · cases hv
              · rename_i hn; cases hv; exact ⟨_, rfl, fun w => by simp [eqGuard, binOp, Op.intDiv, hn]⟩
  all_goals first
    | (cases hv; done)
    | (cases hv; exact ⟨_, rfl, fun w => by simp [eqGuard, binOp, Op.intArith, Op.intBits, Op.intCmp]⟩)
theorem shOp_sim {β : Bet} {op : BinOp} {t : TypeId} {k k' : IntKind} {a b : Int} {v : V} (ox oy : Operand) (hv : shOp op k a b = some v) (ho : op = .shl ∨ op = .shr) :
    ∃ c, RelV β v c ∧ ∀ w, (do eqGuard op t ox oy (.int k a) (.int k' b); binOp op t (.int k a) (.int k' b)).run P w = .ok c w := by
  unfold shOp at hv
  split at hv
  · cases hv
  · rename_i hn
    rcases ho with rfl | rfl <;> (cases hv; exact ⟨_, rfl, fun w => by simp [eqGuard, binOp, Op.shift, hn]⟩)
theorem strOp_sim {β : Bet} {op : BinOp} {t : TypeId} {a b : ByteArray} {v : V} (ox oy : Operand) (hv : strOp op a b = some v) :
    ∃ c, RelV β v c ∧ ∀ w, (do eqGuard op t ox oy (.string a) (.string b); binOp op t (.string a) (.string b)).run P w = .ok c w := by
  cases op <;> simp only [strOp] at hv
  case add => split at hv
              · cases hv
              · rename_i hn
                cases hv
                refine ⟨_, rfl, fun w => ?_⟩
                simp only [eqGuard, binOp, Op.stringOp, Sem.run_bind]
                simp only [hn, if_false]
                simp
  all_goals first
    | (cases hv; done)
    | (cases hv; exact ⟨_, rfl, fun w => by simp [eqGuard, binOp, Op.stringOp]⟩)

theorem binV_sim {β : Bet} {op : BinOp} {t : TypeId} {x y : V} {v : V} {cx cy : Value} (hx : RelV β x cx) (hy : RelV β y cy) (ox oy : Operand) (hv : binV P op t x y = some v) :
    ∃ c, RelV β v c ∧ ∀ w, (do eqGuard op t ox oy cx cy; binOp op t cx cy).run P w = .ok c w := by
  unfold binV at hv
  split at hv
  case h_1 => cases hx; cases hy; exact shOp_sim ox oy hv (.inl rfl)
  case h_2 => cases hx; cases hy; exact shOp_sim ox oy hv (.inr rfl)
  case h_3 op k a k' b _ _ =>
    cases hx; cases hy
    split at hv
    · rename_i hk; subst hk; exact intOp_sim ox oy hv
    · cases hv
  case h_4 op a b => cases hx; cases hy; exact strOp_sim ox oy hv
  case h_5 a b =>
    split at hv
    · cases hv
    · rename_i hg
      simp only [Option.map_eq_some_iff] at hv
      obtain ⟨r, hr, rfl⟩ := hv
      have hrun := eqV_sim (β := β) _ _ _ _ _ cx cy hr hx hy
      obtain ⟨a', rfl, _⟩ := hx
      obtain ⟨b', rfl, _⟩ := hy
      exact ⟨_, rfl, fun w => by rw [binOp_aggs .eql t ox oy _ _ w (.inl rfl) (by simpa using hg)]; simp [Op.equal, hrun w]⟩
  case h_6 a b =>
    split at hv
    · cases hv
    · rename_i hg
      simp only [Option.map_eq_some_iff] at hv
      obtain ⟨r, hr, rfl⟩ := hv
      have hrun := eqV_sim (β := β) _ _ _ _ _ cx cy hr hx hy
      obtain ⟨a', rfl, _⟩ := hx
      obtain ⟨b', rfl, _⟩ := hy
      exact ⟨_, rfl, fun w => by rw [binOp_aggs .neq t ox oy _ _ w (.inr rfl) (by simpa using hg)]; simp [Op.equal, hrun w]⟩
  case h_13 => cases hv
  all_goals
    simp only [Option.map_eq_some_iff] at hv
    obtain ⟨r, hr, rfl⟩ := hv
    have hrun := eqV_sim (β := β) _ _ _ _ _ cx cy hr hx hy
    have ha : (∃ z, cx = .bool z) ∨ (∃ z, cx = .pointer z) ∨ (∃ z l c, cx = .slice z l c) := by
      first
        | exact .inl ⟨_, hx⟩
        | (rcases hx with ⟨_, _, rfl⟩ | ⟨_, l, _, rfl⟩ <;> exact .inr (.inl ⟨_, rfl⟩))
        | (rcases hx with ⟨_, _, _, rfl⟩ | ⟨_, l, a, cap, _, rfl, _⟩ <;> exact .inr (.inr ⟨_, _, _, rfl⟩))
    have hb : (∃ z, cy = .bool z) ∨ (∃ z, cy = .pointer z) ∨ (∃ z l c, cy = .slice z l c) := by
      first
        | exact .inl ⟨_, hy⟩
        | (rcases hy with ⟨_, _, rfl⟩ | ⟨_, l, _, rfl⟩ <;> exact .inr (.inl ⟨_, rfl⟩))
        | (rcases hy with ⟨_, _, _, rfl⟩ | ⟨_, l, a, cap, _, rfl, _⟩ <;> exact .inr (.inr ⟨_, _, _, rfl⟩))
    first
      | exact ⟨_, rfl, fun w => by rw [binOp_eqs .eql t ox oy _ _ w (.inl rfl) ha hb]; simp [Op.equal, hrun w]⟩
      | exact ⟨_, rfl, fun w => by rw [binOp_eqs .neq t ox oy _ _ w (.inr rfl) ha hb]; simp [Op.equal, hrun w]⟩

theorem unV_sim {β : Bet} {op : UnOp} {x v : V} {cx : Value} (hx : RelV β x cx) (hv : unV op x = some v) : ∃ c, RelV β v c ∧ ∀ w, (Op.unary op cx).run P w = .ok c w := by
  unfold unV at hv
  split at hv <;> (try (cases hv; done)) <;> (cases hx; cases hv; exact ⟨_, rfl, fun w => by simp [Op.unary, Op.intArith, Op.intBits]⟩)
end Go.Proofs.Ythoabddfionmoaa.AH
