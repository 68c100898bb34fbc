/- The operations that write nothing, the rest and all together. No condition. -/
import Derived.Test.YthoabddfionmoaaA3
set_option linter.unusedVariables false
set_option linter.unusedSimpArgs false
namespace Go.Proofs.Ythoabddfionmoaa.AH
open Go Go.RowKit
variable {P : Program}

theorem bytesOf_nums {β : Bet} : ∀ {cs : List V} {l : List UInt8} {cs' : List Value}, bytesOf cs = some l → All2 (RelC β) cs cs' → ∃ xs : List Int, cs' = xs.map (Value.int .u8) ∧ l = xs.map fun n => UInt8.ofNat n.toNat
  | [], l, [], h, _ => by simp [bytesOf] at h; subst h; exact ⟨[], rfl, rfl⟩
  | v :: r, l, c :: cs', h, hr => by
    simp only [bytesOf, Option.bind_eq_some_iff, Option.map_eq_some_iff] at h
    obtain ⟨b, hb, l', hl', rfl⟩ := h
    obtain ⟨xs, rfl, rfl⟩ := bytesOf_nums hl' hr.2
    unfold byteOfV at hb
    split at hb
    · rename_i n
      cases hb
      have := hr.1; simp only [RelC] at this; subst this
      exact ⟨n :: xs, rfl, rfl⟩
    · cases hb
  | [], l, _ :: _, _, h => h.elim
  | _ :: _, l, [], _, h => h.elim

theorem cvV_sim {B : Nat} {β : Bet} {h : H} {w : World} (hH : RelH B β h w) {s d : TypeId} {x v : V} {cx : Value} (hx : RelV β x cx) (hv : cvV P h s d x = some v) (E : Env) (i : Nat) (o : Operand) (ho : opd E o = some x) :
    ∃ c, RelV β v c ∧ ∀ w', AgreeR β h w w' (readsOf E h i (.convert s d o)) → (convert s d cx).run P w' = .ok c w' := by
  unfold cvV at hv
  split at hv
  · rename_i k k0 n hs hd
    cases hx; cases hv
    refine ⟨_, rfl, fun w' _ => ?_⟩
    simp [convert, run_underlying hs, run_underlying hd, Conv.intToInt]
  · rename_i b hs hd
    cases hx; cases hv
    refine ⟨_, rfl, fun w' _ => ?_⟩
    simp [convert, run_underlying hs, run_underlying hd]
  · rename_i e z id off len hs hd
    split at hv
    · rename_i he
      split at hv
      · rename_i h0; subst h0
        cases hv
        rcases hx with ⟨_, _, rfl, rfl⟩ | ⟨hne, _⟩
        · exact ⟨_, rfl, fun w' _ => run_convert_bytes_nil w' s e hs he 0 0 d hd⟩
        · exact absurd rfl hne
      · rename_i h0
        rcases hx with ⟨h0', _⟩ | ⟨_, l, a, cap, hb, rfl, hcap, ha, hstr⟩
        · exact absurd h0' h0
        · split at hv
          · rename_i hl; subst hl
            cases hv
            refine ⟨_, rfl, fun w' _ => ?_⟩
            obtain ⟨ab, ao, asp⟩ := a
            rw [run_convert_bytes_string w' s d e _ 0 cap hs he hd, run_bytesToString w' _ 0 cap [] (by simp [loadCells, loadCellsFrom])]
            rfl
          · rename_i hl
            simp only [Option.bind_eq_some_iff, Option.map_eq_some_iff] at hv
            obtain ⟨cs, hcs, bs, hbs, rfl⟩ := hv
            obtain ⟨hlen, l', cs', hb', hne, hrange, hrel, hag⟩ := load_rel hH hcs
            rw [hb] at hb'; cases hb'
            obtain ⟨xs, rfl, rfl⟩ := bytesOf_nums hbs hrel
            obtain ⟨rfl, _⟩ := ha (by omega)
            refine ⟨_, rfl, fun w' hw => ?_⟩
            have hr := hag w' (hw (i, id, (h.blk id).ver) (by simp [readsOf, ho, hl, h0]) l hb)
            have hxl : xs.length = len := by have := hrel.length; simp [hlen] at this; omega
            rw [run_convert_bytes_arg w' s e hs he l.b (l.base + off) len cap xs hxl (fun j hj => by
              refine hr j _ ?_
              simp [List.getElem?_eq_getElem (show j < xs.length by omega), List.getD_eq_getElem?_getD]) d hd]
            rfl
    · cases hv
  · cases hv

theorem bound_sim {β : Bet} {E : Env} {a : Act} (hE : RelE β E a.tmps) {x : Operand} {most n : Nat} {code : BoundsCode} {d : Nat} (h : bound E (some x) d most = some n) (w : World) :
    (Instr.sliceBound (a.eval x) most code).run P w = .ok n w ∧ n ≤ most := by
  unfold bound at h
  simp only at h
  split at h
  · rename_i k m hm
    have := opd_rel hE hm
    split at h
    · rename_i hc
      cases h
      have hcx : a.eval x = .int k m := this
      refine ⟨?_, by omega⟩
      simp [Instr.sliceBound, hcx, asIntOf, hc]
    · cases h
  · cases h

theorem bounds_sim {β : Bet} {E : Env} {a : Act} (hE : RelE β E a.tmps) {lo hi mx : Option Operand} {isS : Bool} {len cap l h m : Nat} (hcap : len ≤ cap) (hm : bound E mx len len = some m) (hmh : (mx.isSome && hi.isNone) = false)
    (hh : bound E hi len m = some h) (hl : bound E lo 0 h = some l) (w : World) :
    ∃ m', (Instr.sliceBounds isS len cap (lo.map a.eval) (hi.map a.eval) (mx.map a.eval)).run P w = .ok (l, h, m') w ∧ l ≤ h ∧ h ≤ m ∧ m ≤ len ∧ h ≤ m' ∧ m' ≤ cap := by
  have hb : ∀ {x : Operand} {most n : Nat} {code : BoundsCode} {d mm : Nat}, bound E (some x) d most = some n → most ≤ mm → (Instr.sliceBound (a.eval x) mm code).run P w = .ok n w ∧ n ≤ most := by
    intro x most n code d mm h hle
    have h' : bound E (some x) d mm = some n := by
      unfold bound at h ⊢; simp only at h ⊢
      split at h
      · rename_i k q hq; split at h
        · rename_i hc; rw [if_pos (by omega)]; exact h
        · cases h
      · cases h
    exact ⟨(bound_sim hE h' w).1, (bound_sim (P := P) (code := code) hE h w).2⟩
  have hL : ∀ code, ((match lo.map a.eval with | some v => Instr.sliceBound v h code | none => pure 0 : Sem Nat)).run P w = .ok l w ∧ l ≤ h := fun code => by
    cases lo with
    | none => simp [bound] at hl; subst hl; simp
    | some x => exact hb hl (Nat.le_refl _)
  unfold Instr.sliceBounds
  cases mx with
  | none =>
    simp [bound] at hm; subst hm
    cases hi with
    | none =>
      simp [bound] at hh; subst hh
      refine ⟨cap, ?_, (hL .index).2, Nat.le_refl _, Nat.le_refl _, hcap, Nat.le_refl _⟩
      cases lo with
      | none => simp [bound] at hl; subst hl; simp
      | some x => simp [(hb (code := .sliceB) hl (Nat.le_refl _)).1]
    | some y =>
      have hy := hb (code := if isS then .sliceAcap else .sliceAlen) hh hcap
      refine ⟨cap, ?_, (hL .index).2, hy.2, Nat.le_refl _, by omega, Nat.le_refl _⟩
      cases lo with
      | none => simp [bound] at hl; subst hl; simp [hy.1]
      | some x => simp [hy.1, (hb (code := .sliceB) hl (Nat.le_refl _)).1]
  | some z =>
    have hz := hb (code := if isS then .slice3Acap else .slice3Alen) hm hcap
    cases hi with
    | none => simp at hmh
    | some y =>
      have hy := hb (code := .slice3B) hh (Nat.le_refl _)
      refine ⟨m, ?_, (hL .index).2, hy.2, hz.2, hy.2, by omega⟩
      cases lo with
      | none => simp [bound] at hl; subst hl; simp [hz.1, hy.1]
      | some x => simp [hz.1, hy.1, (hb (code := .slice3C) hl (Nat.le_refl _)).1]
end Go.Proofs.Ythoabddfionmoaa.AH
