/- Two functions of the library as words of their own: slices.Insert, slices.Delete. No condition. -/
import Derived.Test.YthoabddfionmoaaAF
set_option linter.unusedVariables false
set_option linter.unusedSimpArgs false
namespace Go.Proofs.Ythoabddfionmoaa.AH
open Go Go.RowKit
def insP (size bytes : Nat) : List V → H → Option (V × H)
  | [s, i, x], h => match s, i, x with
    | .sl ez id off len, .int .i64 i, .sl xz xid xoff xlen => (srcL h size (.sl xz xid xoff xlen)).bind fun y =>
      if 0 ≤ i ∧ i ≤ (len : Int) then
        if xlen = 0 then some (.sl ez id off len, h) else
        if xid ≠ id ∧ h.lo ≤ xid ∧ xid ≠ 0 ∧ xz = size ∧ size ≠ 1 ∧ (len + y.1) * bytes ≤ 140737488355328 ∧ len + y.1 ≤ 4611686018427387904 ∧ (id = 0 ∧ len = 0 ∨ (h.blk id).alive = true ∧ h.lo ≤ id ∧ id ≠ 0 ∧ ez = size) then
          (if len = 0 then some [] else h.load id off (len * size)).bind fun olds => some (.sl size h.next 0 (len + y.1), (h.new (olds.take (i.toNat * size) ++ y.2 ++ olds.drop (i.toNat * size))).kill id)
        else none
      else none
    | _, _, _ => none
  | _, _ => none
def delP (size : Nat) : List V → H → Option (V × H)
  | [s, i, j], h => match s, i, j with
    | .sl ez id off len, .int .i64 i, .int .i64 j =>
      if 0 ≤ i ∧ i ≤ j ∧ j ≤ (len : Int) then
        if i = j then some (.sl ez id off len, h) else
        if (h.blk id).alive = true ∧ h.lo ≤ id ∧ id ≠ 0 ∧ ez = size then
          (h.load id off (len * size)).bind fun olds => some (.sl size h.next 0 (len - (j.toNat - i.toNat)), (h.new (olds.take (i.toNat * size) ++ olds.drop (j.toNat * size))).kill id)
        else none
      else none
    | _, _, _ => none
  | _, _ => none
section
variable {α : Type} [Enc α]
theorem insP_sl {l m : List α} {h : H} {z id off z' id' off' bytes i : Nat} (hk : Hok h) (s : Sl l h z id off) (own : id = 0 ∨ h.lo ≤ id) (s' : Sl m h z' id' off') (hm : m ≠ []) (hx : id' ≠ id) (hxo : h.lo ≤ id') (h1 : Enc.sz α ≠ 1)
    (hi : i ≤ l.length) (hb : (l.length + m.length) * bytes ≤ 140737488355328) (hn : l.length + m.length ≤ 4611686018427387904) :
    ∃ h', insP (Enc.sz α) bytes [.sl z id off l.length, .int .i64 i, .sl z' id' off' m.length] h = some (.sl (Enc.sz α) h.next 0 (l.take i ++ m ++ l.drop i).length, h') ∧ Fr [id] h h' ∧ Sl (l.take i ++ m ++ l.drop i) h' (Enc.sz α) h.next 0 ∧ h'.next = h.next + 1 := by
  have hml : 0 < m.length := List.length_pos_iff.2 hm
  rcases s' with s' | s'
  · exact absurd s'.2 hm
  have hsz := Enc.pos (α := α)
  have hne : ¬ m.length * Enc.sz α = 0 := Nat.ne_of_gt (Nat.mul_pos hml hsz)
  have e1 : srcL h (Enc.sz α) (.sl z' id' off' m.length) = some (m.length, flat m) := by
    simp only [srcL, if_neg s'.1, if_neg hne]
    rw [load_eq, s'.2.2.2]; rfl
  have hc : id' ≠ id ∧ h.lo ≤ id' ∧ id' ≠ 0 ∧ z' = Enc.sz α ∧ Enc.sz α ≠ 1 ∧ (l.length + m.length) * bytes ≤ 140737488355328 ∧ l.length + m.length ≤ 4611686018427387904 ∧ (id = 0 ∧ l.length = 0 ∨ (h.blk id).alive = true ∧ h.lo ≤ id ∧ id ≠ 0 ∧ z = Enc.sz α) := by
    refine ⟨hx, hxo, s'.1, s'.2.1, h1, hb, hn, ?_⟩
    rcases s with s | s
    · exact .inl ⟨s.1, by rw [s.2]; rfl⟩
    · exact .inr ⟨(bload_alive s.2.2.2).1, own.resolve_left s.1, s.1, s.2.1⟩
  have e2 : (if l.length = 0 then some [] else h.load id off (l.length * Enc.sz α)) = some (flat l) := by
    split
    · rename_i h0; rw [List.length_eq_zero_iff.1 h0]; rfl
    · rename_i h0
      rcases s with s | s
      · rw [s.2] at h0; exact absurd rfl h0
      · rw [load_eq]; exact s.2.2.2
  have hl : (l.take i ++ m ++ l.drop i).length = l.length + m.length := by
    simp only [List.length_append, List.length_take, List.length_drop]; omega
  refine ⟨(h.new ((flat l).take (i * Enc.sz α) ++ flat m ++ (flat l).drop (i * Enc.sz α))).kill id, ?_, ?_, ?_, rfl⟩
  · have hi' : (0 : Int) ≤ (i : Int) ∧ (i : Int) ≤ (l.length : Int) := ⟨by omega, by omega⟩
    simp only [insP, e1, Option.bind_some, if_neg (Nat.ne_of_gt hml), e2, hl, if_pos hi', Int.toNat_natCast]
    rw [if_pos hc]
  · exact (Fr.refl _ _).new _ |>.kill (.inl (by simp))
  · refine .inr ⟨by have := hk.1; have := hk.2; omega, rfl, by simp, ?_⟩
    have hid : h.next ≠ id := by
      rcases s with s | s
      · have := hk.1; have := hk.2; omega
      · have := s.2.2.1; omega
    rw [flat_take, flat_drop, ← flat_append, ← flat_append]
    rw [blk_kill, if_neg hid, blk_new, if_pos rfl, bload_mk _ _ _ _ (by rw [flat_len]; omega)]
    rw [List.drop_zero, List.take_of_length_le (by rw [flat_len]; exact Nat.le_refl _)]
theorem delP_sl {l : List α} {h : H} {z id off i j : Nat} (hk : Hok h) (s : Sl l h z id off) (own : id = 0 ∨ h.lo ≤ id)
    (hi : i < j) (hj : j ≤ l.length) :
    ∃ h', delP (Enc.sz α) [.sl z id off l.length, .int .i64 i, .int .i64 j] h = some (.sl (Enc.sz α) h.next 0 (l.take i ++ l.drop j).length, h') ∧ Fr [id] h h' ∧ Sl (l.take i ++ l.drop j) h' (Enc.sz α) h.next 0 ∧ h'.next = h.next + 1 := by
  rcases s with s | s
  · rw [s.2] at hj; simp at hj; omega
  have hl : (l.take i ++ l.drop j).length = l.length - (j - i) := by
    simp only [List.length_append, List.length_take, List.length_drop]; omega
  refine ⟨(h.new ((flat l).take (i * Enc.sz α) ++ (flat l).drop (j * Enc.sz α))).kill id, ?_, ?_, ?_, rfl⟩
  · have hi' : (0 : Int) ≤ (i : Int) ∧ (i : Int) ≤ (j : Int) ∧ (j : Int) ≤ (l.length : Int) := ⟨by omega, by omega, by omega⟩
    have hij : ¬ (i : Int) = (j : Int) := by omega
    have hc : (h.blk id).alive = true ∧ h.lo ≤ id ∧ id ≠ 0 ∧ z = Enc.sz α := ⟨(bload_alive s.2.2.2).1, own.resolve_left s.1, s.1, s.2.1⟩
    simp only [delP, if_pos hi', if_neg hij, load_eq, s.2.2.2, Option.bind_some, hl, Int.toNat_natCast]
    rw [if_pos hc]
  · exact (Fr.refl _ _).new _ |>.kill (.inl (by simp))
  · refine .inr ⟨by have := hk.1; have := hk.2; omega, rfl, by simp, ?_⟩
    have hid : h.next ≠ id := by have := s.2.2.1; omega
    rw [flat_take, flat_drop, ← flat_append]
    rw [blk_kill, if_neg hid, blk_new, if_pos rfl, bload_mk _ _ _ _ (by rw [flat_len]; omega)]
    rw [List.drop_zero, List.take_of_length_le (by rw [flat_len]; exact Nat.le_refl _)]
end
end Go.Proofs.Ythoabddfionmoaa.AH
