/- What slices.Insert and slices.Delete do to cells, in the words of the abstract heap. No condition. -/
import Derived.Test.YthoabddfionmoaaAG
import Derived.Lib.AppendZerosOnto
import Derived.Lib.Overlaps
import Derived.Lib.SlicesDelete
import Derived.Laws.IdiomCopy
set_option linter.unusedVariables false
set_option linter.unusedSimpArgs false
namespace Go.Proofs.Ythoabddfionmoaa.AH
open Go Go.RowKit Go.Lib

/-! ### Worlds -/
theorem setCell_comm (w : World) (b o1 o2 : Nat) (x y : Value) (hne : o1 ≠ o2) : (w.setCell ⟨b, o1, none⟩ x).setCell ⟨b, o2, none⟩ y = (w.setCell ⟨b, o2, none⟩ y).setCell ⟨b, o1, none⟩ x := by
  unfold World.setCell
  simp only [Option.isSome_none, Bool.false_eq_true, if_false]
  congr 1
  apply Array.ext_getElem?
  intro k
  simp only [Array.getElem?_modify]
  by_cases hk : b = k
  · subst hk
    simp only [if_true]
    cases hq : w.heap[b]? with
    | none => rfl
    | some ob =>
      cases ob with
      | cells c e f =>
        simp only [Option.map_some]
        congr 2
        apply Array.ext_getElem?
        intro j
        simp only [Array.getElem?_setIfInBounds, Array.size_setIfInBounds]
        by_cases h1 : o1 = j <;> by_cases h2 : o2 = j <;> simp [h1, h2]
        omega
      | _ => rfl
  · simp [hk]
theorem setCells_setCell (b : Nat) : ∀ (vs : List Value) (o o2 : Nat) (w : World) (y : Value), (o2 < o ∨ o + vs.length ≤ o2) → (w.setCells b o vs).setCell ⟨b, o2, none⟩ y = (w.setCell ⟨b, o2, none⟩ y).setCells b o vs
  | [], _, _, _, _, _ => rfl
  | v :: r, o, o2, w, y, h => by
    simp only [List.length_cons] at h
    rw [World.setCells, World.setCells, setCells_setCell b r (o + 1) o2 _ y (by omega), setCell_comm w b o o2 v y (by omega)]
theorem setCells_comm (b : Nat) : ∀ (xs ys : List Value) (o1 o2 : Nat) (w : World), (o1 + xs.length ≤ o2) → (w.setCells b o2 ys).setCells b o1 xs = (w.setCells b o1 xs).setCells b o2 ys
  | [], _, _, _, _, _ => rfl
  | x :: xs, ys, o1, o2, w, h => by
    simp only [List.length_cons] at h
    rw [World.setCells, World.setCells, setCells_setCell b ys o2 o1 w x (by omega), setCells_comm b xs ys (o1 + 1) o2 _ (by omega)]
theorem setCells_app (b : Nat) : ∀ (xs ys : List Value) (o : Nat) (w : World), w.setCells b o (xs ++ ys) = (w.setCells b o xs).setCells b (o + xs.length) ys
  | [], _, _, _ => rfl
  | x :: xs, ys, o, w => by
    rw [List.cons_append, World.setCells, World.setCells, setCells_app b xs ys, List.length_cons]
    congr 1; omega
theorem drew_setCells (b : Nat) : ∀ (vs : List Value) (o : Nat) (w : World), (w.setCells b o vs).drew = w.drew.setCells b o vs
  | [], _, _ => rfl
  | v :: r, o, w => by rw [World.setCells, World.setCells, drew_setCells b r]; rfl
/-- copy, at elements of any size: all is read before anything is written. -/
theorem run_copyN {P : Program} (w : World) (dT sT ty elem : TypeId) (sz : Nat) (b o dLen dCap : Nat) (a : Addr) (sLen sCap n : Nat) (cs : List Value)
    (hu : P.underlying dT = some (.slice elem)) (hs : (P.info? elem).map (·.size) = some sz) (hn : Nat.min sLen dLen = n) (hl : cs.length = n * sz)
    (hsrc : ∀ j v, cs[j]? = some v → w.cell? (a.add j) = some v) (hc : ∀ j, j < cs.length → (w.cell? ⟨b, o + j, none⟩).isSome = true) (hf : ∀ j, j < cs.length → w.frozen? ⟨b, o + j, none⟩ = false) (h1 : ∀ v ∈ cs, v.oneCell' = true) :
    (Builtin.copy_ #[dT, sT] ty #[.slice (some ⟨b, o, none⟩) dLen dCap, .slice (some a) sLen sCap]).run P w = .ok (goInt n) (w.setCells b o cs) := by
  have hl' := run_firstCells_some (P := P) w sz n a sLen sCap cs hl hsrc
  have hst := run_storeCells_cells (P := P) b o cs 0 w (by simpa using hc) (by simpa using hf) h1
  cases hq : P.info? elem with
  | none => simp [hq] at hs
  | some i =>
    have hi : i.size = sz := by simpa [hq] using hs
    simp [Builtin.copy_, run_underlying hu, Builtin.lenOf, sizeOf, typeInfo, hq, hi, hn, hl', hst]
/-- clear, at elements of any size. -/
theorem run_clearN {P : Program} (w : World) (t e ty : TypeId) (z : Value) (hu : P.underlying t = some (.slice e)) (i : TypeInfo) (hi : P.info? e = some i) (hz : i.zero = some z) (h1 : ∀ v ∈ z.cells.toList, v.oneCell' = true)
    (b o n cap : Nat) (hn : 0 < n) (hc : ∀ j, j < n * z.cells.size → (w.cell? ⟨b, o + j, none⟩).isSome = true) (hf : ∀ j, j < n * z.cells.size → w.frozen? ⟨b, o + j, none⟩ = false) :
    (Builtin.clear_ #[t] ty #[.slice (some ⟨b, o, none⟩) n cap]).run P w = .ok (.tuple #[]) (w.setCells b o (Builtin.zeroCells z.cells n).toList) := by
  have hsz : (Builtin.zeroCells z.cells n).toList.length = n * z.cells.size := by simp [Builtin.zeroCells]
  have hone : ∀ v ∈ (Builtin.zeroCells z.cells n).toList, v.oneCell' = true := fun v hv => by
    simp only [Builtin.zeroCells, Array.toList_map, List.mem_map, Array.mem_toList_iff, Array.mem_range] at hv
    obtain ⟨k, hk, rfl⟩ := hv
    have hp : 0 < z.cells.size := by rcases Nat.eq_zero_or_pos z.cells.size with e | e; · rw [e] at hk; omega
                                     · exact e
    have hk2 : k % z.cells.size < z.cells.size := Nat.mod_lt _ hp
    rw [getElem!_pos z.cells (k % z.cells.size) hk2]
    exact h1 _ (by simp)
  have hst := run_storeCells_cells (P := P) b o (Builtin.zeroCells z.cells n).toList 0 w (by rw [hsz]; simpa using hc) (by rw [hsz]; simpa using hf) hone
  cases n with
  | zero => omega
  | succ n => simp [Builtin.clear_, run_underlying hu, zeroValue, typeInfo, hi, hz, hst]

/-! ### Heaps -/
theorem RelH.congr {B : Nat} {β : Bet} {h h' : H} {w : World} (x : RelH B β h w) (hlo : h'.lo = h.lo) (hn : h'.next = h.next) (hb : ∀ id, (h'.blk id).alive = (h.blk id).alive ∧ (h'.blk id).cells = (h.blk id).cells) : RelH B β h' w := by
  refine ⟨fun id ha => ?_, fun id id' l l' ha ha' => ?_, fun id hi => ?_, ?_, by rw [hn]; exact x.pos, by rw [hn, hlo]; exact x.lo, x.hB, x.blt⟩
  · rw [(hb id).1] at ha
    rw [(hb id).2, hlo]
    exact x.cell id ha
  · rw [(hb id).1] at ha; rw [(hb id').1] at ha'
    rw [hlo]
    exact x.inj id id' l l' ha ha'
  · rw [(hb id).1]; rw [hn] at hi; exact x.bnd id hi
  · rw [(hb 0).1]; exact x.zero
/-- Fewer cells are known of a block. -/
theorem RelH.cut {B : Nat} {β : Bet} {h h' : H} {w : World} (x : RelH B β h w) (hlo : h'.lo = h.lo) (hn : h'.next = h.next) (hb : ∀ id, (h'.blk id).alive = (h.blk id).alive ∧ ∃ r, (h.blk id).cells = (h'.blk id).cells ++ r) : RelH B β h' w := by
  refine ⟨fun id ha => ?_, fun id id' l l' ha ha' => ?_, fun id hi => ?_, ?_, by rw [hn]; exact x.pos, by rw [hn, hlo]; exact x.lo, x.hB, x.blt⟩
  · rw [(hb id).1] at ha
    obtain ⟨r, hr⟩ := (hb id).2
    obtain ⟨l, h1, h2, h3, h4⟩ := x.cell id ha
    refine ⟨l, h1, ?_, fun i v hv => h3 i v ?_, by rw [hlo]; exact h4⟩
    · rw [hr, List.length_append] at h2; omega
    · rw [hr, List.getElem?_append_left (List.getElem?_eq_some_iff.1 hv).1]; exact hv
  · rw [(hb id).1] at ha; rw [(hb id').1] at ha'
    rw [hlo]
    exact x.inj id id' l l' ha ha'
  · rw [(hb id).1]; rw [hn] at hi; exact x.bnd id hi
  · rw [(hb 0).1]; exact x.zero
theorem Ext.congr {B : Nat} {β β' : Bet} {h h1 h2 : H} {w w' : World} (x : Ext B β h w β' h1 w') (hlo : h2.lo = h1.lo) (hn : h2.next = h1.next) (hb : ∀ id, id < h.next → h2.blk id = h1.blk id) : Ext B β h w β' h2 w' :=
  ⟨x.sub, x.below, by rw [hlo]; exact x.lo, by rw [hn]; exact x.next, fun id hi => by rw [hb id hi]; exact x.ver id hi, fun id hi => by rw [hb id hi]; exact x.same id hi⟩
/-- Cells of an own block behind those that are known may be written. -/
theorem spare_rel {B : Nat} {β : Bet} {h : H} {w : World} (hH : RelH B β h w) {id : Nat} {l : Loc} (ha : (h.blk id).alive = true) (hlo : h.lo ≤ id) (hb : β id = some l) {o : Nat} {vs : List Value} (ho : (h.blk id).cells.length ≤ o) (hr : o + vs.length ≤ l.room) :
    RelH B β h (w.setCells l.b (l.base + o) vs) ∧ Ext B β h w β h (w.setCells l.b (l.base + o) vs) := by
  obtain ⟨l1, hb1, hroom, hcell, hown⟩ := hH.cell id ha
  rw [hb] at hb1; cases hb1
  obtain ⟨hBl, hwr⟩ := hown hlo
  have hapart : ∀ j l', (h.blk j).alive = true → β j = some l' → j ≠ id → l'.b ≠ l.b := fun j l' haj hbj hj => (hH.inj id j l l' ha haj (Ne.symm hj) hlo hb hbj).symm
  have hcs : ∀ j l' i, (h.blk j).alive = true → β j = some l' → i < (h.blk j).cells.length → (w.setCells l.b (l.base + o) vs).cell? ⟨l'.b, l'.base + i, none⟩ = w.cell? ⟨l'.b, l'.base + i, none⟩ := fun j l' i haj hbj hi => by
    by_cases e : j = id
    · subst e; rw [hb] at hbj; cases hbj
      exact World.cell?_setCells_out l.b vs _ w _ (fun _ _ => .inl (by show l.base + i < l.base + o; omega))
    · exact World.cell?_setCells_out l.b vs _ w _ (fun hb2 _ => absurd hb2 (hapart j l' haj hbj e))
  refine ⟨⟨fun j haj => ?_, hH.inj, hH.bnd, hH.zero, hH.pos, hH.lo, by rw [size_setCells]; exact hH.hB, fun j l' hl => by rw [size_setCells]; exact hH.blt j l' hl⟩, ⟨Sub.refl _, below_setCells l.b hBl.1 vs _ w w (Below.refl _ _), rfl, Nat.le_refl _, fun _ _ => Nat.le_refl _, fun j hj haj _ => ⟨haj, rfl, fun l' hl' i hi => hcs j l' i haj hl' hi⟩⟩⟩
  obtain ⟨l', hb', hroom', hcell', hown'⟩ := hH.cell j haj
  refine ⟨l', hb', hroom', fun i v hv => ?_, fun hlo' => ?_⟩
  · obtain ⟨c, h1, h2⟩ := hcell' i v hv
    exact ⟨c, by rw [hcs j l' i haj hb' (List.getElem?_eq_some_iff.1 hv).1]; exact h1, h2⟩
  · obtain ⟨⟨x1, x2⟩, x3⟩ := hown' hlo'
    refine ⟨⟨x1, fun hm => (x2 hm).setCells _ _ _⟩, fun i hi => ?_⟩
    rw [World.frozen?_setCells]
    exact ⟨World.isSome_setCells _ _ _ _ _ (x3 i hi).1, (x3 i hi).2⟩
end Go.Proofs.Ythoabddfionmoaa.AH
