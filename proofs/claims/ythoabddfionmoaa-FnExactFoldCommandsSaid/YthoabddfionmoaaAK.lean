/- slices.Insert, slices.Delete: from the walk to the words insP, delP. No condition. -/
import Derived.Test.YthoabddfionmoaaAJ
set_option linter.unusedVariables false
set_option linter.unusedSimpArgs false
namespace Go.Proofs.Ythoabddfionmoaa.AH
open Go Go.RowKit Go.Lib
theorem step_append_runI {P : Program} {ops : Array Oper} {o : Oper} {a : Act} {w : World} {K : Act → World → Prop} {Q : Exit → Act → World → Prop} {E : Prop}
    (hg : o.guard = none) (d x : Operand) (dT sT : TypeId) (hop : o.op = Op.call { callee := Callee.builtin Builtin.append, args := #[d, x], argTypes := #[dT, sT] })
    (v u : Value) (hd : a.eval d = v) (hx : a.eval x = u) {v' : Value} {w' : World} (hr : (Builtin.append_ #[dT, sT] o.type #[v, u]).run P w = .ok v' w') (hK : K (a.put o.dst v') w') :
    if Region.wanted o (yielded ops a.tmps) = true then Oper.wp P o a w K Q else E := by
  have hw : Region.wanted o (yielded ops a.tmps) = true := by simp [Region.wanted, hg]
  rw [if_pos hw]
  unfold Oper.wp
  simp [execOp, hop, resolve, invoke, builtin, hd, hx, hr, Result.andThen]
  exact hK
theorem All2.drop' {α β : Type} {R : α → β → Prop} {xs : List α} {ys : List β} (h : All2 R xs ys) (n : Nat) : All2 R (xs.drop n) (ys.drop n) := h.drop n
/-- The shift, in place. -/
theorem shift_rel {B : Nat} {β : Bet} {h : H} {w : World} (hH : RelH B β h w) {id off n m i sz : Nat} {l : Loc} {olds ys : List V} {cs vs : List Value} (ha : (h.blk id).alive = true) (hlo : h.lo ≤ id) (hb : β id = some l)
    (ho : h.load id off (n * sz) = some olds) (hoc : All2 (RelC β) olds cs) (hy : All2 (RelC β) ys vs) (hvl : vs.length = m * sz) (hi : i ≤ n) (hroom : off + (n + m) * sz ≤ l.room) :
    RelH B (β.set h.next ⟨l.b, l.base + off, l.room - off, l.str⟩) ((h.new (olds.take (i * sz) ++ ys ++ olds.drop (i * sz))).kill id) ((w.drew.setCells l.b (l.base + off + (i + m) * sz) (cs.drop (i * sz))).setCells l.b (l.base + off + i * sz) vs) ∧
    Ext B β h w (β.set h.next ⟨l.b, l.base + off, l.room - off, l.str⟩) ((h.new (olds.take (i * sz) ++ ys ++ olds.drop (i * sz))).kill id) ((w.drew.setCells l.b (l.base + off + (i + m) * sz) (cs.drop (i * sz))).setCells l.b (l.base + off + i * sz) vs) := by
  have hmul : (i + m) * sz = i * sz + m * sz := Nat.add_mul _ _ _
  have hin : i * sz ≤ n * sz := Nat.mul_le_mul_right _ hi
  have hol : olds.length = n * sz := bload_len ho
  have hcl : cs.length = n * sz := by rw [← hoc.length, hol]
  have ew : (w.drew.setCells l.b (l.base + off + (i + m) * sz) (cs.drop (i * sz))).setCells l.b (l.base + off + i * sz) vs = w.drew.setCells l.b (l.base + off + i * sz) (vs ++ cs.drop (i * sz)) := by
    rw [setCells_comm _ _ _ _ _ _ (by rw [hvl, hmul]; omega), setCells_app, hvl, hmul, Nat.add_assoc (l.base + off)]
  rw [ew]
  have hl2 : h.load id off (i * sz) = some (olds.take (i * sz)) := by
    have := bload_sub ho 0 (i * sz) (by omega)
    simpa using this
  have e2 : olds.take (i * sz) ++ ys ++ olds.drop (i * sz) = olds.take (i * sz) ++ (ys ++ olds.drop (i * sz)) := by simp
  rw [e2]
  have hnm : (n + m) * sz = n * sz + m * sz := Nat.add_mul _ _ _
  obtain ⟨_, h1, h2⟩ := grow_rel hH.drew (olds := olds.take (i * sz)) (news := ys ++ olds.drop (i * sz)) (news' := vs ++ cs.drop (i * sz)) ha hlo hb (.inr hl2) (hy.append (hoc.drop _)) (by rw [List.length_append, List.length_drop, hvl, hcl]; omega)
  exact ⟨h1, (Ext.drew B β h w).trans h2⟩
/-- The row that is new. -/
theorem fresh_rel {B : Nat} {β : Bet} {h : H} {w : World} (hH : RelH B β h w) {C : Array Value} {e : TypeId} {i0 o1 o2 : Nat} {a b c : List V} {a' b' c' : List Value} (hp : All2 (RelC β) a a') (hb : All2 (RelC β) b b') (hc : All2 (RelC β) c c')
    (h1 : C.toList.take a'.length = a') (e1 : o1 = a'.length) (e2 : o2 = a'.length + b'.length) (hle : a'.length + b'.length + c'.length ≤ C.size) (id : Nat) (w1 w2 w3 : World)
    (k1 : w1 = w.drew.alloc (.cells C e)) (k2 : w2 = w1.setCells w.heap.size o1 b') (k3 : w3 = w2.drew.setCells w.heap.size o2 c') :
    RelH B (β.set h.next ⟨w.heap.size, 0, C.size, false⟩) ((h.new (a ++ b ++ c)).kill id) w3 ∧ Ext B β h w (β.set h.next ⟨w.heap.size, 0, C.size, false⟩) ((h.new (a ++ b ++ c)).kill id) w3 ∧ h.next ≠ 0 := by
  have hne : h.next ≠ 0 := by have := hH.pos; omega
  have hal := hp.length
  have hbl := hb.length
  have hcl := hc.length
  obtain ⟨hR, hX⟩ := new_rel hH.drew (cs := a) C e (0, 0) false (by simp) (by omega) (by rw [hal, h1]; exact hp) (fun j _ => by omega)
  have hsz : w.drew.heap.size = w.heap.size := rfl
  rw [hsz] at hR hX
  have hbig : ∃ hx : H, hx = (h.new a) := ⟨_, rfl⟩
  -- the cells behind a are known after they are written: a block of a, then one of a ++ b ++ c
  have hset : (β.set h.next ⟨w.heap.size, 0, C.size, false⟩) h.next = some ⟨w.heap.size, 0, C.size, false⟩ := Bet.set_same _ _ _
  have hsub : Sub β (β.set h.next ⟨w.heap.size, 0, C.size, false⟩) := Bet.sub_set (hH.bnd h.next (Nat.le_refl _)).2
  have hblk : (h.new a).blk h.next = ⟨a, (h.blk h.next).ver, true⟩ := by simp [H.new]
  have hx3 : w3 = w1.drew.setCells w.heap.size (0 + a.length) (b' ++ c') := by
    rw [k3, k2, drew_setCells, setCells_app, e1, e2, Nat.zero_add, hal]
  obtain ⟨hR2, hX2⟩ := spare_rel hR.drew (id := h.next) (l := ⟨w.heap.size, 0, C.size, false⟩) (by rw [hblk]) (by show h.lo ≤ h.next; exact hH.lo) hset (o := a.length) (vs := b' ++ c') (by rw [hblk]; exact Nat.le_refl _) (by rw [List.length_append]; show a.length + _ ≤ C.size; omega)
  have hw3 : (w.drew.alloc (.cells C e (0, 0))).drew.setCells w.heap.size (0 + a.length) (b' ++ c') = w3 := by rw [hx3, k1]
  simp only [] at hR2 hX2
  rw [hw3] at hR2 hX2
  -- what is known of the block
  have hth : ∀ j, j < C.size → (w1.drew.cell? ⟨w.heap.size, j, none⟩).isSome = true := fun j hj => by
    rw [k1]
    show ((w.drew.alloc (.cells C e (0, 0))).cell? ⟨w.drew.heap.size, j, none⟩).isSome = true
    rw [World.cell?_alloc_mark]; simpa using hj
  have hRfull : RelH B (β.set h.next ⟨w.heap.size, 0, C.size, false⟩) (h.new (a ++ b ++ c)) w3 := by
    have hb1 : ∀ j, j ≠ h.next → (h.new (a ++ b ++ c)).blk j = (h.new a).blk j := fun j hj => by simp [H.new, hj]
    have hb2 : (h.new (a ++ b ++ c)).blk h.next = ⟨a ++ b ++ c, (h.blk h.next).ver, true⟩ := by simp [H.new]
    have hal1 : ∀ j, ((h.new (a ++ b ++ c)).blk j).alive = ((h.new a).blk j).alive := fun j => by
      by_cases e : j = h.next
      · subst e; rw [hb2, hblk]
      · rw [hb1 j e]
    refine ⟨fun j haj => ?_, fun j j' l l' ha ha' => ?_, fun j hj => ?_, ?_, hR2.pos, hR2.lo, hR2.hB, hR2.blt⟩
    · by_cases e : j = h.next
      · subst e
        rw [hal1] at haj
        obtain ⟨l, q1, q2, q3, q4⟩ := hR2.cell h.next haj
        rw [hset] at q1; cases q1
        refine ⟨_, hset, by rw [hb2]; simp only [List.length_append]; omega, fun i v hv => ?_, q4⟩
        rw [hb2] at hv
        by_cases hia : i < a.length
        · refine q3 i v ?_
          rw [hblk]
          simp only [List.append_assoc] at hv
          rwa [List.getElem?_append_left hia] at hv
        · simp only [List.append_assoc] at hv
          rw [List.getElem?_append_right (by omega)] at hv
          obtain ⟨cv, hcv, hr⟩ := (hb.append hc).get hv
          refine ⟨cv, ?_, hr.mono hsub⟩
          have hlt := (List.getElem?_eq_some_iff.1 hcv).1
          have := World.cell?_setCells_in w.heap.size (b' ++ c') (0 + a.length) w1.drew (fun j hj => hth _ (by rw [List.length_append] at hj; omega)) (i - a.length) hlt
          rw [hx3]
          rw [show 0 + a.length + (i - a.length) = 0 + i by omega] at this
          rw [List.getElem?_eq_getElem hlt] at hcv
          simp only [Option.some.injEq] at hcv
          show (w1.drew.setCells w.heap.size (0 + a.length) (b' ++ c')).cell? ⟨w.heap.size, 0 + i, none⟩ = some cv
          rw [this, hcv]
      · rw [hb1 j e] at haj ⊢
        exact hR2.cell j haj
    · rw [hal1] at ha ha'
      exact hR2.inj j j' l l' ha ha'
    · rw [hal1]; exact hR2.bnd j hj
    · rw [hal1]; exact hR2.zero
  have hXfull : Ext B β h w (β.set h.next ⟨w.heap.size, 0, C.size, false⟩) (h.new (a ++ b ++ c)) w3 := by
    have hX3 : Ext B β h w (β.set h.next ⟨w.heap.size, 0, C.size, false⟩) (h.new a) w3 := (Ext.drew B β h w).trans (hX.trans ((Ext.drew B _ _ _).trans hX2))
    refine hX3.congr rfl rfl fun j hj => ?_
    have : j ≠ h.next := by omega
    simp [H.new, this]
  obtain ⟨r1, r2⟩ := kill_rel hRfull id
  exact ⟨r1, hXfull.trans r2, hne⟩
end Go.Proofs.Ythoabddfionmoaa.AH
