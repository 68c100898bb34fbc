/- The operations that make or write memory: the heap's side. No condition. -/
import Derived.Test.YthoabddfionmoaaA6
import Derived.Laws.IdiomStrings
import Derived.Laws.MakeOwn
set_option linter.unusedVariables false
set_option linter.unusedSimpArgs false
namespace Go.Proofs.Ythoabddfionmoaa.AH
open Go Go.RowKit
variable {P : Program}

def Bet.set (β : Bet) (id : Nat) (l : Loc) : Bet := fun j => if j = id then some l else β j
theorem Bet.set_same (β : Bet) (id : Nat) (l : Loc) : (β.set id l) id = some l := by simp [Bet.set]
theorem Bet.set_ne (β : Bet) {id j : Nat} (l : Loc) (h : j ≠ id) : (β.set id l) j = β j := by simp [Bet.set, h]
theorem Bet.sub_set {β : Bet} {id : Nat} {l : Loc} (h : β id = none) : Sub β (β.set id l) := fun j l' hj => by
  by_cases e : j = id
  · subst e; rw [h] at hj; cases hj
  · rw [Bet.set_ne β l e]; exact hj

theorem Ext.drew (B : Nat) (β : Bet) (h : H) (w : World) : Ext B β h w β h w.drew :=
  ⟨Sub.refl _, (Below.refl _ _).drew, rfl, Nat.le_refl _, fun _ _ => Nat.le_refl _, fun _ _ ha _ => ⟨ha, rfl, fun _ _ _ _ => rfl⟩⟩

/-- A new block. -/
theorem new_rel {B : Nat} {β : Bet} {h : H} {w : World} (hH : RelH B β h w) {cs : List V} (C : Array Value) (e : TypeId) (fr : Nat × Nat) (str : Bool) (hmk : str = false → ¬ (fr.1 ≤ C.size ∧ C.size < fr.2)) (hle : cs.length ≤ C.size) (hrel : All2 (RelC β) cs (C.toList.take cs.length)) (hfr : ∀ i, i < C.size → ¬ (fr.1 ≤ i ∧ i < fr.2)) :
    RelH B (β.set h.next ⟨w.heap.size, 0, C.size, str⟩) (h.new cs) (w.alloc (.cells C e fr)) ∧ Ext B β h w (β.set h.next ⟨w.heap.size, 0, C.size, str⟩) (h.new cs) (w.alloc (.cells C e fr)) := by
  have hnone := (hH.bnd h.next (Nat.le_refl _)).2
  have hsub : Sub β (β.set h.next ⟨w.heap.size, 0, C.size, str⟩) := Bet.sub_set hnone
  have hblk : ∀ id, id ≠ h.next → (h.new cs).blk id = h.blk id := fun id hne => by simp [H.new, hne]
  have hnew : (h.new cs).blk h.next = ⟨cs, (h.blk h.next).ver, true⟩ := by simp [H.new]
  have hfz : ∀ i, i < C.size → (w.alloc (.cells C e fr)).frozen? ⟨w.heap.size, i, none⟩ = false := fun i hi => by
    obtain ⟨lo, hi'⟩ := fr
    rw [World.frozen?_alloc_mark]
    have := hfr i hi
    simp only [Bool.and_eq_false_imp, decide_eq_true_eq, decide_eq_false_iff_not]
    omega
  refine ⟨⟨?_, ?_, ?_, ?_, ?_, ?_, ?_, ?_⟩, ?_⟩
  · intro id ha
    by_cases hne : id = h.next
    · subst hne
      refine ⟨⟨w.heap.size, 0, C.size, str⟩, Bet.set_same _ _ _, by rw [hnew]; exact hle, ?_, ?_⟩
      · intro i v hv
        rw [hnew] at hv
        obtain ⟨c, hc, hr⟩ := hrel.get hv
        have hi : i < cs.length := (List.getElem?_eq_some_iff.1 hv).1
        rw [List.getElem?_take_of_lt hi] at hc
        refine ⟨c, ?_, hr.mono hsub⟩
        simp only [Nat.zero_add]
        rw [World.cell?_alloc_mark]; simpa using hc
      · intro _
        refine ⟨⟨hH.hB, fun hm => ⟨e, C.size, by rw [shape?_alloc_mark], ?_⟩⟩, fun i hi => ?_⟩
        · obtain ⟨lo, hi'⟩ := fr
          rw [World.frozen?_alloc_mark]
          have := hmk hm
          simp only [Bool.and_eq_false_imp, decide_eq_true_eq, decide_eq_false_iff_not]
          omega
        simp only [Nat.zero_add]
        refine ⟨?_, hfz i hi⟩
        rw [World.cell?_alloc_mark]; simpa using hi
    · rw [hblk id hne] at ha
      obtain ⟨l, hb, hroom, hcell, hown⟩ := hH.cell id ha
      have hlt := hH.blt id l hb
      refine ⟨l, hsub _ _ hb, by rw [hblk id hne]; exact hroom, ?_, ?_⟩
      · intro i v hv
        rw [hblk id hne] at hv
        obtain ⟨c, hc, hr⟩ := hcell i v hv
        exact ⟨c, by rw [World.cell?_alloc_lt _ _ _ hlt]; exact hc, hr.mono hsub⟩
      · intro hlo
        obtain ⟨h1, h2⟩ := hown hlo
        refine ⟨⟨h1.1, fun hm => (h1.2 hm).alloc hlt _⟩, fun i hi => ?_⟩
        rw [World.cell?_alloc_lt _ _ _ hlt, World.frozen?_alloc_past _ _ _ hlt]
        exact h2 i hi
  · intro id id' l l' ha ha' hne hlo hb hb'
    by_cases e1 : id = h.next
    · subst e1
      rw [Bet.set_same] at hb; cases hb
      rw [Bet.set_ne β _ (Ne.symm hne)] at hb'
      have := hH.blt id' l' hb'
      simp only; omega
    · rw [Bet.set_ne β _ e1] at hb
      by_cases e2 : id' = h.next
      · subst e2
        rw [Bet.set_same] at hb'; cases hb'
        have := hH.blt id l hb
        simp only; omega
      · rw [Bet.set_ne β _ e2] at hb'
        rw [hblk _ e1] at ha; rw [hblk _ e2] at ha'
        exact hH.inj id id' l l' ha ha' hne hlo hb hb'
  · intro id hid
    have hid' : h.next + 1 ≤ id := hid
    have hne : id ≠ h.next := by omega
    rw [hblk id hne, Bet.set_ne β _ hne]
    exact hH.bnd id (by omega)
  · have := hH.pos
    rw [hblk 0 (by omega)]; exact hH.zero
  · show 0 < h.next + 1; omega
  · have := hH.lo
    show h.lo ≤ h.next + 1; omega
  · have := hH.hB; simp; omega
  · intro id l hb
    by_cases e1 : id = h.next
    · subst e1; rw [Bet.set_same] at hb; cases hb; simp
    · rw [Bet.set_ne β _ e1] at hb
      have := hH.blt id l hb; simp; omega
  · refine ⟨hsub, (Below.refl _ _).alloc hH.hB _, rfl, by show h.next ≤ h.next + 1; omega, fun id hid => ?_, fun id hid ha hv => ?_⟩
    · rw [hblk id (by omega)]; exact Nat.le_refl _
    · rw [hblk id (by omega)]
      refine ⟨ha, rfl, fun l hl i hi => ?_⟩
      rw [World.cell?_alloc_lt _ _ _ (hH.blt id l hl)]

theorem below_setCells {B : Nat} (b : Nat) (hb : B ≤ b) : ∀ (vs : List Value) (o : Nat) (a w : World), Below B a w → Below B a (w.setCells b o vs)
  | [], _, _, _, h => h
  | v :: r, o, a, w, h => below_setCells b hb r (o + 1) a _ (h.setCell (p := ⟨b, o, none⟩) hb v)
theorem size_setCells (b : Nat) : ∀ (vs : List Value) (o : Nat) (w : World), (w.setCells b o vs).heap.size = w.heap.size
  | [], _, _ => rfl
  | v :: r, o, w => by rw [World.setCells, size_setCells b r]; simp

/-- A store. -/
theorem store_rel {B : Nat} {β : Bet} {h h' : H} {w : World} (hH : RelH B β h w) {id off : Nat} {vs : List V} {vs' : List Value} (hs : h.store id off vs = some h') (hv : All2 (RelC β) vs vs') :
    ∃ l, β id = some l ∧ id ≠ 0 ∧ w.there l.b (l.base + off) vs'.length ∧ RelH B β h' (w.setCells l.b (l.base + off) vs') ∧ Ext B β h w β h' (w.setCells l.b (l.base + off) vs') := by
  unfold H.store at hs
  split at hs
  · rename_i hc
    obtain ⟨ha, hlo, hle⟩ := hc
    cases hs
    obtain ⟨l, hb, hroom, hcell, hown⟩ := hH.cell id ha
    obtain ⟨hBl, hwr⟩ := hown hlo
    have hne0 : id ≠ 0 := by intro e; subst e; rw [hH.zero] at ha; cases ha
    have hvl := hv.length
    have hthere : w.there l.b (l.base + off) vs'.length := fun j hj => by
      have := hwr (off + j) (by omega)
      rw [← Nat.add_assoc] at this; exact this
    let h' : H := h.upd id ⟨(h.blk id).cells.take off ++ vs ++ (h.blk id).cells.drop (off + vs.length), (h.blk id).ver + 1, true⟩
    have hsame : h'.blk id = ⟨(h.blk id).cells.take off ++ vs ++ (h.blk id).cells.drop (off + vs.length), (h.blk id).ver + 1, true⟩ := by simp [h', H.upd]
    have hoth : ∀ j, j ≠ id → h'.blk j = h.blk j := fun j hj => by simp [h', H.upd, hj]
    have hlen : (h'.blk id).cells.length = (h.blk id).cells.length := by rw [hsame]; simp; omega
    have hcin : ∀ j (hj : j < vs'.length), (w.setCells l.b (l.base + off) vs').cell? ⟨l.b, l.base + off + j, none⟩ = some vs'[j] := fun j hj =>
      World.cell?_setCells_in l.b vs' (l.base + off) w (fun i hi => (hthere i hi).1) j hj
    have hapart : ∀ j l', (h.blk j).alive = true → β j = some l' → j ≠ id → l'.b ≠ l.b := fun j l' haj hbj hj => (hH.inj id j l l' ha haj (Ne.symm hj) hlo hb hbj).symm
    refine ⟨l, hb, hne0, hthere, ⟨?_, ?_, ?_, ?_, hH.pos, hH.lo, by rw [size_setCells]; exact hH.hB, fun j l' hj => by rw [size_setCells]; exact hH.blt j l' hj⟩, ?_⟩
    · intro j haj
      by_cases hj : j = id
      · subst hj
        refine ⟨l, hb, by rw [hlen]; exact hroom, ?_, ?_⟩
        · intro i v hvi
          rw [hsame] at hvi
          simp only [List.append_assoc] at hvi
          rw [List.getElem?_append] at hvi
          by_cases h1 : i < off
          · rw [if_pos (by simp; omega), List.getElem?_take_of_lt h1] at hvi
            obtain ⟨c, hc, hr⟩ := hcell i v hvi
            refine ⟨c, ?_, hr⟩
            rw [World.cell?_setCells_out l.b vs' _ w _ (fun _ _ => .inl (by show l.base + i < l.base + off; omega))]
            exact hc
          · rw [if_neg (by simp; omega), List.length_take, Nat.min_eq_left (by omega), List.getElem?_append] at hvi
            by_cases h2 : i < off + vs.length
            · rw [if_pos (by omega)] at hvi
              obtain ⟨c, hc, hr⟩ := hv.get hvi
              have hlt : i - off < vs'.length := by omega
              refine ⟨c, ?_, hr⟩
              have := hcin (i - off) hlt
              rw [show l.base + off + (i - off) = l.base + i from by omega] at this
              rw [this, ← hc, List.getElem?_eq_getElem hlt]
            · rw [if_neg (by omega), List.getElem?_drop, show off + vs.length + (i - off - vs.length) = i from by omega] at hvi
              obtain ⟨c, hc, hr⟩ := hcell i v hvi
              refine ⟨c, ?_, hr⟩
              rw [World.cell?_setCells_out l.b vs' _ w _ (fun _ _ => .inr (by show l.base + off + vs'.length ≤ l.base + i; omega))]
              exact hc
        · intro _
          refine ⟨⟨hBl.1, fun hm => (hBl.2 hm).setCells _ _ _⟩, fun i hi => ?_⟩
          rw [World.frozen?_setCells]
          exact ⟨World.isSome_setCells _ _ _ _ _ (hwr i hi).1, (hwr i hi).2⟩
      · have haj' : (h.blk j).alive = true := by rw [← hoth j hj]; exact haj
        obtain ⟨l', hb', hroom', hcell', hown'⟩ := hH.cell j haj'
        have hbne := hapart j l' haj' hb' hj
        refine ⟨l', hb', by rw [hoth j hj]; exact hroom', ?_, ?_⟩
        · intro i v hvi
          rw [hoth j hj] at hvi
          obtain ⟨c, hc, hr⟩ := hcell' i v hvi
          exact ⟨c, by rw [World.cell?_setCells_out l.b vs' _ w _ (fun hb2 _ => absurd hb2 hbne)]; exact hc, hr⟩
        · intro hlo'
          obtain ⟨x1, x2⟩ := hown' hlo'
          refine ⟨⟨x1.1, fun hm => (x1.2 hm).setCells _ _ _⟩, fun i hi => ?_⟩
          rw [World.frozen?_setCells, World.cell?_setCells_out l.b vs' _ w _ (fun hb2 _ => absurd hb2 hbne)]
          exact x2 i hi
    · intro i j li lj hai haj hne hl1 h1 h2
      have e : ∀ k, ((h.upd id ⟨(h.blk id).cells.take off ++ vs ++ (h.blk id).cells.drop (off + vs.length), (h.blk id).ver + 1, true⟩).blk k).alive = true → (h.blk k).alive = true := fun k hk => by
        by_cases ek : k = id
        · rw [ek]; exact ha
        · rw [← hoth k ek]; exact hk
      exact hH.inj i j li lj (e i hai) (e j haj) hne hl1 h1 h2
    · intro j hj
      have : j ≠ id := by intro e; subst e; have := (hH.bnd j hj).1; rw [ha] at this; cases this
      have := hH.bnd j hj
      exact ⟨by rw [← this.1]; exact congrArg Blk.alive (hoth j (by assumption)), this.2⟩
    · exact (congrArg Blk.alive (hoth 0 (Ne.symm hne0))).trans hH.zero
    · refine ⟨Sub.refl _, below_setCells l.b hBl.1 vs' _ w w (Below.refl _ _), rfl, Nat.le_refl _, fun j hj => ?_, fun j hj haj hvj => ?_⟩
      · by_cases e : j = id
        · subst e; show _ ≤ (h'.blk j).ver; rw [hsame]; exact Nat.le_succ _
        · show _ ≤ (h'.blk j).ver; rw [hoth j e]; exact Nat.le_refl _
      · by_cases e : j = id
        · subst e
          have : (h'.blk j).ver = (h.blk j).ver := hvj
          rw [hsame] at this; simp at this
        · refine ⟨(congrArg Blk.alive (hoth j e)).trans haj, congrArg Blk.cells (hoth j e), fun l' hl' i hi => ?_⟩
          rw [World.cell?_setCells_out l.b vs' _ w _ (fun hb2 _ => absurd hb2 (hapart j l' haj hl' e))]
  · cases hs

/-- A block that is given up. -/
theorem kill_rel {B : Nat} {β : Bet} {h : H} {w : World} (hH : RelH B β h w) (id : Nat) : RelH B β (h.kill id) w ∧ Ext B β h w β (h.kill id) w := by
  have hoth : ∀ j, j ≠ id → (h.kill id).blk j = h.blk j := fun j hj => by simp [H.kill, H.upd, hj]
  have hdead : ((h.kill id).blk id).alive = false := by simp [H.kill, H.upd]
  have hne : ∀ j, ((h.kill id).blk j).alive = true → j ≠ id := fun j hj e => by subst e; rw [hdead] at hj; cases hj
  refine ⟨⟨?_, ?_, ?_, ?_, hH.pos, hH.lo, hH.hB, hH.blt⟩, ⟨Sub.refl _, Below.refl _ _, rfl, Nat.le_refl _, ?_, ?_⟩⟩
  · intro j hj
    have e := hne j hj
    rw [hoth j e] at hj ⊢
    exact hH.cell j hj
  · intro i j li lj hi hj hne' hlo
    have ei := hne i hi; have ej := hne j hj
    rw [hoth i ei] at hi; rw [hoth j ej] at hj
    exact hH.inj i j li lj hi hj hne' hlo
  · intro j hj
    refine ⟨?_, (hH.bnd j hj).2⟩
    by_cases e : j = id
    · subst e; exact hdead
    · rw [hoth j e]; exact (hH.bnd j hj).1
  · by_cases e : 0 = id
    · rw [← e] at hdead ⊢; exact hdead
    · rw [hoth 0 e]; exact hH.zero
  · intro j hj
    by_cases e : j = id
    · subst e; simp [H.kill, H.upd]
    · rw [hoth j e]; exact Nat.le_refl _
  · intro j hj ha hv
    by_cases e : j = id
    · subst e; simp [H.kill, H.upd] at hv
    · rw [hoth j e]; exact ⟨ha, rfl, fun _ _ _ _ => rfl⟩

/-- More cells behind a block's slice, in place. -/
theorem grow_rel {B : Nat} {β : Bet} {h : H} {w : World} (hH : RelH B β h w) {id off n : Nat} {olds news : List V} {news' : List Value} {l : Loc} (ha : (h.blk id).alive = true) (hlo : h.lo ≤ id) (hb : β id = some l)
    (ho : n = 0 ∧ olds = [] ∨ h.load id off n = some olds) (hn : All2 (RelC β) news news') (hroom : off + n + news'.length ≤ l.room) :
    w.there l.b (l.base + off + n) news'.length ∧
    RelH B (β.set h.next ⟨l.b, l.base + off, l.room - off, l.str⟩) ((h.new (olds ++ news)).kill id) (w.setCells l.b (l.base + off + n) news') ∧
    Ext B β h w (β.set h.next ⟨l.b, l.base + off, l.room - off, l.str⟩) ((h.new (olds ++ news)).kill id) (w.setCells l.b (l.base + off + n) news') := by
  obtain ⟨l1, hb1, hroom1, hcell, hown⟩ := hH.cell id ha
  rw [hb] at hb1; cases hb1
  obtain ⟨hBl, hwr⟩ := hown hlo
  have hidlt := hH.lt ha
  have hnone := (hH.bnd h.next (Nat.le_refl _)).2
  have hsub : Sub β (β.set h.next ⟨l.b, l.base + off, l.room - off, l.str⟩) := Bet.sub_set hnone
  have hnl := hn.length
  have holds : olds.length = n ∧ ∀ i v, olds[i]? = some v → (h.blk id).cells[off + i]? = some v := by
    rcases ho with ⟨rfl, rfl⟩ | ho
    · exact ⟨rfl, fun i v hv => by simp at hv⟩
    · unfold H.load at ho
      split at ho
      · rename_i hc
        cases ho
        refine ⟨by simp; omega, fun i v hv => ?_⟩
        have hi : i < n := by have := (List.getElem?_eq_some_iff.1 hv).1; simp at this; omega
        rw [List.getElem?_take_of_lt hi, List.getElem?_drop] at hv; exact hv
      · cases ho
  have hthere : w.there l.b (l.base + off + n) news'.length := fun j hj => by
    have := hwr (off + n + j) (by omega)
    rw [show l.base + (off + n + j) = l.base + off + n + j from by omega] at this; exact this
  have hcin : ∀ j (hj : j < news'.length), (w.setCells l.b (l.base + off + n) news').cell? ⟨l.b, l.base + off + n + j, none⟩ = some news'[j] := fun j hj =>
    World.cell?_setCells_in l.b news' _ w (fun i hi => (hthere i hi).1) j hj
  let h1 := (h.new (olds ++ news)).kill id
  have hne : h.next ≠ id := by omega
  have hnew : h1.blk h.next = ⟨olds ++ news, (h.blk h.next).ver, true⟩ := by simp [h1, H.kill, H.upd, H.new, hne]
  have hdead : (h1.blk id).alive = false := by simp [h1, H.kill, H.upd]
  have hoth : ∀ j, j ≠ id → j ≠ h.next → h1.blk j = h.blk j := fun j e1 e2 => by simp [h1, H.kill, H.upd, H.new, e1, e2]
  have hapart : ∀ j l', (h.blk j).alive = true → β j = some l' → j ≠ id → l'.b ≠ l.b := fun j l' haj hbj hj => (hH.inj id j l l' ha haj (Ne.symm hj) hlo hb hbj).symm
  refine ⟨hthere, ⟨?_, ?_, ?_, ?_, ?_, ?_, by rw [size_setCells]; exact hH.hB, ?_⟩, ?_⟩
  · intro j haj
    have e1 : j ≠ id := fun e => by rw [e] at haj; rw [show ((h.new (olds ++ news)).kill id) = h1 from rfl, hdead] at haj; cases haj
    by_cases e2 : j = h.next
    · subst e2
      refine ⟨⟨l.b, l.base + off, l.room - off, l.str⟩, Bet.set_same _ _ _, ?_, ?_, fun _ => ⟨⟨hBl.1, fun hm => (hBl.2 hm).setCells _ _ _⟩, fun i hi => ?_⟩⟩
      · show (h1.blk h.next).cells.length ≤ _
        rw [hnew]; simp only [List.length_append]; omega
      · intro i v hv
        replace hv : (h1.blk h.next).cells[i]? = some v := hv
        rw [hnew] at hv
        simp only [] at hv
        rw [List.getElem?_append] at hv
        by_cases hi : i < olds.length
        · rw [if_pos hi] at hv
          obtain ⟨c, hc, hr⟩ := hcell _ v (holds.2 i v hv)
          refine ⟨c, ?_, hr.mono hsub⟩
          show (w.setCells l.b (l.base + off + n) news').cell? ⟨l.b, l.base + off + i, none⟩ = some c
          rw [World.cell?_setCells_out l.b news' _ w _ (fun _ _ => .inl (by show l.base + off + i < l.base + off + n; omega))]
          rw [Nat.add_assoc]; exact hc
        · rw [if_neg hi] at hv
          obtain ⟨c, hc, hr⟩ := hn.get hv
          have hlt : i - olds.length < news'.length := by
            have := (List.getElem?_eq_some_iff.1 hc).1; exact this
          refine ⟨c, ?_, hr.mono hsub⟩
          show (w.setCells l.b (l.base + off + n) news').cell? ⟨l.b, l.base + off + i, none⟩ = some c
          have := hcin (i - olds.length) hlt
          rw [show l.base + off + n + (i - olds.length) = l.base + off + i from by omega] at this
          rw [this, ← hc, List.getElem?_eq_getElem hlt]
      · show ((w.setCells l.b (l.base + off + n) news').cell? ⟨l.b, l.base + off + i, none⟩).isSome = true ∧ (w.setCells l.b (l.base + off + n) news').frozen? ⟨l.b, l.base + off + i, none⟩ = false
        replace hi : i < l.room - off := hi
        rw [World.frozen?_setCells]
        have := hwr (off + i) (by omega)
        rw [← Nat.add_assoc] at this
        exact ⟨World.isSome_setCells _ _ _ _ _ this.1, this.2⟩
    · replace haj : (h1.blk j).alive = true := haj
      rw [hoth j e1 e2] at haj
      obtain ⟨l', hb', hroom', hcell', hown'⟩ := hH.cell j haj
      have hbne := hapart j l' haj hb' e1
      refine ⟨l', hsub _ _ hb', by show (h1.blk j).cells.length ≤ _; rw [hoth j e1 e2]; exact hroom', ?_, ?_⟩
      · intro i v hvi
        replace hvi : (h1.blk j).cells[i]? = some v := hvi
        rw [hoth j e1 e2] at hvi
        obtain ⟨c, hc, hr⟩ := hcell' i v hvi
        exact ⟨c, by rw [World.cell?_setCells_out l.b news' _ w _ (fun hb2 _ => absurd hb2 hbne)]; exact hc, hr.mono hsub⟩
      · intro hlo'
        obtain ⟨x1, x2⟩ := hown' hlo'
        refine ⟨⟨x1.1, fun hm => (x1.2 hm).setCells _ _ _⟩, fun i hi => ?_⟩
        rw [World.frozen?_setCells, World.cell?_setCells_out l.b news' _ w _ (fun hb2 _ => absurd hb2 hbne)]
        exact x2 i hi
  · intro i j li lj hai haj hij hli h3 h4
    have ei : i ≠ id := fun e => by rw [e] at hai; rw [show ((h.new (olds ++ news)).kill id) = h1 from rfl, hdead] at hai; cases hai
    have ej : j ≠ id := fun e => by rw [e] at haj; rw [show ((h.new (olds ++ news)).kill id) = h1 from rfl, hdead] at haj; cases haj
    replace hai : (h1.blk i).alive = true := hai
    replace haj : (h1.blk j).alive = true := haj
    by_cases e2 : i = h.next
    · subst e2
      rw [Bet.set_same] at h3; cases h3
      rw [Bet.set_ne β _ (Ne.symm hij)] at h4
      rw [hoth j ej (Ne.symm hij)] at haj
      exact (hapart j lj haj h4 ej).symm
    · rw [Bet.set_ne β _ e2] at h3
      rw [hoth i ei e2] at hai
      by_cases e3 : j = h.next
      · subst e3
        rw [Bet.set_same] at h4; cases h4
        exact hapart i li hai h3 ei
      · rw [Bet.set_ne β _ e3] at h4
        rw [hoth j ej e3] at haj
        exact hH.inj i j li lj hai haj hij hli h3 h4
  · intro j hj
    have hj' : h.next + 1 ≤ j := hj
    have e1 : j ≠ id := by omega
    have e2 : j ≠ h.next := by omega
    rw [Bet.set_ne β _ e2]
    refine ⟨?_, (hH.bnd j (by omega)).2⟩
    show (h1.blk j).alive = false
    rw [hoth j e1 e2]; exact (hH.bnd j (by omega)).1
  · show (h1.blk 0).alive = false
    by_cases e : 0 = id
    · rw [e]; exact hdead
    · have := hH.pos
      rw [hoth 0 e (by omega)]; exact hH.zero
  · show 0 < h.next + 1; omega
  · have := hH.lo
    show h.lo ≤ h.next + 1; omega
  · intro j l' hj
    rw [size_setCells]
    by_cases e : j = h.next
    · subst e; rw [Bet.set_same] at hj; cases hj; exact hH.blt id l hb
    · rw [Bet.set_ne β _ e] at hj; exact hH.blt j l' hj
  · refine ⟨hsub, below_setCells l.b hBl.1 news' _ w w (Below.refl _ _), rfl, by show h.next ≤ h.next + 1; omega, fun j hj => ?_, fun j hj haj hv => ?_⟩
    · show _ ≤ (h1.blk j).ver
      by_cases e : j = id
      · subst e; simp [h1, H.kill, H.upd, H.new]; split <;> simp_all
      · rw [hoth j e (by omega)]; exact Nat.le_refl _
    · by_cases e : j = id
      · subst e
        have : (h1.blk j).ver = (h.blk j).ver := hv
        have e2 : ¬ (j = h.next) := by omega
        simp [h1, H.kill, H.upd, H.new, e2] at this
      · have he := hoth j e (by omega)
        refine ⟨(congrArg Blk.alive he).trans haj, congrArg Blk.cells he, fun l' hl' i hi => ?_⟩
        rw [World.cell?_setCells_out l.b news' _ w _ (fun hb2 _ => absurd hb2 (hapart j l' haj hl' e))]
end Go.Proofs.Ythoabddfionmoaa.AH
