/- Seat s: the map stays in order. No condition. -/
import Derived.Test.YthoabddfionmoaaC9
set_option linter.unusedVariables false
set_option linter.unusedSimpArgs false
set_option maxRecDepth 100000
namespace Go.Proofs.Ythoabddfionmoaa.AH
open Go Go.RowKit
theorem bl_trans : ∀ (a b c : List UInt8), Op.bytesLess a b = true → Op.bytesLess b c = true → Op.bytesLess a c = true
  | _, [], _, h1, h2 => by cases ‹List UInt8› <;> simp [Op.bytesLess] at h1
  | _, _ :: _, [], h1, h2 => by simp [Op.bytesLess] at h2
  | [], _ :: _, _ :: _, h1, h2 => by simp [Op.bytesLess]
  | a :: xs, b :: bs, c :: cs, h1, h2 => by
    simp only [Op.bytesLess, Bool.or_eq_true, Bool.and_eq_true, decide_eq_true_eq, beq_iff_eq] at h1 h2 ⊢
    rcases h1 with h1 | ⟨rfl, h1⟩ <;> rcases h2 with h2 | ⟨rfl, h2⟩
    · exact .inl (UInt8.lt_trans h1 h2)
    · exact .inl h1
    · exact .inl h2
    · exact .inr ⟨rfl, bl_trans xs bs cs h1 h2⟩
theorem bl_tri : ∀ (a b : List UInt8), Op.bytesLess a b = true ∨ a = b ∨ Op.bytesLess b a = true
  | [], [] => .inr (.inl rfl)
  | [], _ :: _ => .inl (by simp [Op.bytesLess])
  | _ :: _, [] => .inr (.inr (by simp [Op.bytesLess]))
  | a :: xs, b :: bs => by
    simp only [Op.bytesLess, Bool.or_eq_true, Bool.and_eq_true, decide_eq_true_eq, beq_iff_eq, List.cons.injEq]
    rcases Nat.lt_trichotomy a.toNat b.toNat with h | h | h
    · exact .inl (.inl (UInt8.lt_iff_toNat_lt.2 h))
    · have e : a = b := UInt8.toNat_inj.1 h
      subst e
      rcases bl_tri xs bs with t | t | t
      · exact .inl (.inr ⟨rfl, t⟩)
      · exact .inr (.inl ⟨rfl, t⟩)
      · exact .inr (.inr (.inr ⟨rfl, t⟩))
    · exact .inr (.inr (.inl (UInt8.lt_iff_toNat_lt.2 h)))
theorem sLt_trans {a b c : ByteArray} (h1 : sLt a b = true) (h2 : sLt b c = true) : sLt a c = true := bl_trans _ _ _ h1 h2
theorem sLt_tri (a b : ByteArray) : sLt a b = true ∨ a = b ∨ sLt b a = true := by
  rcases bl_tri a.toList b.toList with h | h | h
  · exact .inl h
  · refine .inr (.inl ?_)
    have := bytes_eqb a b
    rw [h] at this
    simpa using this.symm
  · exact .inr (.inr h)
theorem take_tw {α : Type} (p : α → Bool) : ∀ (l : List α), l.take (l.takeWhile p).length = l.takeWhile p
  | [] => rfl
  | a :: l => by
    rw [List.takeWhile_cons]
    split
    · rw [List.length_cons, List.take_succ_cons, take_tw p l]
    · rfl
theorem drop_tw {α : Type} (p : α → Bool) : ∀ (l : List α), l.drop (l.takeWhile p).length = l.dropWhile p
  | [] => rfl
  | a :: l => by
    rw [List.takeWhile_cons, List.dropWhile_cons]
    split
    · rw [List.length_cons, List.drop_succ_cons, drop_tw p l]
    · rfl
theorem mem_tw {α : Type} (p : α → Bool) : ∀ (l : List α) (a : α), a ∈ l.takeWhile p → p a = true
  | [], a, h => by simp at h
  | b :: l, a, h => by
    rw [List.takeWhile_cons] at h
    split at h
    · rename_i hb
      rcases List.mem_cons.1 h with rfl | h
      · exact hb
      · exact mem_tw p l a h
    · simp at h
theorem tw_not {α : Type} (p : α → Bool) : ∀ (l : List α) (h : (l.takeWhile p).length < l.length), p l[(l.takeWhile p).length] = false
  | [], h => by simp at h
  | b :: l, h => by
    by_cases hb : p b = true
    · have e : (List.takeWhile p (b :: l)).length = (l.takeWhile p).length + 1 := by rw [List.takeWhile_cons, if_pos hb]; rfl
      have h' : (l.takeWhile p).length < l.length := by rw [e] at h; simpa using h
      have := tw_not p l h'
      simpa only [e, List.getElem_cons_succ] using this
    · have e : (List.takeWhile p (b :: l)).length = 0 := by rw [List.takeWhile_cons, if_neg hb]; rfl
      simp only [e, List.getElem_cons_zero]
      simpa using hb
theorem pw_put {α : Type} {r : α → α → Prop} (tr : ∀ a b c, r a b → r b c → r a c) {l : List α} (hl : l.Pairwise r) (x : α) (k k' : Nat) (h1 : ∀ a ∈ l.take k, r a x) (h2 : ∀ b ∈ l.drop k', r x b) : (l.take k ++ [x] ++ l.drop k').Pairwise r := by
  rw [List.append_assoc, List.pairwise_append]
  refine ⟨hl.sublist (List.take_sublist _ _), ?_, ?_⟩
  · rw [List.singleton_append, List.pairwise_cons]
    exact ⟨h2, hl.sublist (List.drop_sublist _ _)⟩
  · intro a ha b hb
    rcases List.mem_cons.1 hb with rfl | hb
    · exact h1 a ha
    · exact tr a x b (h1 a ha) (h2 b hb)
theorem pw_del {α : Type} {r : α → α → Prop} {l : List α} (hl : l.Pairwise r) (k : Nat) : (l.take k ++ l.drop (k + 1)).Pairwise r := by
  have e := List.eraseIdx_eq_take_drop_succ l k
  rw [← e]
  exact hl.sublist (List.eraseIdx_sublist _ _)
theorem pw_drop {α : Type} {r : α → α → Prop} {l : List α} (hl : l.Pairwise r) (k : Nat) (hk : k < l.length) : ∀ b ∈ l.drop (k + 1), r l[k] b := by
  have e : l.drop k = l[k] :: l.drop (k + 1) := List.drop_eq_getElem_cons hk
  have := hl.sublist (List.drop_sublist k l)
  rw [e, List.pairwise_cons] at this
  exact this.1
def rPr (a b : Pr) : Prop := sLt a.k b.k = true
def rSe (a b : Se) : Prop := a.i < b.i
def Kv.srt (s : Kv) : Prop := s.cells.Pairwise rPr ∧ s.sess.Pairwise rSe
theorem rPr_tr (a b c : Pr) (h1 : rPr a b) (h2 : rPr b c) : rPr a c := sLt_trans h1 h2
theorem rSe_tr (a b c : Se) (h1 : rSe a b) (h2 : rSe b c) : rSe a c := Int.lt_trans h1 h2
theorem putPr_srt {l : List Pr} (hl : l.Pairwise rPr) (x : Pr) : (putPr l x).Pairwise rPr := by
  unfold putPr
  refine pw_put rPr_tr hl x _ _ (fun a ha => ?_) (fun b hb => ?_)
  · unfold kPr at ha
    rw [take_tw] at ha
    exact mem_tw (fun y => sLt y.k x.k) l a ha
  · cases e : hasPr l x.k
    · rw [e] at hb
      simp only [Bool.false_eq_true, if_false] at hb
      by_cases hk : kPr l x.k < l.length
      · have n1 : sLt l[kPr l x.k].k x.k = false := tw_not _ l hk
        have n2 : ¬ l[kPr l x.k].k = x.k := by
          unfold hasPr at e; rw [List.getElem?_eq_getElem hk] at e; simpa using e
        have n3 : rPr x l[kPr l x.k] := by
          rcases sLt_tri x.k l[kPr l x.k].k with t | t | t
          · exact t
          · exact absurd t.symm n2
          · rw [n1] at t; cases t
        rw [List.drop_eq_getElem_cons hk] at hb
        rcases List.mem_cons.1 hb with rfl | hb
        · exact n3
        · exact rPr_tr _ _ _ n3 (pw_drop hl _ hk b hb)
      · rw [List.drop_of_length_le (by omega)] at hb; simp at hb
    · rw [e] at hb
      simp only [if_true] at hb
      have hk := hasPr_lt e
      have n2 : l[kPr l x.k].k = x.k := by
        unfold hasPr at e; rw [List.getElem?_eq_getElem hk] at e; simpa using e
      have := pw_drop hl _ hk b hb
      unfold rPr at this ⊢
      rw [n2] at this
      exact this
theorem doPr_srt {l : List Pr} (hl : l.Pairwise rPr) (c : Cmd) : (doPr l c).1.Pairwise rPr := by
  unfold doPr
  split
  · split
    · exact hl
    · exact putPr_srt hl _
  · split
    · exact hl
    · split
      · exact hl
      · split
        · exact pw_del hl _
        · split
          · exact hl
          · exact putPr_srt hl _
theorem putSe_srt {s : Kv} (hl : s.sess.Pairwise rSe) (x : Cmd) (e' : Se) (he : e'.i = x.s) : (s.sess.take (kSe s.sess x.s) ++ [e'] ++ s.sess.drop (if hasSe s.sess x.s then kSe s.sess x.s + 1 else kSe s.sess x.s)).Pairwise rSe := by
  refine pw_put rSe_tr hl e' _ _ (fun a ha => ?_) (fun b hb => ?_)
  · unfold kSe at ha
    rw [take_tw] at ha
    have := mem_tw _ _ _ ha
    simp only [decide_eq_true_eq] at this
    unfold rSe; omega
  · cases e : hasSe s.sess x.s
    · rw [e] at hb
      simp only [Bool.false_eq_true, if_false] at hb
      by_cases hk : kSe s.sess x.s < s.sess.length
      · have n1 := tw_not _ s.sess hk
        simp only [decide_eq_false_iff_not] at n1
        have n2 : ¬ s.sess[kSe s.sess x.s].i = x.s := by
          unfold hasSe at e; rw [List.getElem?_eq_getElem hk] at e; simpa using e
        have n3 : rSe e' s.sess[kSe s.sess x.s] := by
          unfold rSe
          have : ¬ s.sess[kSe s.sess x.s].i < x.s := n1
          omega
        rw [List.drop_eq_getElem_cons hk] at hb
        rcases List.mem_cons.1 hb with rfl | hb
        · exact n3
        · exact rSe_tr _ _ _ n3 (pw_drop hl _ hk b hb)
      · rw [List.drop_of_length_le (by omega)] at hb; simp at hb
    · rw [e] at hb
      simp only [if_true] at hb
      have hk := hasSe_lt e
      have n2 : s.sess[kSe s.sess x.s].i = x.s := by
        unfold hasSe at e; rw [List.getElem?_eq_getElem hk] at e; simpa using e
      have := pw_drop hl _ hk b hb
      unfold rSe at this ⊢
      omega
theorem applySt_srt {s : Kv} (k : s.srt) (c : Cmd) : (applySt s c).1.srt := by
  unfold applySt
  split
  · exact k
  · split
    · exact k
    · split
      · exact k
      · exact ⟨doPr_srt k.1 c, putSe_srt k.2 c _ rfl⟩
theorem mono_of {α : Type} {r : α → α → Prop} {l : List α} (hl : l.Pairwise r) (p : α → Prop) (hp : ∀ a b, r a b → p b → p a) : ∀ i j (hi : i < j) (hj : j < l.length), p l[j] → p l[i] := by
  intro i j hi hj h
  exact hp _ _ (List.pairwise_iff_getElem.1 hl i j (by omega) hj hi) h
/-! The places. -/
theorem c73 (s : Kv) (hs : s.ok) (hr : s.srt) (x : Int) (p : Nat) (cs : List V) (h : H) (hk : Hok h) {z1 i1 o1 z2 i2 o2 : Nat} (B : Bx h p [.sl z1 i1 o1 s.cells.length, .sl z2 i2 o2 s.sess.length]) (s2 : Sl s.sess h z2 i2 o2) :
    Wp (R 73 [.ptr p 0, .int .i64 x] h) fun r h' => r = .tup [.int .i64 (kSe s.sess x), .bool (hasSe s.sess x)] ∧ Fr [] h h' := by
  refine R73 rfl ?_
  rw [S73_eq]
  have e1 : ld1 h (.ptr p (0 + 1)) = some (.sl z2 i2 o2 s.sess.length) := B.ld1 (o := 1) (by simp)
  refine Wp.b (nilC_ptr B.ne) (Wp.b (fA_ptr B.ne) (Wp.b e1 ?_))
  have := hs.2
  refine Wp.bind (c87 s.sess (by omega) x (mono_of hr.2 (fun a => a.i < x) (fun a b hab hb => Int.lt_trans hab hb)) z2 i2 o2 h hk s2) ?_
  rintro r h' ⟨rfl, F⟩
  exact Wp.b rfl (Wp.b rfl (Wp.r2 rfl rfl rfl rfl ⟨rfl, F⟩))
theorem c62 (s : Kv) (hs : s.ok) (hr : s.srt) (x : ByteArray) (p : Nat) (cs : List V) (h : H) (hk : Hok h) {z1 i1 o1 z2 i2 o2 : Nat} (B : Bx h p [.sl z1 i1 o1 s.cells.length, .sl z2 i2 o2 s.sess.length]) (s1 : Sl s.cells h z1 i1 o1) :
    Wp (R 62 [.ptr p 0, .str x] h) fun r h' => r = .tup [.int .i64 (kPr s.cells x), .bool (hasPr s.cells x)] ∧ Fr [] h h' := by
  refine R62 rfl ?_
  rw [S62_eq]
  have e1 : ld1 h (.ptr p (0 + 0)) = some (.sl z1 i1 o1 s.cells.length) := B.ld1 (o := 0) (by simp)
  refine Wp.b (nilC_ptr B.ne) (Wp.b (fA_ptr B.ne) (Wp.b e1 ?_))
  have := hs.1
  refine Wp.bind (c80 s.cells (by omega) x (mono_of hr.1 (fun a => sLt a.k x = true) (fun a b hab hb => sLt_trans hab hb)) z1 i1 o1 h hk s1) ?_
  rintro r h' ⟨rfl, F⟩
  exact Wp.b rfl (Wp.b rfl (Wp.r2 rfl rfl rfl rfl ⟨rfl, F⟩))
end Go.Proofs.Ythoabddfionmoaa.AH
