/- A machine's own blocks as a list: what stands in each, none met twice. Steps that keep it. No condition. -/
import Derived.Test.YthoabddfionmoaaAG
set_option linter.unusedVariables false
set_option linter.unusedSimpArgs false
namespace Go.Proofs.Ythoabddfionmoaa.AH
open Go Go.RowKit

/-- From h0 to g; L: the blocks made since (or handed over), each with its number and its cells. -/
structure Mm (h0 g : H) (L : List (Nat × List V)) : Prop where
  k0 : Hok h0
  k : Hok g
  F : Fr [] h0 g
  own : ∀ x ∈ L, (x.1 = 0 ∧ x.2 = []) ∨ (x.1 ≠ 0 ∧ h0.next ≤ x.1 ∧ x.1 < g.next ∧ ∃ ver, g.blk x.1 = ⟨x.2, ver, true⟩)
  nd : L.Pairwise fun a b => a.1 ≠ b.1 ∨ a.1 = 0
theorem Mm.base {h : H} (k : Hok h) : Mm h h [] := ⟨k, k, Fr.refl _ _, fun x hx => (by cases hx), List.Pairwise.nil⟩
theorem Mm.sub {h0 g : H} {L M : List (Nat × List V)} (s : Mm h0 g L) (m : M.Sublist L) : Mm h0 g M :=
  ⟨s.k0, s.k, s.F, fun x hx => s.own x (m.mem hx), s.nd.sublist m⟩
theorem Mm.tail {h0 g : H} {x : Nat × List V} {L : List (Nat × List V)} (s : Mm h0 g (x :: L)) : Mm h0 g L := s.sub (List.sublist_cons_self _ _)
theorem Mm.perm {h0 g : H} {L M : List (Nat × List V)} (s : Mm h0 g L) (m : L.Perm M) : Mm h0 g M := by
  refine ⟨s.k0, s.k, s.F, fun x hx => s.own x (m.mem_iff.2 hx), (m.pairwise_iff ?_).1 s.nd⟩
  intro a b h
  rcases h with h | h
  · exact .inl (Ne.symm h)
  · by_cases e : a.1 = b.1
    · exact .inr (by omega)
    · exact .inl (Ne.symm e)
/-- Another machine's work behind this one's. -/
theorem Mm.call {h0 g g' : H} {L M : List (Nat × List V)} (s : Mm h0 g L) (t : Mm g g' M) : Mm h0 g' (M ++ L) := by
  have hn := s.F.2.1
  refine ⟨s.k0, t.k, s.F.trans0 t.F, fun x hx => ?_, List.pairwise_append.2 ⟨t.nd, s.nd, fun a ha b hb => ?_⟩⟩
  · rcases List.mem_append.1 hx with hx | hx
    · exact (t.own x hx).imp (fun q => q) fun ⟨a, b, c, d⟩ => ⟨a, Nat.le_trans hn b, c, d⟩
    · refine (s.own x hx).imp (fun q => q) fun ⟨a, b, c, ver, d⟩ => ⟨a, b, Nat.lt_of_lt_of_le c t.F.2.1, ver, ?_⟩
      rw [t.F.blk0 a c, d]
  · rcases t.own a ha with ⟨q, _⟩ | ⟨_, q, _⟩
    · exact .inr q
    · rcases s.own b hb with ⟨r, _⟩ | ⟨r0, _, r, _⟩
      · by_cases e : a.1 = 0
        · exact .inr e
        · exact .inl (by omega)
      · exact .inl (by omega)
theorem Mm.call0 {h0 g g' : H} {L : List (Nat × List V)} (s : Mm h0 g L) (k : Hok g') (F : Fr [] g g') : Mm h0 g' L := s.call (M := []) ⟨s.k, k, F, fun x hx => (by cases hx), List.Pairwise.nil⟩
theorem Mm.fr0 {h0 g g' : H} {L : List (Nat × List V)} (s : Mm h0 g L) (F : Fr [] g g') : Mm h0 g' L := s.call0 (F.ok s.k) F
/-- One block of L takes other cells, or another block takes its place. -/
theorem Mm.set {h0 g g' : H} {L : List (Nat × List V)} (s : Mm h0 g L) {i : Nat} {x : Nat × List V} (hx : L[i]? = some x) {y : Nat × List V} (F : Fr [x.1] g g') (k : Hok g')
    (hy : (y.1 = 0 ∧ y.2 = []) ∨ ((y.1 = x.1 ∨ g.next ≤ y.1) ∧ y.1 ≠ 0 ∧ y.1 < g'.next ∧ ∃ ver, g'.blk y.1 = ⟨y.2, ver, true⟩)) : Mm h0 g' (L.set i y) := by
  have hn := s.F.2.1
  have hlt : i < L.length := (List.getElem?_eq_some_iff.1 hx).1
  have hxm : x ∈ L := List.mem_of_getElem? hx
  have hgi : L[i] = x := (List.getElem?_eq_some_iff.1 hx).2
  have hsx : x.1 = 0 ∨ h0.next ≤ x.1 := (s.own x hxm).imp (fun q => q.1) fun q => q.2.1
  have hne : ∀ j (hj : j < L.length), j ≠ i → L[j].1 ≠ x.1 ∨ L[j].1 = 0 := fun j hj e => by
    rcases Nat.lt_or_gt_of_ne e with e | e
    · have := List.pairwise_iff_getElem.1 s.nd j i hj hlt e; rw [hgi] at this; exact this
    · have := List.pairwise_iff_getElem.1 s.nd i j hlt hj e
      rw [hgi] at this
      rcases this with q | q
      · exact .inl (Ne.symm q)
      · by_cases e2 : L[j].1 = 0
        · exact .inr e2
        · exact .inl (by omega)
  refine ⟨s.k0, k, ⟨F.1.trans s.F.1, Nat.le_trans hn F.2.1, fun j h0' h1 _ => ?_⟩, fun z hz => ?_, List.pairwise_iff_getElem.2 fun a b ha hb hab => ?_⟩
  · rw [F.2.2 j h0' (by omega) (by rw [List.mem_singleton]; omega)]; exact s.F.2.2 j h0' h1 (by simp)
  · obtain ⟨j, hj, rfl⟩ := List.getElem_of_mem hz
    rw [List.length_set] at hj
    by_cases e : j = i
    · subst e
      rw [List.getElem_set_self]
      refine hy.imp (fun q => q) fun ⟨a, b, c, d⟩ => ⟨b, ?_, c, d⟩
      rcases a with a | a <;> omega
    · rw [List.getElem_set_ne (Ne.symm e)]
      refine (s.own _ (List.getElem_mem hj)).imp (fun q => q) fun ⟨a, b, c, ver, d⟩ => ⟨a, b, Nat.lt_of_lt_of_le c F.2.1, ver, ?_⟩
      rcases hne j hj e with q | q
      · rw [F.2.2 _ a c (by rw [List.mem_singleton]; exact q), d]
      · exact absurd q a
  · have ha' : a < L.length := by simpa using ha
    have hb' : b < L.length := by simpa using hb
    have key : ∀ j (hj : j < L.length), j ≠ i → L[j].1 ≠ y.1 ∨ L[j].1 = 0 ∨ y.1 = 0 := fun j hj e => by
      rcases hy with ⟨q, _⟩ | ⟨q, _⟩
      · exact .inr (.inr q)
      · rcases q with q | q
        · rw [q]; rcases hne j hj e with r | r
          · exact .inl r
          · exact .inr (.inl r)
        · rcases s.own _ (List.getElem_mem hj) with ⟨r, _⟩ | ⟨_, _, r, _⟩
          · exact .inr (.inl r)
          · exact .inl (by omega)
    by_cases e1 : a = i
    · subst e1
      rw [List.getElem_set_self, List.getElem_set_ne (by omega)]
      by_cases e0 : y.1 = 0
      · exact .inr e0
      · rcases key b hb' (by omega) with q | q | q
        · exact .inl (Ne.symm q)
        · exact .inl (by omega)
        · exact absurd q e0
    · rw [List.getElem_set_ne (Ne.symm e1)]
      by_cases e2 : b = i
      · subst e2
        rw [List.getElem_set_self]
        rcases key a ha' e1 with q | q | q
        · exact .inl q
        · exact .inr q
        · by_cases e0 : L[a].1 = 0
          · exact .inr e0
          · exact .inl (by omega)
      · rw [List.getElem_set_ne (Ne.symm e2)]
        exact List.pairwise_iff_getElem.1 s.nd a b ha' hb' hab
theorem Mm.cons {h0 g g' : H} {L : List (Nat × List V)} (s : Mm h0 g L) {y : Nat × List V} (F : Fr [] g g') (k : Hok g') (hy : g.next ≤ y.1 ∧ y.1 ≠ 0 ∧ y.1 < g'.next ∧ ∃ ver, g'.blk y.1 = ⟨y.2, ver, true⟩) : Mm h0 g' (y :: L) :=
  s.call (M := [y]) ⟨s.k, k, F, fun x hx => by rw [List.mem_singleton] at hx; subst hx; exact .inr ⟨hy.2.1, hy.1, hy.2.2⟩, List.pairwise_singleton _ _⟩
theorem Mm.blk {h0 g : H} {L : List (Nat × List V)} (s : Mm h0 g L) {i : Nat} {b : Nat} {cs : List V} (hx : L[i]? = some (b, cs)) (hb : b ≠ 0) : h0.next ≤ b ∧ b < g.next ∧ g.lo ≤ b ∧ ∃ ver, g.blk b = ⟨cs, ver, true⟩ := by
  rcases s.own _ (List.mem_of_getElem? hx) with ⟨q, _⟩ | ⟨q1, q2, q3, q4⟩
  · exact absurd q hb
  · have h1 := s.F.1
    have h2 := s.k0.2
    exact ⟨q2, q3, by omega, q4⟩
/-! ### Values: slices that are owned, slices that are read -/
section
variable {α : Type} [Enc α]
/-- An owned slice: the block id, whole. -/
def OV (v : V) (l : List α) (id : Nat) : Prop := ∃ z, v = .sl z id 0 l.length ∧ (id = 0 ∧ l = [] ∨ id ≠ 0 ∧ z = Enc.sz α)
/-- A slice that reads l. -/
def RV (h : H) (v : V) (l : List α) : Prop := ∃ z id off, v = .sl z id off l.length ∧ Sl l h z id off
theorem OV.nil : OV (.sl 0 0 0 0) ([] : List α) 0 := ⟨0, rfl, .inl ⟨rfl, rfl⟩⟩
theorem RV.nil (h : H) : RV h (.sl 0 0 0 0) ([] : List α) := ⟨0, 0, 0, rfl, .inl ⟨rfl, rfl⟩⟩
theorem RV.fr {h h' : H} {v : V} {l : List α} (r : RV h v l) (F : Fr [] h h') : RV h' v l := by
  obtain ⟨z, id, off, rfl, s⟩ := r; exact ⟨z, id, off, rfl, s.fr0 F⟩
theorem Mm.rv {h0 g : H} {L : List (Nat × List V)} (s : Mm h0 g L) (i : Nat) {v : V} {l : List α} {id : Nat} (o : OV v l id) (hx : L[i]? = some (id, flat l)) : RV g v l := by
  obtain ⟨z, rfl, o⟩ := o
  rcases o with ⟨rfl, rfl⟩ | ⟨h1, h2⟩
  · exact ⟨z, 0, 0, rfl, .inl ⟨rfl, rfl⟩⟩
  · obtain ⟨_, q2, _, ver, q4⟩ := s.blk hx h1
    refine ⟨z, id, 0, rfl, .inr ⟨h1, h2, q2, ?_⟩⟩
    rw [q4, bload_mk _ _ _ _ (by rw [flat_len]; omega), List.drop_zero, List.take_of_length_le (by rw [flat_len]; exact Nat.le_refl _)]
theorem Mm.bor {h0 g : H} {L : List (Nat × List V)} (s : Mm h0 g L) {v : V} {l : List α} (r : RV h0 v l) : RV g v l := r.fr s.F
theorem RV.len {h : H} {v : V} {l : List α} (r : RV h v l) : lenL v = some (.int .i64 l.length) := by obtain ⟨z, id, off, rfl, s⟩ := r; rfl
theorem OV.len {v : V} {l : List α} {id : Nat} (r : OV v l id) : lenL v = some (.int .i64 l.length) := by obtain ⟨z, rfl, s⟩ := r; rfl
/-- A read of an element: its address, its cells. -/
theorem RV.at {h : H} {v : V} {l : List α} (r : RV h v l) {i : Nat} (hi : i < l.length) : ∃ b o, b ≠ 0 ∧ b < h.next ∧ iA (Enc.sz α) v (.int .i64 i) = some (.ptr b o) ∧ bload (h.blk b) o (Enc.sz α) = some (Enc.enc l[i]) := by
  obtain ⟨z, id, off, rfl, s⟩ := r
  have p := s.pos hi
  exact ⟨id, off + i * Enc.sz α, p.1, p.2.2, iA_sl hi, s.get hi⟩
theorem RV.slH {h : H} {v : V} {l : List α} (r : RV h v l) {b : Nat} (hb : b ≤ l.length) : ∃ v', slL (Enc.sz α) v none (some (.int .i64 b)) none = some v' ∧ RV h v' (l.take b) := by
  obtain ⟨z, id, off, rfl, s⟩ := r
  refine ⟨_, slL_hi s.zor hb, z, id, off, ?_, by simpa using s.sub 0 b (by omega)⟩
  rw [List.length_take, Nat.min_eq_left hb]
theorem RV.slL {h : H} {v : V} {l : List α} (r : RV h v l) {a : Nat} (ha : a ≤ l.length) : ∃ v', slL (Enc.sz α) v (some (.int .i64 a)) none none = some v' ∧ RV h v' (l.drop a) := by
  obtain ⟨z, id, off, rfl, s⟩ := r
  refine ⟨_, slL_lo s.zor ha, z, id, off + a * Enc.sz α, by rw [List.length_drop], ?_⟩
  have := s.sub a (l.length - a) (by omega)
  rwa [List.take_of_length_le (by simp)] at this
theorem RV.slB {h : H} {v : V} {l : List α} (r : RV h v l) {a b : Nat} (ha : a ≤ b) (hb : b ≤ l.length) : ∃ v', AH.slL (Enc.sz α) v (some (.int .i64 a)) (some (.int .i64 b)) none = some v' ∧ RV h v' ((l.drop a).take (b - a)) := by
  obtain ⟨z, id, off, rfl, s⟩ := r
  refine ⟨_, slL_some s.zor ha hb, z, id, off + a * Enc.sz α, by rw [List.length_take, List.length_drop, Nat.min_eq_left (by omega)], s.sub a (b - a) (by omega)⟩
end
/-- A load of one cell, of n cells, out of a box. -/
theorem Mm.ld1 {h0 g : H} {L : List (Nat × List V)} (s : Mm h0 g L) (i : Nat) {b : Nat} {cs : List V} (hx : L[i]? = some (b, cs)) (hb : b ≠ 0) (o : Nat) {c : V} (hc : cs[o]? = some c) : AH.ld1 g (.ptr b o) = some c := by
  obtain ⟨_, _, _, ver, q⟩ := s.blk hx hb
  have hlt := (List.getElem?_eq_some_iff.1 hc).1
  rw [ld1_ptr, q, bload_mk _ _ _ _ (by omega)]
  show ((cs.drop o).take 1).head? = some c
  rw [List.head?_take, List.head?_drop, hc]; rfl
theorem Mm.ldn {h0 g : H} {L : List (Nat × List V)} (s : Mm h0 g L) (i : Nat) {b : Nat} {cs : List V} (hx : L[i]? = some (b, cs)) (hb : b ≠ 0) (o n : Nat) {ds : List V} (ho : o + n ≤ cs.length) (hd : (cs.drop o).take n = ds) : AH.ldn n g (.ptr b o) = some (.agg ds) := by
  obtain ⟨_, _, _, ver, q⟩ := s.blk hx hb
  rw [ldn_ptr, q, bload_mk _ _ _ _ ho, hd]; rfl
theorem fA_p {o b : Nat} (hb : b ≠ 0) : fA o (.ptr b 0) = some (.ptr b o) := by
  show (if b = 0 then none else some (V.ptr b (0 + o))) = _
  rw [if_neg hb, Nat.zero_add]
/-! ### Steps -/
theorem Wp.box {h0 g : H} {L : List (Nat × List V)} (s : Mm h0 g L) {v : V} {cs : List V} (hv : cellsV v = some cs) {f : V → H → Option (V × H)} {Q : V → H → Prop}
    (c : ∀ b g', b ≠ 0 → Fr [] g g' → Mm h0 g' ((b, cs) :: L) → Wp (f (.ptr b 0) g') Q) : Wp (bxK g v f) Q := by
  rw [bxK_eq, hv]
  exact c g.next (g.new cs) s.k.pos ((Fr.refl _ _).new _) (s.cons ((Fr.refl _ _).new _) (s.k.new _) ⟨Nat.le_refl _, s.k.pos, Nat.lt_succ_self _, _, by rw [blk_new, if_pos rfl]⟩)
theorem Wp.alo {h0 g : H} {L : List (Nat × List V)} (s : Mm h0 g L) {z : List V} {f : V → H → Option (V × H)} {Q : V → H → Prop}
    (c : ∀ b g', b ≠ 0 → Fr [] g g' → Mm h0 g' ((b, z) :: L) → Wp (f (.ptr b 0) g') Q) : Wp (alK z g f) Q :=
  c g.next (g.new z) s.k.pos ((Fr.refl _ _).new _) (s.cons ((Fr.refl _ _).new _) (s.k.new _) ⟨Nat.le_refl _, s.k.pos, Nat.lt_succ_self _, _, by rw [blk_new, if_pos rfl]⟩)
/-- A store into a box: 'ds' are the box's cells behind it. -/
theorem Wp.sto {h0 g : H} {L : List (Nat × List V)} (s : Mm h0 g L) (i : Nat) {b : Nat} {cs : List V} (hx : L[i]? = some (b, cs)) (hb : b ≠ 0) {n o : Nat} {v : V} {vs ds : List V} (hv : cellsV v = some vs) (hn : vs.length = n) (ho : o + n ≤ cs.length)
    (hd : cs.take o ++ vs ++ cs.drop (o + n) = ds) {f : H → Option (V × H)} {Q : V → H → Prop} (c : ∀ g', Fr [b] g g' → Mm h0 g' (L.set i (b, ds)) → Wp (f g') Q) : Wp (stN n g (.ptr b o) v f) Q := by
  obtain ⟨_, q2, q3, ver, q⟩ := s.blk hx hb
  refine Wp.st hv hn (by rw [q]) q3 (by rw [q]; exact ho) ?_
  intro g' ver' gn gb F'
  refine c g' F' (s.set hx F' (F'.ok s.k) (.inr ⟨.inl rfl, hb, by rw [gn]; exact q2, ver', ?_⟩))
  rw [gb, q, ← hd, hn]
section
variable {α : Type} [Enc α]
/-- A slice of listed elements. -/
theorem Wp.lit {h0 g : H} {L : List (Nat × List V)} (s : Mm h0 g L) (l : List α) {z : List V} {ps : List (Nat × Nat × V)} {sz n : Nat} (hv : bld z ps = some (flat l)) (hs : sz = Enc.sz α) (hn : n = l.length) {f : V → H → Option (V × H)} {Q : V → H → Prop}
    (c : ∀ v id g', OV v l id → id ≠ 0 → Fr [] g g' → Mm h0 g' ((id, flat l) :: L) → Wp (f v g') Q) : Wp (bsK sz n g z ps f) Q := by
  subst hs; subst hn
  rw [bsK_eq, hv]
  exact c _ g.next (g.new (flat l)) ⟨_, rfl, .inr ⟨s.k.pos, rfl⟩⟩ s.k.pos ((Fr.refl _ _).new _) (s.cons ((Fr.refl _ _).new _) (s.k.new _) ⟨Nat.le_refl _, s.k.pos, Nat.lt_succ_self _, _, by rw [blk_new, if_pos rfl]⟩)
/-- Append, to a slice that is owned. -/
theorem Wp.appx {h0 g : H} {L : List (Nat × List V)} (s : Mm h0 g L) (i : Nat) {v w : V} {l m : List α} {id : Nat} (o : OV v l id) (hx : L[i]? = some (id, flat l)) (r : RV g w m) {sz bytes : Nat} (hs : sz = Enc.sz α)
    (hb : (l.length + m.length) * bytes ≤ 140737488355328) (hn : l.length + m.length ≤ 4611686018427387904) {f : V × H → Option (V × H)} {Q : V → H → Prop}
    (c : ∀ v' id' g', OV v' (l ++ m) id' → (m = [] ∧ id' = id ∨ g.next ≤ id') → Fr [id] g g' → Mm h0 g' (L.set i (id', flat (l ++ m))) → Wp (f (v', g')) Q) : Wp ((apL sz bytes g v w).bind f) Q := by
  subst hs
  have hrv := s.rv i o hx
  obtain ⟨z, rfl, o⟩ := o
  obtain ⟨z', id', off', rfl, s'⟩ := r
  obtain ⟨z1, i1, o1, e, sl⟩ := hrv
  simp only [V.sl.injEq] at e
  obtain ⟨rfl, rfl, rfl, _⟩ := e
  have own : id = 0 ∨ g.lo ≤ id := by
    rcases o with o | o
    · exact .inl o.1
    · exact .inr (s.blk hx o.1).2.2.1
  by_cases hm : m = []
  · subst hm
    have : apL (Enc.sz α) bytes g (.sl z id 0 l.length) (.sl z' id' off' ([] : List α).length) = some (.sl z id 0 l.length, g) := by
      have e1 : srcL g (Enc.sz α) (.sl z' id' off' ([] : List α).length) = some (0, []) := by
        simp only [srcL, List.length_nil, Nat.zero_mul, if_true]
        split <;> rfl
      simp only [apL, e1, Option.bind_some, if_true]
    rw [this]
    refine c _ id g ⟨z, by simp, by simpa using o⟩ (.inl ⟨rfl, rfl⟩) (Fr.refl _ _) ?_
    have e2 : L.set i (id, flat (l ++ [])) = L := by
      rw [List.append_nil]
      obtain ⟨h1, h2⟩ := List.getElem?_eq_some_iff.1 hx
      rw [← h2]; exact List.set_getElem_self h1
    rw [e2]; exact s
  · obtain ⟨z2, id2, off2, g2, e, F', s2, own2, fr⟩ := apL_sl s.k sl own s' hb hn
    have hml : 0 < m.length := List.length_pos_iff.2 hm
    rw [e]
    rcases fr with fr | fr
    · exact absurd fr.1 hm
    -- the block that append made, from its own text
    have hne : ¬ m.length * Enc.sz α = 0 := Nat.ne_of_gt (Nat.mul_pos hml Enc.pos)
    obtain ⟨n1, n2, n3, n4⟩ : id2 ≠ 0 ∧ z2 = Enc.sz α ∧ off2 = 0 ∧ g2.blk id2 = ⟨flat (l ++ m), (g.blk id2).ver, true⟩ ∧ id2 < g2.next := by
      rcases s' with s' | s'
      · exact absurd s'.2 hm
      have e1 : srcL g (Enc.sz α) (.sl z' id' off' m.length) = some (m.length, flat m) := by
        simp only [srcL, if_neg s'.1, if_neg hne]; rw [load_eq, s'.2.2.2]; rfl
      simp only [apL, e1, Option.bind_some, if_neg (Nat.ne_of_gt hml)] at e
      split at e
      · have e2 : (if l.length = 0 then some [] else g.load id 0 (l.length * Enc.sz α)) = some (flat l) := by
          split
          · rename_i q; rw [List.length_eq_zero_iff.1 q]; rfl
          · rename_i q
            rcases sl with sl | sl
            · rw [sl.2] at q; exact absurd rfl q
            · rw [load_eq]; exact sl.2.2.2
        rw [e2] at e
        simp only [Option.bind_some, Option.some.injEq, Prod.mk.injEq, V.sl.injEq] at e
        obtain ⟨⟨rfl, rfl, rfl, _⟩, rfl⟩ := e
        have hid : g.next ≠ id := by
          rcases sl with sl | sl
          · rw [sl.1]; exact s.k.pos
          · have := sl.2.2.1; omega
        refine ⟨s.k.pos, rfl, rfl, ?_, by simp⟩
        rw [blk_kill, if_neg hid, blk_new, if_pos rfl, flat_append]
      · cases e
    subst n2 n3
    refine c _ id2 g2 ⟨_, rfl, .inr ⟨n1, rfl⟩⟩ (.inr fr) F' (s.set hx F' (F'.ok s.k) (.inr ⟨.inr fr, n1, n4.2, _, n4.1⟩))
theorem Wp.app {h0 g : H} {L : List (Nat × List V)} (s : Mm h0 g L) (i : Nat) {v w : V} {l m : List α} {id : Nat} (o : OV v l id) (hx : L[i]? = some (id, flat l)) (r : RV g w m) {sz bytes : Nat} (hs : sz = Enc.sz α)
    (hb : (l.length + m.length) * bytes ≤ 140737488355328) (hn : l.length + m.length ≤ 4611686018427387904) {f : V × H → Option (V × H)} {Q : V → H → Prop}
    (c : ∀ v' id' g', OV v' (l ++ m) id' → Fr [id] g g' → Mm h0 g' (L.set i (id', flat (l ++ m))) → Wp (f (v', g')) Q) : Wp ((apL sz bytes g v w).bind f) Q :=
  Wp.appx s i o hx r hs hb hn fun v' id' g' o _ F s => c v' id' g' o F s
/-- A store into an element of an owned slice, at its field f. -/
theorem Wp.els {h0 g : H} {L : List (Nat × List V)} (s : Mm h0 g L) (i : Nat) {v : V} {l : List α} {id : Nat} (o : OV v l id) (hx : L[i]? = some (id, flat l)) {k : Nat} (hk : k < l.length) (a : α) (f : Nat) {n off : Nat} {w : V} {vs : List V} (hv : cellsV w = some vs) (hn : vs.length = n) (hf : f + n ≤ Enc.sz α)
    (ho : off = k * Enc.sz α + f) (ha : Enc.enc a = (Enc.enc l[k]).take f ++ vs ++ (Enc.enc l[k]).drop (f + vs.length)) {F : H → Option (V × H)} {Q : V → H → Prop}
    (c : ∀ g', Fr [id] g g' → OV v (l.set k a) id → Mm h0 g' (L.set i (id, flat (l.set k a))) → Wp (F g') Q) : Wp (stN n g (.ptr id off) w F) Q := by
  obtain ⟨z, rfl, o⟩ := o
  rcases o with ⟨_, rfl⟩ | ⟨h1, h2⟩
  · simp at hk
  have hkk : k * Enc.sz α + Enc.sz α ≤ l.length * Enc.sz α := by have := Nat.mul_le_mul_right (Enc.sz α) hk; rw [Nat.succ_mul] at this; exact this
  refine Wp.sto s i hx h1 hv hn (by rw [flat_len]; omega) (ds := flat (l.set k a)) ?_ fun g' F' s' => c g' F' ⟨z, by rw [List.length_set], .inr ⟨h1, h2⟩⟩ s'
  rw [flat_setf l k hk a f vs (by omega) ha, ho, hn]
end
/-! ### Lists in two parts -/
section
variable {α : Type} [Enc α]
theorem RV.mid {h : H} {v : V} {A B : List α} {e : α} (r : RV h v (A ++ e :: B)) : ∃ b o, b ≠ 0 ∧ b < h.next ∧ iA (Enc.sz α) v (.int .i64 A.length) = some (.ptr b o) ∧ bload (h.blk b) o (Enc.sz α) = some (Enc.enc e) := by
  obtain ⟨b, o, h1, h2, h3, h4⟩ := r.at (i := A.length) (by simp)
  refine ⟨b, o, h1, h2, h3, ?_⟩
  rw [h4, List.getElem_append_right (Nat.le_refl _)]
  simp
/-- The address of an element that is owned. -/
theorem OV.mid {v : V} {A B : List α} {e : α} {id : Nat} (o : OV v (A ++ e :: B) id) : id ≠ 0 ∧ iA (Enc.sz α) v (.int .i64 A.length) = some (.ptr id (A.length * Enc.sz α)) := by
  obtain ⟨z, rfl, o⟩ := o
  rcases o with ⟨_, o⟩ | ⟨o, _⟩
  · simp at o
  · refine ⟨o, ?_⟩
    rw [iA_sl (by simp), Nat.zero_add]
theorem fA_o {o b k : Nat} (hb : b ≠ 0) : fA o (.ptr b k) = some (.ptr b (k + o)) := if_neg hb
/-- A store into the element between A and B, at its field f. -/
theorem Wp.elm {h0 g : H} {L : List (Nat × List V)} (s : Mm h0 g L) (i : Nat) {v : V} {A B : List α} {e : α} {id : Nat} (o : OV v (A ++ e :: B) id) (hx : L[i]? = some (id, flat (A ++ e :: B))) (a : α) (f : Nat) {n off : Nat} {w : V} {vs : List V} (hv : cellsV w = some vs) (hn : vs.length = n) (hf : f + n ≤ Enc.sz α)
    (ho : off = A.length * Enc.sz α + f) (ha : Enc.enc a = (Enc.enc e).take f ++ vs ++ (Enc.enc e).drop (f + vs.length)) {F : H → Option (V × H)} {Q : V → H → Prop}
    (c : ∀ g', Fr [id] g g' → OV v (A ++ a :: B) id → Mm h0 g' (L.set i (id, flat (A ++ a :: B))) → Wp (F g') Q) : Wp (stN n g (.ptr id off) w F) Q := by
  have e1 : (A ++ e :: B)[A.length]'(by simp) = e := by rw [List.getElem_append_right (Nat.le_refl _)]; simp
  have e2 : (A ++ e :: B).set A.length a = A ++ a :: B := by simp
  refine Wp.els s i o hx (k := A.length) (by simp) a f hv hn hf ho (by rw [e1]; exact ha) ?_
  rw [e2]
  exact c
end
theorem bload_ld1 {h : H} {b o n : Nat} {cs : List V} (e : bload (h.blk b) o n = some cs) (f : Nat) {c : V} (hc : cs[f]? = some c) : AH.ld1 h (.ptr b (o + f)) = some c := by
  have hlt := (List.getElem?_eq_some_iff.1 hc).1
  have hl := bload_len e
  rw [ld1_ptr, bload_sub e f 1 (by omega)]
  show ((cs.drop f).take 1).head? = some c
  rw [List.head?_take, List.head?_drop, hc]; rfl
theorem bload_ldn {h : H} {b o n : Nat} {cs : List V} (e : bload (h.blk b) o n = some cs) (f m : Nat) (hf : f + m ≤ n) : AH.ldn m h (.ptr b (o + f)) = some (.agg ((cs.drop f).take m)) := by
  rw [ldn_ptr, bload_sub e f m hf]; rfl
theorem pdV_same {h g : H} (F : Fr [] h g) {b o : Nat} (h0 : b ≠ 0) (h1 : b < h.next) (k : Option (V × H)) : pdV g (.ptr b o) h k = k := by
  rw [pdV_ptr, F.blk0 h0 h1, if_pos rfl]
theorem Wp.pd {h g : H} (F : Fr [] h g) {b o : Nat} (h0 : b ≠ 0) (h1 : b < h.next) {k : Option (V × H)} {Q : V → H → Prop} (w : Wp k Q) : Wp (pdV g (.ptr b o) h k) Q := by
  rw [pdV_same F h0 h1]; exact w
section
variable {α : Type} [Enc α]
/-- The address of an element that is read. -/
theorem Wp.rd {g : H} {v : V} {l : List α} (r : RV g v l) {sz i : Nat} (hs : sz = Enc.sz α) (hi : i < l.length) {f : V → Option (V × H)} {Q : V → H → Prop}
    (c : ∀ b o, b ≠ 0 → b < g.next → bload (g.blk b) o (Enc.sz α) = some (Enc.enc l[i]) → Wp (f (.ptr b o)) Q) : Wp ((iA sz v (.int .i64 i)).bind f) Q := by
  subst hs
  obtain ⟨b, o, h1, h2, h3, h4⟩ := r.at hi
  exact Wp.b h3 (c b o h1 h2 h4)
/-- The address of an element that is owned. -/
theorem Wp.oa {v : V} {l : List α} {id : Nat} (o : OV v l id) {sz i : Nat} (hs : sz = Enc.sz α) (hi : i < l.length) {f : V → Option (V × H)} {Q : V → H → Prop}
    (c : id ≠ 0 → Wp (f (.ptr id (i * Enc.sz α))) Q) : Wp ((iA sz v (.int .i64 i)).bind f) Q := by
  subst hs
  obtain ⟨z, rfl, o⟩ := o
  rcases o with ⟨_, rfl⟩ | ⟨o, _⟩
  · simp at hi
  · exact Wp.b (iA_sl hi) (by rw [Nat.zero_add]; exact c o)
/-- slices.Insert of an owned slice; m lies in a block of its own. -/
theorem insP_mm {h0 g : H} {L : List (Nat × List V)} (s : Mm h0 g L) (i j : Nat) (hij : i ≠ j) {v w : V} {l m : List α} {id id' : Nat} (o : OV v l id) (hx : L[i]? = some (id, flat l)) (o' : OV w m id') (hy : L[j]? = some (id', flat m)) (hm : m ≠ []) {bytes k : Nat} (hk : k ≤ l.length) (h1 : Enc.sz α ≠ 1)
    (hb : (l.length + m.length) * bytes ≤ 140737488355328) (hn : l.length + m.length ≤ 4611686018427387904) :
    ∃ v2 id2 g2, insP (Enc.sz α) bytes [v, .int .i64 k, w] g = some (v2, g2) ∧ OV v2 (l.take k ++ m ++ l.drop k) id2 ∧ Fr [id] g g2 ∧ Mm h0 g2 (L.set i (id2, flat (l.take k ++ m ++ l.drop k))) := by
  have r1 := s.rv i o hx
  have r2 := s.rv j o' hy
  obtain ⟨z, rfl, o⟩ := o
  obtain ⟨z', rfl, o'⟩ := o'
  obtain ⟨z1, i1, o1, e, sl⟩ := r1
  simp only [V.sl.injEq] at e
  obtain ⟨rfl, rfl, rfl, _⟩ := e
  obtain ⟨z2, i2, o2, e, sm⟩ := r2
  simp only [V.sl.injEq] at e
  obtain ⟨rfl, rfl, rfl, _⟩ := e
  have n' : id' ≠ 0 := by
    rcases o' with o' | o'
    · exact absurd o'.2 hm
    · exact o'.1
  have own : id = 0 ∨ g.lo ≤ id := by
    rcases o with o | o
    · exact .inl o.1
    · exact .inr (s.blk hx o.1).2.2.1
  have b' := s.blk hy n'
  have hne : id' ≠ id := by
    have hi := (List.getElem?_eq_some_iff.1 hx)
    have hj := (List.getElem?_eq_some_iff.1 hy)
    obtain ⟨hi1, hi2⟩ := hi
    obtain ⟨hj1, hj2⟩ := hj
    rcases Nat.lt_or_gt_of_ne hij with e | e
    · have := List.pairwise_iff_getElem.1 s.nd i j hi1 hj1 e
      rw [hi2, hj2] at this
      rcases this with q | q
      · exact Ne.symm q
      · simp only at q; omega
    · have := List.pairwise_iff_getElem.1 s.nd j i hj1 hi1 e
      rw [hi2, hj2] at this
      rcases this with q | q
      · exact q
      · exact absurd q n'
  obtain ⟨g2, e, F, sl2, gn⟩ := insP_sl (bytes := bytes) s.k sl own sm hm hne b'.2.2.1 h1 hk hb hn
  refine ⟨_, g.next, g2, e, ⟨_, rfl, .inr ⟨s.k.pos, rfl⟩⟩, F, s.set hx F (F.ok s.k) (.inr ⟨.inr (Nat.le_refl _), s.k.pos, by omega, ?_⟩)⟩
  -- the block's whole text
  have hml : 0 < m.length := List.length_pos_iff.2 hm
  have hne2 : ¬ m.length * Enc.sz α = 0 := Nat.ne_of_gt (Nat.mul_pos hml Enc.pos)
  rcases sm with sm | sm
  · exact absurd sm.1 n'
  have e1 : srcL g (Enc.sz α) (.sl z' id' 0 m.length) = some (m.length, flat m) := by
    simp only [srcL, if_neg sm.1, if_neg hne2]; rw [load_eq, sm.2.2.2]; rfl
  have hi' : (0 : Int) ≤ (k : Int) ∧ (k : Int) ≤ (l.length : Int) := ⟨by omega, by omega⟩
  have hml' : ¬ m.length = 0 := by omega
  simp only [insP, e1, Option.bind_some, if_pos hi', if_neg hml'] at e
  split at e
  · have e2 : (if l.length = 0 then some [] else g.load id 0 (l.length * Enc.sz α)) = some (flat l) := by
      split
      · rename_i q; rw [List.length_eq_zero_iff.1 q]; rfl
      · rename_i q
        rcases sl with sl | sl
        · rw [sl.2] at q; exact absurd rfl q
        · rw [load_eq]; exact sl.2.2.2
    rw [e2] at e
    simp only [Option.bind_some, Option.some.injEq, Prod.mk.injEq, V.sl.injEq, Int.toNat_natCast] at e
    obtain ⟨_, rfl⟩ := e
    have hid : g.next ≠ id := by
      rcases sl with sl | sl
      · rw [sl.1]; exact s.k.pos
      · have := sl.2.2.1; omega
    refine ⟨(g.blk g.next).ver, ?_⟩
    rw [blk_kill, if_neg hid, blk_new, if_pos rfl, flat_append, flat_append, flat_take, flat_drop]
  · cases e
/-- slices.Delete of an owned slice. -/
theorem delP_mm {h0 g : H} {L : List (Nat × List V)} (s : Mm h0 g L) (i : Nat) {v : V} {l : List α} {id : Nat} (o : OV v l id) (hx : L[i]? = some (id, flat l)) {a b : Nat} (hab : a < b) (hb : b ≤ l.length) :
    ∃ v2 id2 g2, delP (Enc.sz α) [v, .int .i64 a, .int .i64 b] g = some (v2, g2) ∧ OV v2 (l.take a ++ l.drop b) id2 ∧ Fr [id] g g2 ∧ Mm h0 g2 (L.set i (id2, flat (l.take a ++ l.drop b))) := by
  have r1 := s.rv i o hx
  obtain ⟨z, rfl, o⟩ := o
  obtain ⟨z1, i1, o1, e, sl⟩ := r1
  simp only [V.sl.injEq] at e
  obtain ⟨rfl, rfl, rfl, _⟩ := e
  have own : id = 0 ∨ g.lo ≤ id := by
    rcases o with o | o
    · exact .inl o.1
    · exact .inr (s.blk hx o.1).2.2.1
  obtain ⟨g2, e, F, sl2, gn⟩ := delP_sl s.k sl own hab hb
  refine ⟨_, g.next, g2, e, ⟨_, rfl, .inr ⟨s.k.pos, rfl⟩⟩, F, s.set hx F (F.ok s.k) (.inr ⟨.inr (Nat.le_refl _), s.k.pos, by omega, ?_⟩)⟩
  rcases sl with sl | sl
  · rw [sl.2] at hb; simp at hb; omega
  have hi' : (0 : Int) ≤ (a : Int) ∧ (a : Int) ≤ (b : Int) ∧ (b : Int) ≤ (l.length : Int) := ⟨by omega, by omega, by omega⟩
  have hij : ¬ (a : Int) = (b : Int) := by omega
  simp only [delP, if_pos hi', if_neg hij, load_eq, sl.2.2.2, Option.bind_some, Int.toNat_natCast] at e
  split at e
  · simp only [Option.some.injEq, Prod.mk.injEq, V.sl.injEq] at e
    obtain ⟨_, rfl⟩ := e
    have hid : g.next ≠ id := by have := sl.2.2.1; omega
    refine ⟨(g.blk g.next).ver, ?_⟩
    rw [blk_kill, if_neg hid, blk_new, if_pos rfl, flat_append, flat_take, flat_drop]
  · cases e
end
theorem inc64 {n : Nat} (k : n < 9223372036854775807) : IntKind.i64.wrap ((n : Int) + 1) = ((n + 1 : Nat) : Int) := by
  rw [wrap64 (by omega) (by omega)]; omega
theorem ret_of {m : Option (V × H)} {v : V} {h : H} (w : Wp m fun r h' => r = v ∧ h' = h) : m = some (v, h) := by
  obtain ⟨r, h', e, rfl, rfl⟩ := w
  exact e
theorem wp_of {m : Option (V × H)} {v : V} {h : H} {Q : V → H → Prop} (e : m = some (v, h)) (q : Q v h) : Wp m Q := ⟨v, h, e, q⟩
theorem Wp.pv {h g : H} {b o : Nat} (e : g.blk b = h.blk b) {k : Option (V × H)} {Q : V → H → Prop} (w : Wp k Q) : Wp (pdV g (.ptr b o) h k) Q := by
  rw [pdV_ptr, e, if_pos rfl]; exact w
theorem Mm.ne {h0 g : H} {L : List (Nat × List V)} (s : Mm h0 g L) (i j : Nat) (hij : i ≠ j) {b c : Nat} {cs ds : List V} (hx : L[i]? = some (b, cs)) (hy : L[j]? = some (c, ds)) (hb : b ≠ 0) : b ≠ c := by
  obtain ⟨hi1, hi2⟩ := (List.getElem?_eq_some_iff.1 hx)
  obtain ⟨hj1, hj2⟩ := (List.getElem?_eq_some_iff.1 hy)
  rcases Nat.lt_or_gt_of_ne hij with e | e
  · have := List.pairwise_iff_getElem.1 s.nd i j hi1 hj1 e
    rw [hi2, hj2] at this
    rcases this with q | q
    · exact q
    · exact absurd q hb
  · have := List.pairwise_iff_getElem.1 s.nd j i hj1 hi1 e
    rw [hi2, hj2] at this
    rcases this with q | q
    · exact Ne.symm q
    · intro e2; simp only at q; omega
section
variable {α : Type} [Enc α]
theorem OV.cells {v : V} {l : List α} {id : Nat} (o : OV v l id) : cellsV v = some [v] := by obtain ⟨z, rfl, _⟩ := o; rfl
theorem OV.nt {v : V} {l : List α} {id : Nat} (o : OV v l id) : ntup v = some v := by obtain ⟨z, rfl, _⟩ := o; rfl
theorem RV.cells {h : H} {v : V} {l : List α} (o : RV h v l) : cellsV v = some [v] := by obtain ⟨z, _, _, rfl, _⟩ := o; rfl
theorem RV.nt {h : H} {v : V} {l : List α} (o : RV h v l) : ntup v = some v := by obtain ⟨z, _, _, rfl, _⟩ := o; rfl
end
theorem Wp.pd1 {h g g' : H} {i : Nat} (F : Fr [] h g) (F' : Fr [i] g g') {b o : Nat} (h0 : b ≠ 0) (h1 : b < h.next) (hne : b ≠ i) {k : Option (V × H)} {Q : V → H → Prop} (w : Wp k Q) : Wp (pdV g' (.ptr b o) h k) Q :=
  Wp.pv ((F'.blk1 h0 (Nat.lt_of_lt_of_le h1 F.2.1) hne).trans (F.blk0 h0 h1)) w
theorem Wp.pdi {h g : H} {i : Nat} (F : Fr [i] h g) {b o : Nat} (h0 : b ≠ 0) (h1 : b < h.next) (hne : b ≠ i) {k : Option (V × H)} {Q : V → H → Prop} (w : Wp k Q) : Wp (pdV g (.ptr b o) h k) Q :=
  Wp.pv (F.blk1 h0 h1 hne) w
/-! What stands at the head. -/
theorem Wp.gb {α : Type} {o : Option α} {f : α → Option (V × H)} {Q : V → H → Prop} (w : Wp (o.bind f) Q) : Wp (o.bind f) Q := w
theorem Wp.gbx {h : H} {v : V} {f : V → H → Option (V × H)} {Q : V → H → Prop} (w : Wp (bxK h v f) Q) : Wp (bxK h v f) Q := w
theorem Wp.gal {z : List V} {h : H} {f : V → H → Option (V × H)} {Q : V → H → Prop} (w : Wp (alK z h f) Q) : Wp (alK z h f) Q := w
theorem Wp.gst {n : Nat} {h : H} {p v : V} {f : H → Option (V × H)} {Q : V → H → Prop} (w : Wp (stN n h p v f) Q) : Wp (stN n h p v f) Q := w
theorem Mm.nil0 {h0 g : H} {L : List (Nat × List V)} (s : Mm h0 g L) : Mm h0 g ((0, []) :: L) :=
  ⟨s.k0, s.k, s.F, fun x hx => by
    rcases List.mem_cons.1 hx with rfl | hx
    · exact .inl ⟨rfl, rfl⟩
    · exact s.own x hx, List.pairwise_cons.2 ⟨fun b hb => .inr rfl, s.nd⟩⟩
theorem Mm.nil1 {h0 g : H} {x : Nat × List V} {L : List (Nat × List V)} (s : Mm h0 g (x :: L)) : Mm h0 g (x :: (0, []) :: L) := s.nil0.perm (List.Perm.swap _ _ _)
theorem Mm.back {h0 g : H} {x y : Nat × List V} {L : List (Nat × List V)} (s : Mm h0 g (x :: y :: L)) : Mm h0 g (y :: x :: L) := s.perm (List.Perm.swap _ _ _)
section
variable {α : Type} [Enc α]
theorem flat_rep (a : α) (n : Nat) : flat (List.replicate n a) = (List.replicate n (Enc.enc a)).flatten := by
  induction n with
  | zero => rfl
  | succ n ih => rw [List.replicate_succ, List.replicate_succ, flat_cons, List.flatten_cons, ih]
/-- A slice that is made. -/
theorem Wp.mks {h0 g : H} {L : List (Nat × List V)} (s : Mm h0 g L) (a : α) (n : Nat) {z : List V} (hz : z = Enc.enc a) {sz bytes : Nat} (hs : sz = Enc.sz α) (hn : n ≤ 4611686018427387904) (hb : bytes * n ≤ 281474976710656) {k k' : IntKind} {f : V → H → Option (V × H)} {Q : V → H → Prop}
    (c : ∀ v id g', OV v (List.replicate n a) id → id ≠ 0 → Fr [] g g' → Mm h0 g' ((id, flat (List.replicate n a)) :: L) → Wp (f v g') Q) : Wp (mkK sz bytes z g (.int k n) (.int k' n) f) Q := by
  subst hz hs
  have e : mkK (Enc.sz α) bytes (Enc.enc a) g (.int k n) (.int k' n) f = f (.sl (Enc.sz α) g.next 0 n) (g.new ((List.replicate n (Enc.enc a)).flatten)) := by
    simp only [mkK]
    have hb' : (bytes : Int) * (n : Int) ≤ 281474976710656 := by
      rw [← Int.natCast_mul]; omega
    rw [if_pos ⟨trivial, by omega, by omega, hb', Enc.len a⟩, Int.toNat_natCast]
  rw [e, ← flat_rep]
  exact c _ g.next _ ⟨_, by rw [List.length_replicate], .inr ⟨s.k.pos, rfl⟩⟩ s.k.pos ((Fr.refl _ _).new _) (s.cons ((Fr.refl _ _).new _) (s.k.new _) ⟨Nat.le_refl _, s.k.pos, Nat.lt_succ_self _, _, by rw [blk_new, if_pos rfl]⟩)
end
/-- What is left behind a thing's size. -/
def szr (left : Int) (w : Nat) : Int := if left < (w : Int) then -1 else left - w
theorem szr_add (left : Int) (a b : Nat) (h : ¬ left < (a : Int)) : szr (left - a) b = szr left (a + b) := by
  unfold szr
  by_cases c : left - a < (b : Int)
  · rw [if_pos c, if_pos (by omega)]
  · rw [if_neg c, if_neg (by omega)]; omega
theorem szr_neg {left : Int} {a : Nat} (b : Nat) (h : left < (a : Int)) : szr left (a + b) = -1 := by
  unfold szr; rw [if_pos (by omega)]
theorem szr_ok {left : Int} {w : Nat} (h : ¬ szr left w < 0) (h0 : 0 ≤ left) : (w : Int) ≤ left := by
  unfold szr at h; split at h <;> omega
end Go.Proofs.Ythoabddfionmoaa.AH
