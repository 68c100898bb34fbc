/- What came in, as blocks of the abstract heap that nobody writes. No condition. -/
import Derived.Test.YthoabddfionmoaaAF
import Derived.Deep.Slices
import Derived.Laws.LoneSync
import Derived.SizedLaws
set_option linter.unusedVariables false
set_option linter.unusedSimpArgs false
namespace Go.Proofs.Ythoabddfionmoaa.AH
open Go Go.RowKit

/-- The kinds of a type's cells. -/
inductive CK where
  | int (k : IntKind)
  | bool
  | str
  | sl (es : List CK)

mutual
def HasC (h : H) : CK → V → Prop
  | .int k, v => ∃ n, v = .int k n ∧ (Lit.int k n).wf = true
  | .bool, v => ∃ b, v = .bool b
  | .str, v => ∃ s, v = .str s ∧ s.size ≤ reachBytes
  | .sl es, v => ∃ z id n, v = .sl z id 0 n ∧ n ≤ reachBytes ∧ (id = 0 ∧ n = 0 ∨ z = es.length ∧ id ≠ 0 ∧ id < h.next ∧ (h.blk id).alive = true ∧ ∃ rows : List (List V), rows.length = n ∧ (h.blk id).cells = rows.flatten ∧ ∀ r ∈ rows, HasL h es r)
def HasL (h : H) : List CK → List V → Prop
  | [], vs => vs = []
  | k :: ks, vs => ∃ v r, vs = v :: r ∧ HasC h k v ∧ HasL h ks r
end
theorem HasL.nil (h : H) (vs : List V) : HasL h [] vs = (vs = []) := by rw [HasL]
theorem HasL.cons (h : H) (k : CK) (ks : List CK) (vs : List V) : HasL h (k :: ks) vs = ∃ v r, vs = v :: r ∧ HasC h k v ∧ HasL h ks r := by rw [HasL]
theorem HasC.int (h : H) (k : IntKind) (v : V) : HasC h (.int k) v = ∃ n, v = .int k n ∧ (Lit.int k n).wf = true := by rw [HasC]
theorem HasC.bool (h : H) (v : V) : HasC h .bool v = ∃ b, v = .bool b := by rw [HasC]
theorem HasC.str (h : H) (v : V) : HasC h .str v = ∃ s, v = .str s ∧ s.size ≤ reachBytes := by rw [HasC]
theorem HasC.sl (h : H) (es : List CK) (v : V) : HasC h (.sl es) v = ∃ z id n, v = .sl z id 0 n ∧ n ≤ reachBytes ∧ (id = 0 ∧ n = 0 ∨ z = es.length ∧ id ≠ 0 ∧ id < h.next ∧ (h.blk id).alive = true ∧ ∃ rows : List (List V), rows.length = n ∧ (h.blk id).cells = rows.flatten ∧ ∀ r ∈ rows, HasL h es r) := by rw [HasC]
theorem HasL.one (h : H) (k : CK) (v : V) (x : HasC h k v) : HasL h [k] [v] := by
  rw [HasL.cons]; exact ⟨v, [], rfl, x, by rw [HasL.nil]⟩
theorem HasL.app {h : H} : ∀ {ks ks' : List CK} {vs vs' : List V}, HasL h ks vs → HasL h ks' vs' → HasL h (ks ++ ks') (vs ++ vs')
  | [], _, vs, _, x, y => by rw [HasL.nil] at x; subst x; exact y
  | k :: ks, _, vs, _, x, y => by
    rw [HasL.cons] at x
    obtain ⟨v, r, rfl, h1, h2⟩ := x
    rw [List.cons_append, HasL.cons]
    exact ⟨v, _, rfl, h1, HasL.app h2 y⟩
theorem HasL.len {h : H} : ∀ {ks : List CK} {vs : List V}, HasL h ks vs → vs.length = ks.length
  | [], vs, x => by rw [HasL.nil] at x; subst x; rfl
  | k :: ks, vs, x => by
    rw [HasL.cons] at x
    obtain ⟨v, r, rfl, _, h2⟩ := x
    simp [HasL.len h2]

/-- The heap has grown by blocks alone. -/
def Grew (h h' : H) : Prop := h.next ≤ h'.next ∧ ∀ id, id < h.next → h'.blk id = h.blk id
theorem Grew.refl (h : H) : Grew h h := ⟨Nat.le_refl _, fun _ _ => rfl⟩
theorem Grew.trans {a b c : H} (x : Grew a b) (y : Grew b c) : Grew a c := ⟨Nat.le_trans x.1 y.1, fun id hi => (y.2 id (Nat.lt_of_lt_of_le hi x.1)).trans (x.2 id hi)⟩
mutual
theorem HasC.grew {h h' : H} (g : Grew h h') : ∀ {k : CK} {v : V}, HasC h k v → HasC h' k v
  | .int k, v, x => by rw [HasC.int] at x ⊢; exact x
  | .bool, v, x => by rw [HasC.bool] at x ⊢; exact x
  | .str, v, x => by rw [HasC.str] at x ⊢; exact x
  | .sl es, v, x => by
    rw [HasC.sl] at x ⊢
    obtain ⟨z, id, n, rfl, hn, x⟩ := x
    refine ⟨z, id, n, rfl, hn, x.imp (fun q => q) fun ⟨h1, h2, h3, h4, rows, h5, h6, h7⟩ => ⟨h1, h2, Nat.lt_of_lt_of_le h3 g.1, by rw [g.2 _ h3]; exact h4, rows, h5, by rw [g.2 _ h3]; exact h6, fun r hr => HasL.grew g (h7 r hr)⟩⟩
theorem HasL.grew {h h' : H} (g : Grew h h') : ∀ {ks : List CK} {vs : List V}, HasL h ks vs → HasL h' ks vs
  | [], vs, x => by rw [HasL.nil] at x ⊢; exact x
  | k :: ks, vs, x => by
    rw [HasL.cons] at x ⊢
    obtain ⟨v, r, rfl, h1, h2⟩ := x
    exact ⟨v, r, rfl, HasC.grew g h1, HasL.grew g h2⟩
end

section
variable (P : Program)
mutual
def ckOf : Nat → TypeId → Option (List CK)
  | 0, _ => none
  | n + 1, t => match P.underlying t with
    | some .bool => some [.bool]
    | some (.int k) => some [.int k]
    | some .string => some [.str]
    | some (.slice e) => match ckOf n e with
      | some es => if P.cellsOf e = es.length ∧ 0 < es.length ∧ 0 < P.bytesOf e then some [.sl es] else none
      | none => none
    | some (.struct fs) => match ckFields n 0 fs.toList with
      | some ks => if P.cellsOf t = ks.length then some ks else none
      | none => none
    | _ => none
def ckFields : Nat → Nat → List Field → Option (List CK)
  | _, _, [] => some []
  | 0, _, _ => none
  | n + 1, off, f :: r => match ckOf n f.type with
    | some ks => if f.offset = off ∧ P.cellsOf f.type = ks.length then match ckFields n (off + ks.length) r with
      | some kr => some (ks ++ kr)
      | none => none else none
    | none => none
end
end
variable {P : Program}

/-- A block of what came in. -/
def H.ext (h : H) (cs : List V) : H := ⟨h.next + 1, h.next + 1, fun j => if j = h.next then ⟨cs, 0, true⟩ else h.blk j⟩
theorem ext_rel {B : Nat} {β : Bet} {h : H} {w : World} (x : RelH B β h w) (hl : h.lo = h.next) (cs : List V) (l : Loc) (hb : l.b < w.heap.size) (hr : cs.length ≤ l.room)
    (hc : ∀ i v, cs[i]? = some v → ∃ c, w.cell? ⟨l.b, l.base + i, none⟩ = some c ∧ RelC β v c) : RelH B (β.set h.next l) (h.ext cs) w ∧ Sub β (β.set h.next l) ∧ Grew h (h.ext cs) := by
  have hnone := (x.bnd h.next (Nat.le_refl _)).2
  have hsub : Sub β (β.set h.next l) := Bet.sub_set hnone
  have hblk : ∀ id, id ≠ h.next → (h.ext cs).blk id = h.blk id := fun id hne => by simp [H.ext, hne]
  have hnew : (h.ext cs).blk h.next = ⟨cs, 0, true⟩ := by simp [H.ext]
  have hdead : ∀ id, h.next + 1 ≤ id → ((h.ext cs).blk id).alive = false := fun id hi => by rw [hblk id (by omega)]; exact (x.bnd id (by omega)).1
  refine ⟨⟨?_, ?_, ?_, ?_, Nat.succ_pos _, Nat.le_refl _, x.hB, ?_⟩, hsub, ⟨Nat.le_succ _, fun id hi => hblk id (by omega)⟩⟩
  · intro id ha
    by_cases hne : id = h.next
    · subst hne
      refine ⟨l, Bet.set_same _ _ _, by rw [hnew]; exact hr, ?_, fun hlo => ?_⟩
      · intro i v hv
        rw [hnew] at hv
        obtain ⟨c, h1, h2⟩ := hc i v hv
        exact ⟨c, h1, h2.mono hsub⟩
      · have : h.next + 1 ≤ h.next := hlo
        omega
    · rw [hblk id hne] at ha
      obtain ⟨l', hb', hroom, hcell, _⟩ := x.cell id ha
      refine ⟨l', hsub _ _ hb', by rw [hblk id hne]; exact hroom, ?_, fun hlo => ?_⟩
      · intro i v hv
        rw [hblk id hne] at hv
        obtain ⟨c, h1, h2⟩ := hcell i v hv
        exact ⟨c, h1, h2.mono hsub⟩
      · have : h.next + 1 ≤ id := hlo
        rw [(x.bnd id (by omega)).1] at ha; cases ha
  · intro id id' l1 l2 ha ha' hne hlo
    have : h.next + 1 ≤ id := hlo
    rw [hdead id this] at ha; cases ha
  · intro id hi
    have hi' : h.next + 1 ≤ id := hi
    exact ⟨hdead id hi', by rw [Bet.set_ne β _ (by omega)]; exact (x.bnd id (by omega)).2⟩
  · have : (0 : Nat) ≠ h.next := by have := x.pos; omega
    rw [hblk 0 this]; exact x.zero
  · intro id l' hl'
    by_cases hne : id = h.next
    · subst hne; rw [Bet.set_same] at hl'; cases hl'; exact hb
    · rw [Bet.set_ne β _ hne] at hl'; exact x.blt id l' hl'

variable {H' : Type} {enc : TypeId × Value → H'} {w : World} {held : Bool}
/-- One more thing is opened. -/
def OpenTo (B : Nat) (w : World) (β : Bet) (h : H) (ks : List CK) (cs : List Value) : Prop :=
  ∃ β' h' vs, RelH B β' h' w ∧ h'.lo = h'.next ∧ Sub β β' ∧ Grew h h' ∧ All2 (RelC β') vs cs ∧ HasL h' ks vs
/-- A row of things, each so many cells. -/
theorem open_rows {B : Nat} {es : List CK} {a : Addr} {sz : Nat} (hsz : es.length = sz) : ∀ (n : Nat) (β : Bet) (h : H), RelH B β h w → h.lo = h.next →
    (∀ i, i < n → ∃ cs, (∀ j v, cs[j]? = some v → w.cell? (a.add (i * sz + j)) = some v) ∧ ∀ β h, RelH B β h w → h.lo = h.next → OpenTo B w β h es cs) →
    ∃ β' h', ∃ rows : List (List V), RelH B β' h' w ∧ h'.lo = h'.next ∧ Sub β β' ∧ Grew h h' ∧ rows.length = n ∧ (∀ r ∈ rows, HasL h' es r) ∧ ∀ i v, rows.flatten[i]? = some v → ∃ c, w.cell? (a.add i) = some c ∧ RelC β' v c
  | 0, β, h, x, hl, _ => ⟨β, h, [], x, hl, Sub.refl _, Grew.refl _, rfl, (fun r hr => by cases hr), (fun i v hv => by simp at hv)⟩
  | n + 1, β, h, x, hl, ho => by
    obtain ⟨β1, h1, rows, x1, hl1, s1, g1, hn, hr, hc⟩ := open_rows hsz n β h x hl (fun i hi => ho i (by omega))
    obtain ⟨cs, hcs, hop⟩ := ho n (by omega)
    obtain ⟨β2, h2, vs, x2, hl2, s2, g2, hrel, hhas⟩ := hop β1 h1 x1 hl1
    have hlr : ∀ r ∈ rows, r.length = sz := fun r hr' => by rw [← hsz]; exact (hr r hr').len
    have hfl : rows.flatten.length = n * sz := by
      rw [List.length_flatten, List.map_congr_left (f := List.length) (g := fun _ => sz) hlr, List.map_const', List.sum_replicate_nat, hn]
    refine ⟨β2, h2, rows ++ [vs], x2, hl2, s1.trans s2, g1.trans g2, by simp [hn], fun r hr' => ?_, fun i v hv => ?_⟩
    · rcases List.mem_append.1 hr' with q | q
      · exact (hr r q).grew g2
      · rw [List.mem_singleton] at q; subst q; exact hhas
    · rw [List.flatten_append, List.flatten_singleton] at hv
      by_cases hi : i < n * sz
      · rw [List.getElem?_append_left (by omega)] at hv
        obtain ⟨c, q1, q2⟩ := hc i v hv
        exact ⟨c, q1, q2.mono s2⟩
      · rw [List.getElem?_append_right (by omega), hfl] at hv
        obtain ⟨c, q1, q2⟩ := hrel.get hv
        have := hcs _ _ q1
        rw [show n * sz + (i - n * sz) = i by omega] at this
        exact ⟨c, this, q2⟩
mutual
theorem open_cells {B : Nat} (hw : 0 < w.heap.size) : ∀ (n : Nat) (t : TypeId) (cs : List Value) (fuel : Nat) (x : DataW H' × List MemPlace) (ks : List CK), ckOf P n t = some ks → DataW.trod enc P w 0 (fun _ => true) held fuel t cs = some x →
    (∀ m ∈ x.1.weights P t, m ≤ reachBytes) → ∀ β h, RelH B β h w → h.lo = h.next → OpenTo B w β h ks cs
  | 0, _, _, _, _, _, hk, _, _ => by simp [ckOf] at hk
  | n + 1, t, cs, fuel, x, ks, hk, ht, hwt => by
    intro β h hx hl
    unfold ckOf at hk
    split at hk
    · rename_i hu
      cases hk
      obtain ⟨b, rfl, rfl⟩ := DataW.trod_bool hu ht
      exact ⟨β, h, [.bool b], hx, hl, Sub.refl _, Grew.refl _, ⟨rfl, trivial⟩, HasL.one _ _ _ (by rw [HasC.bool]; exact ⟨b, rfl⟩)⟩
    · rename_i k hu
      cases hk
      obtain ⟨m, rfl, rfl, hwf⟩ := DataW.trod_int hu ht
      exact ⟨β, h, [.int k m], hx, hl, Sub.refl _, Grew.refl _, ⟨rfl, trivial⟩, HasL.one _ _ _ (by rw [HasC.int]; exact ⟨m, rfl, hwf⟩)⟩
    · rename_i hu
      cases hk
      obtain ⟨s, rfl, rfl, hs⟩ := DataW.trod_string hu ht
      have hsb : s.size ≤ reachBytes := by
        have := hwt s.data.toList.length (by simp [DataW.weights])
        simpa using this
      exact ⟨β, h, [.str s], hx, hl, Sub.refl _, Grew.refl _, ⟨rfl, trivial⟩, HasL.one _ _ _ (by rw [HasC.str]; exact ⟨s, rfl, hsb⟩)⟩
    · rename_i e hu
      split at hk
      · rename_i es hes
        split at hk
        · rename_i hc
          obtain ⟨hc1, hc2, hc3⟩ := hc
          cases hk
          rcases Go.Deep.open_slice hu ht with ⟨rfl, rfl⟩ | ⟨a, len, cap, m, k, D, Pl, rfl, _, hlen, hcap, hm, rfl, hel⟩
          · exact ⟨β, h, [.sl 0 0 0 0], hx, hl, Sub.refl _, Grew.refl _, ⟨.inl ⟨rfl, rfl, rfl, rfl⟩, trivial⟩, HasL.one _ _ _ (by rw [HasC.sl]; exact ⟨0, 0, 0, rfl, Nat.zero_le _, .inl ⟨rfl, rfl⟩⟩)⟩
          · simp only [if_true] at hm
            subst hm
            simp only [DataW.weights, hu] at hwt
            have hlb : (len + (m - len)) * P.bytesOf e ≤ reachBytes := by
              refine hwt _ ?_
              simp
            have hln : len ≤ reachBytes := by
              have : len * 1 ≤ (len + (m - len)) * P.bytesOf e := Nat.mul_le_mul (by omega) hc3
              omega
            have hwe : ∀ i, i < len → ∀ q ∈ (D i).weights P e, q ≤ reachBytes := fun i hi q hq => by
              refine hwt q (List.mem_cons_of_mem _ (List.mem_append_left _ ?_))
              have : ∀ (l : List (DataW H')) (d : DataW H'), d ∈ l → q ∈ d.weights P e → q ∈ DataW.weightsAll P e l := by
                intro l
                induction l with
                | nil => intro d hd; cases hd
                | cons a l ih =>
                  intro d hd hq
                  rw [DataW.weightsAll, List.mem_append]
                  rcases List.mem_cons.1 hd with rfl | hd
                  · exact .inl hq
                  · exact .inr (ih d hd hq)
              exact this _ (D i) (List.mem_map.2 ⟨i, List.mem_range.2 hi, rfl⟩) hq
            obtain ⟨β1, h1, rows, x1, hl1, s1, g1, hn, hr, hcell⟩ := open_rows (w := w) (a := a) (es := es) hc1.symm len β h hx hl (fun i hi => by
              obtain ⟨cs', q1, q2⟩ := hel i (by omega)
              obtain ⟨_, q3, q4⟩ := World.cells?_some q1
              refine ⟨cs', fun j v hj => ?_, fun β h hx hl => open_cells hw n e cs' k _ es hes q2 (hwe i hi) β h hx hl⟩
              have hjl := (List.getElem?_eq_some_iff.1 hj).1
              have := q4 j (by omega)
              rw [Go.Deep.add_add] at this
              rw [this]; exact hj)
            have hlr : ∀ r ∈ rows, r.length = es.length := fun r hr' => (hr r hr').len
            have hfl : rows.flatten.length = len * es.length := by
              rw [List.length_flatten, List.map_congr_left (f := List.length) (g := fun _ => es.length) hlr, List.map_const', List.sum_replicate_nat, hn]
            have hne1 : h1.next ≠ 0 := by have := x1.pos; omega
            have fin : ∀ l : Loc, l.b < w.heap.size → rows.flatten.length ≤ l.room → (∀ i v, rows.flatten[i]? = some v → ∃ c, w.cell? ⟨l.b, l.base + i, none⟩ = some c ∧ RelC β1 v c) → (0 < m → a = ⟨l.b, l.base + 0, none⟩ ∧ 0 + m * es.length ≤ l.room) → l.str = false → OpenTo B w β h [.sl es] [.slice (some a) len m] := by
              intro l q1 q2 q3 q4 q5
              obtain ⟨r1, r2, r3⟩ := ext_rel x1 hl1 rows.flatten l q1 q2 q3
              refine ⟨_, _, [.sl es.length h1.next 0 len], r1, rfl, s1.trans r2, g1.trans r3, ⟨.inr ⟨hne1, l, a, m, Bet.set_same _ _ _, rfl, hlen, q4, fun _ => q5⟩, trivial⟩, HasL.one _ _ _ ?_⟩
              rw [HasC.sl]
              have hb : (h1.ext rows.flatten).blk h1.next = ⟨rows.flatten, 0, true⟩ := by simp [H.ext]
              exact ⟨_, _, _, rfl, hln, .inr ⟨rfl, hne1, Nat.lt_succ_self _, by rw [hb], rows, hn, by rw [hb], fun r hr' => (hr r hr').grew r3⟩⟩
            by_cases hm0 : m = 0
            · have : len = 0 := by omega
              refine fin ⟨0, 0, 0, false⟩ hw (by rw [hfl, this]; simp) (fun i v hv => ?_) (fun q => by omega) rfl
              have := (List.getElem?_eq_some_iff.1 hv).1
              rw [hfl] at this
              simp [show len = 0 by omega] at this
            · obtain ⟨cs0, q1, q2⟩ := hel 0 (by omega)
              obtain ⟨_, q3, q4⟩ := World.cells?_some q1
              have hc0 := q4 0 (by omega)
              rw [List.getElem?_eq_getElem (by omega)] at hc0
              simp only [Nat.zero_mul, Addr.add, if_true] at hc0
              obtain ⟨te, nn, q5, q6, q7⟩ := World.shape?_of_cell? hc0
              obtain ⟨ab, ao, asp⟩ := a
              simp only at q7; subst q7
              have hab : ab < w.heap.size := by
                unfold World.shape? at q5
                simp only at q5
                split at q5
                · rename_i hq
                  exact (Array.getElem?_eq_some_iff.1 hq).1
                · cases q5
              refine fin ⟨ab, ao, m * es.length, false⟩ hab (by rw [hfl]; exact Nat.mul_le_mul_right _ hlen) (fun i v hv => ?_) (fun _ => ⟨by simp, by simp⟩) rfl
              obtain ⟨c, r1, r2⟩ := hcell i v hv
              rw [Addr.add_mid] at r1
              exact ⟨c, r1, r2⟩
        · cases hk
      · cases hk
    · rename_i fs hu
      obtain ⟨xs, k, rfl, rfl, hcl, hxl, hf⟩ := DataW.trod_struct hu ht
      simp only [DataW.weights, hu] at hwt
      split at hk
      case h_2 => cases hk
      rename_i ks' hk'
      split at hk
      case isFalse => cases hk
      rename_i hcells
      cases hk
      have key := open_fields (B := B) hw n fs.toList 0 cs k xs ks hk' (by simpa using hxl) (fun i f hi => hf i f (by simpa using hi)) hwt β h hx hl
      have hlen : cs.length = ks.length := by rw [hcl, hcells]
      rw [List.drop_zero] at key
      rw [List.take_of_length_le (by omega)] at key
      exact key
    · cases hk
theorem open_fields {B : Nat} (hw : 0 < w.heap.size) : ∀ (n : Nat) (fs : List Field) (off : Nat) (cs : List Value) (fuel : Nat) (xs : List (DataW H' × List MemPlace)) (ks : List CK), ckFields P n off fs = some ks → xs.length = fs.length →
    (∀ (i : Nat) (f : Field), fs[i]? = some f → DataW.trod enc P w 0 (fun _ => true) held fuel f.type ((cs.drop f.offset).take (P.cellsOf f.type)) = xs[i]?) →
    (∀ m ∈ DataW.weightsEach P (fs.map (·.type)) (xs.map (·.1)), m ≤ reachBytes) → ∀ β h, RelH B β h w → h.lo = h.next → OpenTo B w β h ks ((cs.drop off).take ks.length)
  | n, [], off, cs, fuel, xs, ks, hk, hxl, hf, hwt => by
    intro β h hx hl
    have : ks = [] := by cases n <;> simp [ckFields] at hk <;> exact hk
    subst this
    exact ⟨β, h, [], hx, hl, Sub.refl _, Grew.refl _, by simp [All2], by rw [HasL.nil]⟩
  | 0, f :: r, off, cs, fuel, xs, ks, hk, hxl, hf, hwt => by simp [ckFields] at hk
  | n + 1, f :: r, off, cs, fuel, xs, ks, hk, hxl, hf, hwt => by
    intro β h hx hl
    match xs, hxl with
    | x0 :: xr, hxl =>
      unfold ckFields at hk
      split at hk
      · rename_i k0 hk0
        split at hk
        · rename_i hc
          obtain ⟨ho, hcs⟩ := hc
          split at hk
          · rename_i kr hkr
            cases hk
            have h0 := hf 0 f rfl
            rw [ho, hcs] at h0
            obtain ⟨β1, h1, v1, x1, hl1, s1, g1, r1, a1⟩ := open_cells (B := B) hw n f.type _ fuel x0 k0 hk0 h0 (fun m hm => hwt m (by simp only [List.map_cons, DataW.weightsEach]; exact List.mem_append_left _ hm)) β h hx hl
            obtain ⟨β2, h2, v2, x2, hl2, s2, g2, r2, a2⟩ := open_fields (B := B) hw n r (off + k0.length) cs fuel xr kr hkr (by simpa using hxl) (fun i f hi => hf (i + 1) f (by simpa using hi)) (fun m hm => hwt m (by simp only [List.map_cons, DataW.weightsEach]; exact List.mem_append_right _ hm)) β1 h1 x1 hl1
            refine ⟨β2, h2, v1 ++ v2, x2, hl2, s1.trans s2, g1.trans g2, ?_, (a1.grew g2).app a2⟩
            have e : (cs.drop off).take (k0 ++ kr).length = (cs.drop off).take k0.length ++ (cs.drop (off + k0.length)).take kr.length := by
              rw [List.length_append, List.take_add, List.drop_drop]
            rw [e]
            exact (r1.mono (fun v c q => q.mono s2)).append r2
          · cases hk
        · cases hk
      · cases hk
end
end Go.Proofs.Ythoabddfionmoaa.AH
