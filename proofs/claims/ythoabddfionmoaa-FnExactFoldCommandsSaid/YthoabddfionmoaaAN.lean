/- From the abstract machine's answer to the model's call of a law. Its conditions: the law's own, on what comes in. -/
import Derived.Test.YthoabddfionmoaaAM
import Derived.Test.YthoabddfionmoaaAF
import Derived.WalkKit
import Derived.ProofKit
import Derived.OpenShut
import Derived.ShutString
import Derived.ChangeOld
import Derived.Carry
import Derived.SizedLaws
set_option linter.unusedVariables false
set_option linter.unusedSimpArgs false
namespace Go.Proofs.Ythoabddfionmoaa.AH
open Go Go.RowKit Go.ChangeShapes Go.WideShapes
variable {P : Program}
def HasA (P : Program) (h : H) (t : TypeId) (u : V) : Prop := ∃ ks, ckOf P 14 t = some ks ∧ ((∃ fs us, P.underlying t = some (.struct fs) ∧ u = .agg us ∧ HasL h ks us) ∨ (∀ fs, P.underlying t ≠ some (.struct fs)) ∧ HasL h ks [u])
def HasAs (P : Program) (h : H) : List TypeId → List V → Prop
  | [], [] => True
  | t :: ts, u :: us => HasA P h t u ∧ HasAs P h ts us
  | _, _ => False
theorem HasA.grew {h h' : H} (g : Grew h h') {t : TypeId} {u : V} (x : HasA P h t u) : HasA P h' t u := by
  obtain ⟨ks, hk, x⟩ := x
  refine ⟨ks, hk, ?_⟩
  rcases x with ⟨fs, us, h1, h2, h3⟩ | ⟨h1, h2⟩
  · exact .inl ⟨fs, us, h1, h2, h3.grew g⟩
  · exact .inr ⟨h1, h2.grew g⟩
theorem HasAs.grew {h h' : H} (g : Grew h h') : ∀ {ts : List TypeId} {us : List V}, HasAs P h ts us → HasAs P h' ts us
  | [], [], _ => trivial
  | _ :: _, _ :: _, x => ⟨x.1.grew g, HasAs.grew g x.2⟩
  | [], _ :: _, x => x.elim
  | _ :: _, [], x => x.elim

section
variable {H' : Type} {enc : TypeId × Value → H'} {W : World} {held : Bool}
theorem open_arg {B base : Nat} (hw : 0 < W.heap.size) {t : TypeId} {v : Value} {d : DataW H'} {p : List MemPlace} {ks : List CK} (hk : ckOf P 14 t = some ks) (ht : DataW.Trod enc P W 0 (fun _ => true) held t v d p)
    (hv : Value.okWide P W .any base t v) (hwt : ∀ m ∈ d.weights P t, m ≤ reachBytes) {β : Bet} {h : H} (x : RelH B β h W) (hl : h.lo = h.next) :
    ∃ β' h' u, RelH B β' h' W ∧ h'.lo = h'.next ∧ Sub β β' ∧ Grew h h' ∧ RelV β' u v ∧ HasA P h' t u := by
  obtain ⟨fuel, ht⟩ := ht
  obtain ⟨β', h', vs, x1, hl1, s1, g1, r1, a1⟩ := open_cells hw 14 t _ fuel (d, p) ks hk ht hwt β h x hl
  by_cases hs : ∃ fs, P.underlying t = some (.struct fs)
  · obtain ⟨fs, hs⟩ := hs
    simp only [Value.okWide, hs] at hv
    obtain ⟨cs, rfl, _⟩ := hv
    refine ⟨β', h', .agg vs, x1, hl1, s1, g1, ⟨cs.toList, by simp, r1⟩, ks, hk, .inl ⟨fs, vs, hs, rfl, a1⟩⟩
  · have hs' : ∀ fs, P.underlying t ≠ some (.struct fs) := fun fs e => hs ⟨fs, e⟩
    have hone : v.cells.toList = [v] := by
      have hk2 := hk
      unfold ckOf at hk2
      split at hk2
      · rename_i hu
        simp only [Value.okWide, hu, Cell.okWide] at hv
        cases v <;> simp_all [Cell.ok, Value.cells]
      · rename_i k hu
        simp only [Value.okWide, hu, Cell.okWide] at hv
        cases v <;> simp_all [Cell.ok, Value.cells]
      · rename_i hu
        obtain ⟨s, rfl⟩ := okWide_string hu hv
        rfl
      · rename_i e hu
        obtain ⟨a, l, c, rfl⟩ := okWide_slice hu hv
        rfl
      · rename_i fs hu; exact absurd hu (hs' fs)
      · cases hk2
    rw [hone] at r1
    match vs, r1 with
    | [u], r1 => exact ⟨β', h', u, x1, hl1, s1, g1, r1.1.toV, ks, hk, .inr ⟨hs', a1⟩⟩
theorem open_args {B base : Nat} (hw : 0 < W.heap.size) : ∀ {ts : List TypeId} {vs : List Value} {ds : List (DataW H')} {p : List MemPlace}, (∀ t ∈ ts, (ckOf P 14 t).isSome = true) → DataW.TrodAll enc P W 0 (fun _ => true) held ts vs ds p →
    (∀ (j : Nat) t v, ts[j]? = some t → vs[j]? = some v → Value.okWide P W .any base t v) → (∀ m ∈ DataW.weightsEach P ts ds, m ≤ reachBytes) → ∀ {β : Bet} {h : H}, RelH B β h W → h.lo = h.next →
    ∃ β' h' us, RelH B β' h' W ∧ h'.lo = h'.next ∧ Sub β β' ∧ Grew h h' ∧ All2 (RelV β') us vs ∧ HasAs P h' ts us
  | [], [], [], p, _, _, _, _, β, h, x, hl => ⟨β, h, [], x, hl, Sub.refl _, Grew.refl _, trivial, trivial⟩
  | t :: ts, v :: vs, d :: ds, p, hk, ht, hv, hwt, β, h, x, hl => by
    obtain ⟨p1, p2, h1, h2, _⟩ := ht
    obtain ⟨ks, hks⟩ := Option.isSome_iff_exists.1 (hk t (by simp))
    obtain ⟨β1, g1, u, x1, l1, s1, gr1, r1, a1⟩ := open_arg hw hks h1 (hv 0 t v rfl rfl) (fun m hm => hwt m (by simp only [DataW.weightsEach]; exact List.mem_append_left _ hm)) x hl
    obtain ⟨β2, g2, us, x2, l2, s2, gr2, r2, a2⟩ := open_args hw (fun t ht => hk t (List.mem_cons_of_mem _ ht)) h2 (fun j t v q1 q2 => hv (j + 1) t v (by simpa using q1) (by simpa using q2)) (fun m hm => hwt m (by simp only [DataW.weightsEach]; exact List.mem_append_right _ hm)) x1 l1
    exact ⟨β2, g2, u :: us, x2, l2, s1.trans s2, gr1.trans gr2, ⟨r1.mono s2, r2⟩, a1.grew gr2, a2⟩
  | [], _ :: _, _, _, _, ht, _, _, _, _, _, _ => by cases ht
  | _ :: _, [], _, _, _, ht, _, _, _, _, _, _ => by cases ht
  | [], [], _ :: _, _, _, ht, _, _, _, _, _, _ => by cases ht
  | _ :: _, _ :: _, [], _, _, ht, _, _, _, _, _, _ => by cases ht
def H.none : H := ⟨1, 1, fun _ => ⟨[], 0, false⟩⟩
theorem none_rel (B : Nat) (W : World) (hB : B ≤ W.heap.size) : RelH B (fun _ => Option.none) H.none W :=
  ⟨fun id ha => (by cases ha), fun id id' l l' ha => (by cases ha), fun id _ => ⟨rfl, rfl⟩, rfl, Nat.one_pos, Nat.le_refl _, hB, fun id l hl => (by cases hl)⟩
/-- The law's call. -/
theorem law_calls {prims : Prims} {ann : Nat → Nat → List Nat} (hm : P.follows .mixedOrders = true) (hprims : ∀ B f p, prims f = some p → PrimOk P B f p) {f base : Nat} {ts : List TypeId} (hk : ts.all (fun t => (ckOf P 14 t).isSome) = true) {args : Array Value} {ds : List (DataW H')} {p : List MemPlace} (hw : 0 < W.heap.size)
    (ht : DataW.TrodAll enc P W 0 (fun _ => true) held ts args.toList ds p) (hv : ∀ (j : Nat) t v, ts[j]? = some t → args.toList[j]? = some v → Value.okWide P W .any base t v) (hwt : ∀ m ∈ DataW.weightsEach P ts ds, m ≤ reachBytes)
    (law : ∀ h us, Hok h → h.lo = h.next → HasAs P h ts us → ∃ h', run P prims ann f us h = some (.bool true, h')) : Calls P f args W fun e W' => e = .returned (.bool true) ∧ Below W.heap.size W W' := by
  obtain ⟨β, h, us, x, hl, _, _, r, a⟩ := open_args (B := W.heap.size) (β := fun _ => Option.none) (h := H.none) hw (fun t ht => List.all_eq_true.1 hk t ht) ht hv hwt (none_rel _ _ (Nat.le_refl _)) rfl
  obtain ⟨h', e⟩ := law h us ⟨by rw [hl]; exact x.pos, x.lo⟩ hl a
  have := run_calls W.heap.size hm (hprims W.heap.size) e r x
  rw [Array.toArray_toList] at this
  refine this.mono ?_
  rintro e w' ⟨c, β', rfl, hc, _, hx⟩
  have : c = .bool true := hc
  subst this
  exact ⟨rfl, hx.below⟩
end
section
variable {H' : Type} {enc : TypeId × Value → H'}
theorem trodAll_below (hl : laidOutB P = true) {W W' : World} (hb : Below W.heap.size W W') : ∀ {ts : List TypeId} {vs : List Value} {ds : List (DataW H')} {p : List MemPlace}, (ts.all fun t => P.readableRec t && decide (t < P.types.size)) = true →
    DataW.TrodAll enc P W 0 (fun _ => true) true ts vs ds p → DataW.TrodAll enc P W' 0 (fun b => decide (b < W.heap.size)) true ts vs ds p
  | [], [], [], _, _, h => h
  | t :: ts, v :: vs, d :: ds, _, hr, ⟨p, q, h1, h2, e⟩ => by
    simp only [List.all_cons, Bool.and_eq_true, decide_eq_true_eq] at hr
    have hlt : ∀ x ∈ p, x.block < W.heap.size := by obtain ⟨m, hm⟩ := h1; exact DataW.trod_lt m _ _ _ hm
    exact ⟨p, q, Below.trod hl hr.1.1 hr.1.2 h1 hb hlt, trodAll_below hl hb (by simpa using hr.2) h2, e⟩
  | [], _ :: _, _, _, _, h => by cases h
  | _ :: _, [], _, _, _, h => by cases h
  | [], [], _ :: _, _, _, h => by cases h
  | _ :: _, _ :: _, [], _, _, h => by cases h
theorem trodAll_len {w : World} {base : Nat} {spare : Nat → Bool} {held : Bool} : ∀ {ts : List TypeId} {vs : List Value} {ds : List (DataW H')} {p : List MemPlace}, DataW.TrodAll enc P w base spare held ts vs ds p → ds.length = ts.length
  | [], [], [], _, _ => rfl
  | t :: ts, v :: vs, d :: ds, _, ⟨p, q, h1, h2, e⟩ => by simp [trodAll_len h2]
  | [], _ :: _, _, _, h => by cases h
  | _ :: _, [], _, _, h => by cases h
  | [], [], _ :: _, _, h => by cases h
  | _ :: _, _ :: _, [], _, h => by cases h
theorem shaped_pos {w : World} (h : w.ShapedOpen P) (h1 : Nat.ble 1 (begin P (fun _ _ => 0) default).world.heap.size = true) (h2 : (P.globals.size == 0 || (((begin P (fun _ _ => 0) default).world.heap[0]?).bind Obj.row?).isSome) = true) : 0 < w.heap.size := by
  have h1 := Nat.le_of_ble_eq_true h1
  obtain ⟨ha, hb⟩ := h
  by_cases hg : P.globals.size = 0
  · obtain ⟨o, _, ho, _⟩ := hb 0 (by omega) (by omega)
    exact (Array.getElem?_eq_some_iff.1 ho).1
  · have : (((begin P (fun _ _ => 0) default).world.heap[0]?).bind Obj.row?).isSome = true := by
      rw [Bool.or_eq_true] at h2
      rcases h2 with h2 | h2
      · exact absurd (by simpa using h2) hg
      · exact h2
    obtain ⟨⟨z, t⟩, hz⟩ := Option.isSome_iff_exists.1 this
    obtain ⟨cs, hc, _⟩ := ha 0 z t (by omega) hz
    exact (Array.getElem?_eq_some_iff.1 hc).1
theorem returns_law {C : Checked} {os : Os} {f : FuncId} {fn : Func} {s : ChangeSpec} {conds : List PathCond} {apart fresh handsOn again : Bool}
    (own : ownKnob C.prog.godebug = none) (started : os.Started) (noInit : C.prog.inits.idxOf? f = none) (hfn : C.prog.funcs[f]? = some fn)
    (witness : ∃ (w : World) (tape : Tape) (i : Input), w.os = os ∧ (w.forCall tape i).Shaped C.prog ∧ i.vars = [] ∧ Input.okWide C.prog (w.forCall tape i) .any w.heap.size f i ∧
      s.pre6 enc C.prog fn conds apart (w.forCall tape i).memory i.args ∧ ({} : Assume).holds C.prog (lone (Frame.enter C.prog f i.args .normal) [] (w.forCall tape i)))
    (h1 : Nat.ble 1 (begin C.prog (fun _ _ => 0) default).world.heap.size = true) (h2 : (C.prog.globals.size == 0 || (((begin C.prog (fun _ _ => 0) default).world.heap[0]?).bind Obj.row?).isSome) = true)
    (contract : ∀ (W : World) (base : Nat) (args : Array Value) (ds gs : List (DataW H')) (before : List MemPlace), 0 < W.heap.size →
      (∀ (j : Nat) t v, fn.params[j]? = some t → args[j]? = some v → Value.okWide C.prog W .any base t v) →
      DataW.Whole enc C.prog fn.params.toList s.vars apart W args.toList ds gs before →
      (DataW.weightsEach C.prog (fn.params.toList ++ s.plain.varTypes C.prog) (ds ++ gs)).all (· ≤ reachBytes) = true →
      Calls C.prog f args W fun e W' => ∃ v, e = .returned v ∧ s.post enc C.prog fn apart fresh handsOn again W args v W') :
    ReturnsInHanded {} C os f .any (s.pre6 enc C.prog fn conds apart) (s.post enc C.prog fn apart fresh handsOn again) := by
  refine returnsInHanded_of_calls own started noInit witness ?_
  intro w tape i _ hsh _ hok hpre hholds
  obtain ⟨_, _, _, fn', hfn', _, _, _, _, hval⟩ := hok
  have e : fn' = fn := Option.some.inj (hfn'.symm.trans hfn)
  subst e
  obtain ⟨⟨ds, gs, before, hw, hc⟩, hz⟩ := hpre
  have hw' := DataW.Whole.of_heap (w' := w.forCall tape i) (by rfl) hw
  refine (contract (w.forCall tape i) w.heap.size i.args ds gs before (shaped_pos hsh h1 h2) hval hw' (hz.weights hw)).mono fun e W' ⟨v, he, hp⟩ => ?_
  subst he
  exact ChangeSpec.post_blind hp
end
section
variable {α : Type} [Enc α]
/-- A slice of structs that came in, as a list. -/
theorem HasC.toSl {h : H} {es : List CK} {v : V} (x : HasC h (.sl es) v) (hes : es.length = Enc.sz α) {good : α → Prop} (dec : ∀ r, HasL h es r → ∃ a : α, r = Enc.enc a ∧ good a) :
    ∃ (l : List α) (z id : Nat), v = .sl z id 0 l.length ∧ Sl l h z id 0 ∧ l.length ≤ reachBytes ∧ ∀ a ∈ l, good a := by
  rw [HasC.sl] at x
  obtain ⟨z, id, n, rfl, hn, x⟩ := x
  rcases x with ⟨rfl, rfl⟩ | ⟨hz, h0, h1, h2, rows, rfl, h4, h5⟩
  · exact ⟨[], z, 0, rfl, .inl ⟨rfl, rfl⟩, Nat.zero_le _, fun a ha => by cases ha⟩
  · have : ∃ l : List α, rows = l.map Enc.enc ∧ ∀ a ∈ l, good a := by
      clear h4 hn
      induction rows with
      | nil => exact ⟨[], rfl, fun a ha => by cases ha⟩
      | cons r rows ih =>
        obtain ⟨l, e, hg⟩ := ih fun r hr => h5 r (List.mem_cons_of_mem _ hr)
        obtain ⟨a, e', ha⟩ := dec r (h5 r (by simp))
        exact ⟨a :: l, by rw [e, e']; rfl, fun b hb => by rcases List.mem_cons.1 hb with rfl | hb; · exact ha
                                                          · exact hg b hb⟩
    obtain ⟨l, rfl, hg⟩ := this
    refine ⟨l, z, id, by simp, .inr ⟨h0, by rw [hz, hes], h1, ?_⟩, by simpa using hn, hg⟩
    have e : (l.map Enc.enc).flatten = flat l := by rw [flat, List.flatMap_def]
    unfold bload
    rw [h4, e, List.drop_zero, flat_len, if_pos ⟨h2, by omega⟩, List.take_of_length_le (by rw [flat_len]; exact Nat.le_refl _)]
end
theorem HasL.ints {h : H} {k : IntKind} {ks : List CK} {vs : List V} (x : HasL h (.int k :: ks) vs) : ∃ n r, vs = .int k n :: r ∧ (Lit.int k n).wf = true ∧ HasL h ks r := by
  rw [HasL.cons] at x; obtain ⟨v, r, rfl, h1, h2⟩ := x; rw [HasC.int] at h1; obtain ⟨n, rfl, h3⟩ := h1; exact ⟨n, r, rfl, h3, h2⟩
theorem HasL.strs {h : H} {ks : List CK} {vs : List V} (x : HasL h (.str :: ks) vs) : ∃ s r, vs = .str s :: r ∧ s.size ≤ reachBytes ∧ HasL h ks r := by
  rw [HasL.cons] at x; obtain ⟨v, r, rfl, h1, h2⟩ := x; rw [HasC.str] at h1; obtain ⟨n, rfl, h3⟩ := h1; exact ⟨n, r, rfl, h3, h2⟩
theorem HasL.end {h : H} {vs : List V} (x : HasL h [] vs) : vs = [] := by rwa [HasL.nil] at x
/-- An argument that is no struct. -/
theorem HasA.plain {P : Program} {h : H} {t : TypeId} {u : V} {k : CK} (x : HasA P h t u) (hk : ckOf P 14 t = some [k]) {d : TypeDesc} (hu : P.underlying t = some d) (hd : ∀ fs, d ≠ .struct fs) : HasC h k u := by
  obtain ⟨ks, h1, x⟩ := x
  rw [hk] at h1; cases h1
  rcases x with ⟨fs, us, q1, _, _⟩ | ⟨_, q2⟩
  · rw [hu] at q1; cases q1; exact absurd rfl (hd fs)
  · rw [HasL.cons] at q2; obtain ⟨v, r, e, h1, h2⟩ := q2; cases e; exact h1
/-- An argument that is a struct. -/
theorem HasA.row {P : Program} {h : H} {t : TypeId} {u : V} {ks : List CK} (x : HasA P h t u) (hk : ckOf P 14 t = some ks) {fs : Array Field} (hu : P.underlying t = some (.struct fs)) : ∃ us, u = .agg us ∧ HasL h ks us := by
  obtain ⟨ks', h1, x⟩ := x
  rw [hk] at h1; cases h1
  rcases x with ⟨_, us, _, q2, q3⟩ | ⟨q1, _⟩
  · exact ⟨us, q2, q3⟩
  · exact absurd hu (q1 fs)
end Go.Proofs.Ythoabddfionmoaa.AH
