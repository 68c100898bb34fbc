/- The operations that write nothing, all together: 'qOp_sim'. No condition. -/
import Derived.Test.YthoabddfionmoaaA5
set_option linter.unusedVariables false
set_option linter.unusedSimpArgs false
namespace Go.Proofs.Ythoabddfionmoaa.AH
open Go Go.RowKit
variable {P : Program}

theorem cellsV_rel {β : Bet} {v : V} {vs : List V} {c : Value} (h : RelV β v c) (hc : cellsV v = some vs) : All2 (RelC β) vs c.cells.toList := by
  unfold cellsV at hc
  split at hc
  · cases hc
  · cases hc
    obtain ⟨cs, rfl, hr⟩ := h
    simpa [Value.cells] using hr
  · rename_i x1 x2 x3
    cases hc
    have hr : RelC β v c := by cases v <;> first | exact h | (exfalso; first | exact x2 _ rfl | exact x3 _ rfl)
    have : c.cells = #[c] := by
      have := hr.one
      cases c <;> simp_all [Value.oneCell', Value.cells]
    rw [this]
    exact ⟨hr, trivial⟩

theorem foldl_splice (off : Nat) : ∀ (vs : List Value) (k : Nat) (A : Array Value), ((vs.zipIdx k).foldl (fun cs (x : Value × Nat) => cs.setIfInBounds (off + x.2) x.1) A).size = A.size ∧
    ∀ i, ((vs.zipIdx k).foldl (fun cs (x : Value × Nat) => cs.setIfInBounds (off + x.2) x.1) A)[i]? = if off + k ≤ i ∧ i < off + k + vs.length ∧ i < A.size then vs[i - (off + k)]? else A[i]?
  | [], k, A => ⟨rfl, fun i => by simp; omega⟩
  | v :: r, k, A => by
    obtain ⟨h1, h2⟩ := foldl_splice off r (k + 1) (A.setIfInBounds (off + k) v)
    simp only [List.zipIdx_cons, List.foldl_cons]
    refine ⟨by rw [h1]; simp, fun i => ?_⟩
    rw [h2 i]
    simp only [Array.size_setIfInBounds, List.length_cons]
    by_cases hi : i = off + k
    · subst hi
      by_cases hs : off + k < A.size
      · simp [hs]; omega
      · simp [hs]
    · rw [Array.getElem?_setIfInBounds_ne (Ne.symm hi)]
      by_cases hc : off + (k + 1) ≤ i ∧ i < off + (k + 1) + r.length ∧ i < A.size
      · rw [if_pos hc, if_pos (by omega)]
        obtain ⟨j, rfl⟩ : ∃ j, i = off + k + 1 + j := ⟨i - (off + k + 1), by omega⟩
        rw [show off + k + 1 + j - (off + (k + 1)) = j from by omega, show off + k + 1 + j - (off + k) = j + 1 from by omega]
        simp
      · rw [if_neg hc, if_neg (by omega)]
theorem splice_rel {β : Bet} {cells cs : List V} {cells' : List Value} {vs : List V} {vs' : List Value} {off : Nat} (hc : All2 (RelC β) cells cells') (hv : All2 (RelC β) vs vs') (hs : splice cells off vs = some cs) :
    off + vs'.length ≤ cells'.length ∧ ∃ cs' : List Value, (vs'.zipIdx).foldl (fun c (x : Value × Nat) => c.setIfInBounds (off + x.2) x.1) cells'.toArray = cs'.toArray ∧ All2 (RelC β) cs cs' := by
  unfold splice at hs
  split at hs
  · rename_i hle
    cases hs
    obtain ⟨h1, h2⟩ := foldl_splice off vs' 0 cells'.toArray
    refine ⟨by rw [← hv.length, ← hc.length]; exact hle, _, rfl, All2.of_get ?_ ?_⟩
    · simp [h1, ← hc.length]; omega
    · intro i x y hx hy
      rw [Array.getElem?_toList, h2 i] at hy
      simp only [Nat.add_zero, List.size_toArray, ← hc.length, ← hv.length] at hy
      rw [List.append_assoc, List.getElem?_append] at hx
      by_cases ha : i < off
      · rw [if_pos (by simp; omega), List.getElem?_take_of_lt ha] at hx
        rw [if_neg (by omega)] at hy
        obtain ⟨y', hy', hr⟩ := hc.get hx
        simp at hy; rw [hy] at hy'; cases hy'; exact hr
      · rw [if_neg (by simp; omega), List.length_take, Nat.min_eq_left (by omega), List.getElem?_append] at hx
        by_cases hb : i < off + vs.length
        · rw [if_pos (by omega)] at hx
          rw [if_pos (by omega)] at hy
          obtain ⟨y', hy', hr⟩ := hv.get hx
          rw [hy] at hy'; cases hy'; exact hr
        · rw [if_neg (by omega), List.getElem?_drop, show off + vs.length + (i - off - vs.length) = i from by omega] at hx
          rw [if_neg (by omega)] at hy
          obtain ⟨y', hy', hr⟩ := hc.get hx
          simp at hy; rw [hy] at hy'; cases hy'; exact hr
  · cases hs
theorem fill_sim {β : Bet} {E : Env} {a : Act} (hE : RelE β E a.tmps) {place place' : Nat → Option (Nat × Nat)} (hp : ∀ i p, place i = some p → place' i = some p) : ∀ {parts : List (Nat × Operand)} {cells cs : List V} {cells' : List Value},
    All2 (RelC β) cells cells' → fillV place E parts cells = some cs → ∃ cs' : List Value, Instr.fill place' cells'.toArray (parts.map fun x => (x.1, a.eval x.2)) = some cs'.toArray ∧ All2 (RelC β) cs cs'
  | [], cells, cs, cells', hc, h => by simp [fillV] at h; subst h; exact ⟨cells', rfl, hc⟩
  | (i, o) :: r, cells, cs, cells', hc, h => by
    simp only [fillV, Option.bind_eq_some_iff] at h
    obtain ⟨v, hv, vs, hvs, p, hpl, h⟩ := h
    split at h
    · rename_i hlen
      simp only [Option.bind_eq_some_iff] at h
      obtain ⟨cs1, hs, h⟩ := h
      have hrv := cellsV_rel (opd_rel hE hv) hvs
      obtain ⟨hle, cs1', he, hr1⟩ := splice_rel hc hrv hs
      obtain ⟨cs', hf, hr⟩ := fill_sim hE hp hr1 h
      refine ⟨cs', ?_, hr⟩
      have hsz : (a.eval o).cells.size = p.2 := by have := hrv.length; simp at this; omega
      simp only [List.map_cons, Instr.fill, hp _ _ hpl]
      have hle' : ¬ (p.1 + (a.eval o).cells.size > cells'.toArray.size) := by simp at hle ⊢; omega
      simp only [hsz] at hle'
      simp only [hsz, bne_self_eq_false, Bool.false_or, decide_eq_true_eq, gt_iff_lt]
      rw [if_neg (by simpa using hle')]
      rw [← hf, ← he]
      congr 1
      rw [← Array.foldl_toList]
      simp [Array.toList_zipIdx]
    · cases h

theorem mapM_run {α β : Type} (f : α → Sem β) (g : α → β) (w : World) : ∀ (l : List α), (∀ x ∈ l, (f x).run P w = .ok (g x) w) → (l.mapM f).run P w = .ok (l.map g) w
  | [], _ => by simp
  | x :: l, h => by
    have h1 := h x (by simp)
    have h2 := mapM_run f g w l fun y hy => h y (by simp [hy])
    simp [List.mapM_cons, h1, h2]

theorem zeroOf_some {t : TypeId} {z : List V} (h : zeroOf P t = some z) : ∃ i zv, P.info? t = some i ∧ i.zero = some zv ∧ ofCs zv.cells.toList = some z := by
  unfold zeroOf at h
  split at h
  · rename_i i hi
    split at h
    · rename_i zv hz; exact ⟨i, zv, hi, hz, h⟩
    · cases h
  · cases h

theorem buildV_sim {β : Bet} {E : Env} {a : Act} (hE : RelE β E a.tmps) {t : TypeId} {parts : Array (Nat × Operand)} {v : V} (hv : buildV P E t parts.toList = some v) :
    ∃ c, RelV β v c ∧ ∀ w, (Instr.build t (parts.map fun (i, x) => (i, a.eval x))).run P w = .ok c w := by
  unfold buildV at hv
  split at hv
  · rename_i fields hu
    simp only [Option.bind_eq_some_iff] at hv
    obtain ⟨z, hz, cs, hf, hv⟩ := hv
    split at hv
    · rename_i hall
      cases hv
      obtain ⟨i, zv, hi, hzv, hzc⟩ := zeroOf_some hz
      have hsome : ∀ f ∈ fields, ∃ fi, P.info? f.type = some fi := fun f hf => Option.isSome_iff_exists.1 (by
        have := Array.all_eq_true_iff_forall_mem.1 hall f hf; simpa using this)
      let g : Field → Nat × Nat := fun f => (f.offset, ((P.info? f.type).map (·.size)).getD 0)
      have hplaces : ∀ w : World, (fields.mapM fun f => do pure (f.offset, ← sizeOf f.type) : Sem (Array (Nat × Nat))).run P w = .ok (fields.map g) w := fun w => by
        rw [Array.mapM_eq_mapM_toList]
        rw [Sem.run_map]
        rw [mapM_run _ g w fields.toList (fun f hf => by
          obtain ⟨fi, hfi⟩ := hsome f (by simpa using hf)
          simp [sizeOf, typeInfo, hfi, g])]
        simp only [Result.andThen_ok]
        congr 1
        apply Array.ext'; simp
      obtain ⟨cs', hfill, hr⟩ := fill_sim (β := β) hE (place' := fun i => (fields.map g)[i]?) (fun j p hj => by
        split at hj
        · rename_i f hfj
          simp only [Option.map_eq_some_iff] at hj
          obtain ⟨fi, hfi, rfl⟩ := hj
          simp [hfj, g, hfi]
        · cases hj) (ofCs_rel β hzc) hf
      refine ⟨.agg cs'.toArray, ⟨cs', rfl, hr⟩, fun w => ?_⟩
      unfold Instr.build
      simp only [Sem.run_bind, zeroValue, typeInfo, run_program, Result.andThen_ok, hi, hzv, Sem.run_pure, run_underlying hu, hplaces w]
      simp only [Array.toArray_toList] at hfill
      have e : (parts.map fun (i, x) => (i, a.eval x)).toList = parts.toList.map fun x => (x.1, a.eval x.2) := by simp
      rw [e, hfill]
      rfl
    · cases hv
  · cases hv

theorem mmV_sim {β : Bet} {mx : Bool} {x y v : V} {cx cy : Value} (hx : RelV β x cx) (hy : RelV β y cy) (hv : mmV mx x y = some v) :
    ∃ c, RelV β v c ∧ ∀ w : World, (if mx then Builtin.max2 cx cy else Builtin.min2 cx cy).run P w = .ok c w := by
  unfold mmV at hv
  split at hv
  · cases hx; cases hy; cases hv
    cases mx
    · exact ⟨_, rfl, fun w => by simp [Builtin.min2]⟩
    · exact ⟨_, rfl, fun w => by simp [Builtin.max2]⟩
  · cases hv
theorem mmVs_sim {β : Bet} {mx : Bool} {E : Env} {a : Act} (hE : RelE β E a.tmps) : ∀ {l : List Operand} {x v : V} {cx : Value}, RelV β x cx → mmVs mx E x l = some v →
    ∃ c, RelV β v c ∧ ∀ w : World, ((l.map a.eval).foldlM (if mx then Builtin.max2 else Builtin.min2) cx).run P w = .ok c w
  | [], x, v, cx, hx, h => by simp [mmVs] at h; subst h; exact ⟨cx, hx, fun w => by simp⟩
  | o :: r, x, v, cx, hx, h => by
    simp only [mmVs, Option.bind_eq_some_iff] at h
    obtain ⟨y, hy, u, hu, h⟩ := h
    obtain ⟨c1, h1, h2⟩ := mmV_sim (P := P) hx (opd_rel hE hy) hu
    obtain ⟨c2, h3, h4⟩ := mmVs_sim hE h1 h
    refine ⟨c2, h3, fun w => ?_⟩
    have := h2 w
    cases mx <;> simp_all
theorem capsOf_sim {β : Bet} {E : Env} {a : Act} (hE : RelE β E a.tmps) : ∀ {l : List Operand} {cs : List (Nat × Nat)}, capsOf E l = some cs → All2 (RelP β) cs (l.map a.eval)
  | [], cs, h => by simp [capsOf] at h; subst h; trivial
  | o :: r, cs, h => by
    unfold capsOf at h
    split at h
    · rename_i id off ho
      split at h
      · cases h
      · rename_i h0
        simp only [Option.map_eq_some_iff] at h
        obtain ⟨cs', hcs, rfl⟩ := h
        refine ⟨?_, capsOf_sim hE hcs⟩
        rcases opd_rel hE ho with ⟨h0', _⟩ | ⟨_, l, hb, he⟩
        · exact absurd h0' h0
        · exact ⟨l, hb, h0, he⟩
    · cases h

theorem qOp_sim {B : Nat} {β : Bet} {h : H} {w : World} (hH : RelH B β h w) {E : Env} {a : Act} (hE : RelE β E a.tmps) (i : Nat) (o : Oper) {v : V} (hv : qOp P E h o.op = some v) :
    ∃ c, RelV β v c ∧ ∀ w', AgreeR β h w w' (readsOf E h i o.op) → (execOp a.eval o).run P w' = .ok (.value c) w' := by
  have lift : ∀ {s : Sem Value} {c : Value} {w' : World}, s.run P w' = .ok c w' → (do pure (Next.value (← s)) : Sem Next).run P w' = .ok (.value c) w' := fun hs => by simp [hs]
  unfold qOp at hv
  unfold execOp
  split at hv
  · rename_i x ho
    rw [ho]
    exact ⟨_, opd_rel hE hv, fun w' _ => by simp⟩
  · rename_i x ho
    rw [ho]
    exact ⟨_, opd_rel hE hv, fun w' _ => by simp⟩
  · rename_i c x y ho
    rw [ho]
    simp only [Option.bind_eq_some_iff] at hv
    obtain ⟨cv, hc, hv⟩ := hv
    split at hv
    · rename_i t
      have hcc : a.eval c = .bool t := opd_rel hE hc
      cases t
      · exact ⟨_, opd_rel hE (by simpa using hv), fun w' _ => by simp [hcc, asBool]⟩
      · exact ⟨_, opd_rel hE (by simpa using hv), fun w' _ => by simp [hcc, asBool]⟩
    · cases hv
  · rename_i t x ho
    rw [ho]
    simp only [Option.bind_eq_some_iff] at hv
    obtain ⟨p, hp, hv⟩ := hv
    obtain ⟨c, h1, h2⟩ := ldV_sim hH (opd_rel hE hp) hv E i x hp
    exact ⟨c, h1, fun w' hw => lift (h2 w' hw)⟩
  · rename_i x ho
    rw [ho]
    simp only [Option.bind_eq_some_iff] at hv
    obtain ⟨p, hp, hv⟩ := hv
    have hr := opd_rel hE hp
    split at hv
    · rename_i id off
      split at hv
      · cases hv
      · rename_i h0
        cases hv
        rcases hr with ⟨h0', _⟩ | ⟨_, l, hb, he⟩
        · exact absurd h0' h0
        · exact ⟨_, .inr ⟨h0, l, hb, rfl⟩, fun w' _ => by simp [he]⟩
    · cases hv
      obtain ⟨cs, he, hcs⟩ := hr
      exact ⟨_, ⟨cs, rfl, hcs⟩, fun w' _ => by simp [he]⟩
    · cases hv
  · rename_i op t x y yt ho
    rw [ho]
    simp only [Option.bind_eq_some_iff] at hv
    obtain ⟨u, hu, y', hy', hv⟩ := hv
    obtain ⟨c, h1, h2⟩ := binV_sim (opd_rel hE hu) (opd_rel hE hy') x y hv
    exact ⟨c, h1, fun w' _ => lift (h2 w')⟩
  · rename_i op t x ho
    rw [ho]
    simp only [Option.bind_eq_some_iff] at hv
    obtain ⟨u, hu, hv⟩ := hv
    obtain ⟨c, h1, h2⟩ := unV_sim (P := P) (opd_rel hE hu) hv
    exact ⟨c, h1, fun w' _ => lift (h2 w')⟩
  · rename_i s d x ho
    rw [ho]
    simp only [Option.bind_eq_some_iff] at hv
    obtain ⟨u, hu, hv⟩ := hv
    obtain ⟨c, h1, h2⟩ := cvV_sim hH (opd_rel hE hu) hv E i x hu
    exact ⟨c, h1, fun w' hw => lift (h2 w' hw)⟩
  · rename_i t x lo hi mx ho
    rw [ho]
    simp only [Option.bind_eq_some_iff] at hv
    obtain ⟨u, hu, hv⟩ := hv
    obtain ⟨c, h1, h2⟩ := slV_sim hE (opd_rel hE hu) hv
    exact ⟨c, h1, fun w' _ => lift (h2 w')⟩
  · rename_i s x f ho
    rw [ho]
    simp only [Option.bind_eq_some_iff] at hv
    obtain ⟨u, hu, hv⟩ := hv
    obtain ⟨c, h1, h2⟩ := fldAddr_sim (opd_rel hE hu) hv
    exact ⟨c, h1, fun w' _ => lift (h2 w')⟩
  · rename_i s x f ho
    rw [ho]
    simp only [Option.bind_eq_some_iff] at hv
    obtain ⟨u, hu, hv⟩ := hv
    obtain ⟨c, h1, h2⟩ := fldV_sim (opd_rel hE hu) hv
    exact ⟨c, h1, fun w' _ => lift (h2 w')⟩
  · rename_i t x y ho
    rw [ho]
    simp only [Option.bind_eq_some_iff] at hv
    obtain ⟨u, hu, y', hy', hv⟩ := hv
    obtain ⟨c, h1, h2⟩ := idxAddr_sim (opd_rel hE hu) (opd_rel hE hy') hv
    exact ⟨c, h1, fun w' _ => lift (h2 w')⟩
  · rename_i t x y ho
    rw [ho]
    simp only [Option.bind_eq_some_iff] at hv
    obtain ⟨u, hu, y', hy', hv⟩ := hv
    obtain ⟨c, h1, h2⟩ := idxV_sim (opd_rel hE hu) (opd_rel hE hy') hv
    exact ⟨c, h1, fun w' _ => lift (h2 w')⟩
  · rename_i x k ho
    rw [ho]
    simp only [Option.bind_eq_some_iff] at hv
    obtain ⟨u, hu, hv⟩ := hv
    obtain ⟨c, h1, h2⟩ := extV_sim (P := P) (opd_rel hE hu) hv
    exact ⟨c, h1, fun w' _ => lift (h2 w')⟩
  · rename_i t parts ho
    rw [ho]
    obtain ⟨c, h1, h2⟩ := buildV_sim hE hv
    exact ⟨c, h1, fun w' _ => lift (h2 w')⟩
  · rename_i f first caps ho
    rw [ho]
    split at hv
    · rename_i hf
      simp only [Option.map_eq_some_iff] at hv
      obtain ⟨cs, hcs, rfl⟩ := hv
      have hf' : first = #[] := by simpa using hf
      subst hf'
      have := capsOf_sim hE hcs
      refine ⟨_, ⟨caps.toList.map a.eval, rfl, this⟩, fun w' _ => ?_⟩
      simp [Instr.makeFunc]
      apply Array.ext'; simp
    · cases hv
  · rename_i c ho
    rw [ho]
    split at hv
    · rename_i x t ts hcal hargs htys
      simp only [Option.bind_eq_some_iff] at hv
      obtain ⟨u, hu, hv⟩ := hv
      obtain ⟨cv, h1, h2⟩ := lenV_sim (P := P) (opd_rel hE hu) hv
      refine ⟨cv, h1, fun w' _ => ?_⟩
      have e1 : c.args = #[x] := by rw [← Array.toArray_toList (xs := c.args), hargs]
      have e2 : c.argTypes = (t :: ts).toArray := by rw [← Array.toArray_toList (xs := c.argTypes), htys]
      simp [resolve, hcal, invoke, builtin, e1, e2, h2]
    · rename_i x r hcal hargs
      simp only [Option.bind_eq_some_iff] at hv
      obtain ⟨u, hu, hv⟩ := hv
      obtain ⟨cv, h1, h2⟩ := mmVs_sim (P := P) hE (opd_rel hE hu) hv
      refine ⟨cv, h1, fun w' _ => ?_⟩
      have e1 : c.args = (x :: r).toArray := by rw [← Array.toArray_toList (xs := c.args), hargs]
      have := h2 w'
      simp [resolve, hcal, invoke, builtin, e1, Builtin.min_] at this ⊢
      simp [this]
    · rename_i x r hcal hargs
      simp only [Option.bind_eq_some_iff] at hv
      obtain ⟨u, hu, hv⟩ := hv
      obtain ⟨cv, h1, h2⟩ := mmVs_sim (P := P) hE (opd_rel hE hu) hv
      refine ⟨cv, h1, fun w' _ => ?_⟩
      have e1 : c.args = (x :: r).toArray := by rw [← Array.toArray_toList (xs := c.args), hargs]
      have := h2 w'
      simp [resolve, hcal, invoke, builtin, e1, Builtin.max_] at this ⊢
      simp [this]
    · cases hv
  · cases hv
end Go.Proofs.Ythoabddfionmoaa.AH
